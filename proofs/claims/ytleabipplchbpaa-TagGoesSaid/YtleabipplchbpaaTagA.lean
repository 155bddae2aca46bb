/-
  Walks over chains, part 1: tag.Step, the reference's Step. (Printed by wip/tools/tagA.py.)
-/
import Derived.Test.YtleabipplchbpaaDrawnK
namespace Go.Proofs.Ytleabipplchbpaa
open Go.RowKit
set_option maxRecDepth 100000
set_option maxHeartbeats 4000000 in
theorem step_any (h : List Nat) (hl : h.length = 32) (hb : ∀ x ∈ h, x < 256) (ps : List (List Nat)) (hpb : ∀ x ∈ ps.flatten, x < 256) (hpl : ps.flatten.length ≤ 100000) (B : Option Addr) (m cb : Nat) (hm : m ≤ 100000) (w : World) (hp : RdP w B m ps) :
    Calls Try.prog 27 #[.agg (ints .u8 h), .slice B m cb] w fun e w' => e = .returned (.agg (ints .u8 (hash (h ++ ps.flatten)))) ∧ Below w.heap.size w w' := by
  obtain ⟨xs, hx, hv⟩ := hp.values
  have h1 := hv.one
  obtain ⟨R, hR⟩ : ∃ R, R = hash (h ++ ps.flatten) := ⟨_, rfl⟩
  have rl : R.length = 32 := by rw [hR]; exact hash_len _
  have HS : Hid (∀ (A : Option Addr) (c : Nat) (w : World), RdP w A (m + 1) (h :: ps) → Calls Try.prog 22 #[.slice A (m + 1) c] w fun e w' => e = .returned (.agg (ints .u8 R)) ∧ Below w.heap.size w w') :=
    Lib.hid fun A c w hp => by
      have := sum_any (h :: ps) (by rw [List.flatten_cons, List.length_append, hl]; omega) (by
        rw [List.flatten_cons]
        intro x hx
        rcases List.mem_append.1 hx with h2 | h2
        · exact hb x h2
        · exact hpb x h2) A (m + 1) c w hp (by omega)
      rwa [List.flatten_cons, ← hR] at this
  have HR := Lib.hid hR
  clear hR hpb hb
  go_enter Try.func27, Try.ntmps27
  have hs := St.nil w
  go_wp2_with (first
    | (with_reducible refine wpl_boxRow (o := ⟨some 2, _, _, _, _, _⟩) hs rfl 27 _ rfl (ints .u8 h) rfl ?_; clear hs; intro g2 w1 hs)
    | (with_reducible refine wpl_allocRow (o := ⟨some 4, _, _, _, _, _⟩) hs rfl 27 rfl _ (zero27 _) ?_; clear hs; intro g4 w2 hs))
  refine reg_K 6 (Since0 w2.drew) (by kernel_rfl) (by kernel_rfl) ?_
  replace hs := hs.drew
  have hs0 := hs
  replace hs := St.nil w2.drew
  have hx1 := hx.st hs0
  have hv1 := hv.st hs0
  have hh1 := Rd.of_ints hs0 (.tail .head) hl
  refine K_take (i := 0) (oi := ⟨some 5, _, _, _, _, _⟩) rfl (by decide) (by kernel_rfl) (by kernel_rfl) (fun _ _ _ h => h) (v := .slice B m cb) (Or.inl ⟨by rfl, fun w' _ => by go_simp⟩) hs.below ?_
  simp only [Act.put, List.setIfInBounds_toArray, List.set_cons_zero, List.set_cons_succ]
  refine K_take (i := 2) (oi := ⟨some 7, _, _, _, _, _⟩) rfl (by decide) (by kernel_rfl) (by kernel_rfl) (fun _ _ _ h => h) (v := .slice (some ⟨g2, 0, none⟩) 32 32) (Or.inl ⟨by rfl, fun w' _ => by go_simp⟩) hs.below ?_
  simp only [Act.put, List.setIfInBounds_toArray, List.set_cons_zero, List.set_cons_succ]
  refine K_all (rs := [1, 3]) (by kernel_rfl) (by decide) (by decide) ?_
  intro i hi
  simp only [List.mem_cons, List.mem_nil_iff, or_false] at hi
  rcases hi with rfl | rfl
  · refine K_op (o := ⟨_, _, _, _, _, _⟩) rfl ?_
    intro KK hKK
    go_wp2_with (go_at_call 44; refine (clone_of xs h1 _ _ _ hm _ (hx1.st hs)).mono ?_; rintro e w3 ⟨A3, c3, rfl, ho3, hb3⟩; replace hs := hs.push hb3 ho3; clear hb3 ho3)
    refine kpost (hKK.out _ _ ⟨hs.below, ?_⟩)
    clear hKK KK
    refine K_one (i := 3) (by kernel_rfl) (by decide) ?_
    refine K_op (o := ⟨_, _, _, _, _, _⟩) rfl ?_
    intro KK hKK
    go_wp2_with (with_reducible refine wpl_slice1 hs rfl 23 _ rfl 22 (.slice (some ⟨g2, 0, none⟩) 32 32) rfl (lit1s _ _ _) ?_; clear hs; intro g8 w5 hs)
    refine kpost (hKK.out _ _ ⟨hs.below, ?_⟩)
    clear hKK KK
    refine K_one (i := 4) (by kernel_rfl) (by decide) ?_
    refine K_op (o := ⟨_, _, _, _, _, _⟩) rfl ?_
    intro KK hKK
    replace hs := (hs.pick (.tail .head)).pick (.tail .head)
    go_wp2_with (go_at_call 43; refine (insert_any _ _ _ _ xs h1 _ _ _ hm hs).mono ?_; clear hs; rintro e w7 ⟨A7, c7, rfl, hs⟩)
    refine kpost (hKK.out _ _ ⟨hs.below, ?_⟩)
    clear hKK KK
    refine K_one (i := 5) (by kernel_rfl) (by decide) ?_
    refine K_op (o := ⟨_, _, _, _, _, _⟩) rfl ?_
    intro KK hKK
    have hpp := ((hv1.st hs).cons (c := 32) (hh1.st hs)).parts (Rd.of_own (hs.has_own .head))
    go_wp2_with (go_at_call 22; refine (HS.out _ _ _ hpp).mono ?_; clear hpp; rintro e w9 ⟨rfl, hb9⟩; replace hs := hs.call hb9; clear hb9)
    refine kpost (hKK.out _ _ ⟨hs.below, ?_⟩)
    clear hKK KK
    refine K_done (by kernel_rfl) ?_
    simp only [List.drop_succ_cons, List.drop_zero]
    replace hs := hs0.since hs
    clear hs0
    go_wp2_with (with_reducible refine wpl_storeRow hs rfl 27 _ _ rfl g4 (ints .u8 R) rfl rfl 27 _ (.tail .head) row27 (sizeI rl) (sizeI List.length_replicate) (ints_oneCell _ _) ?_; clear hs; intro w8 hs)
    exact ret_row hs rfl g4 27 _ rfl (.tail .head) row27 (sizeI rl) rfl ⟨by rw [HR.out], hs.below⟩
  · refine K_op (o := ⟨_, _, _, _, _, _⟩) rfl ?_
    intro KK hKK
    go_wp2_with (with_reducible refine wpl_slice1 hs rfl 23 _ rfl 22 (.slice (some ⟨g2, 0, none⟩) 32 32) rfl (lit1s _ _ _) ?_; clear hs; intro g8 w5 hs)
    refine kpost (hKK.out _ _ ⟨hs.below, ?_⟩)
    clear hKK KK
    refine K_one (i := 1) (by kernel_rfl) (by decide) ?_
    refine K_op (o := ⟨_, _, _, _, _, _⟩) rfl ?_
    intro KK hKK
    go_wp2_with (go_at_call 44; refine (clone_of xs h1 _ _ _ hm _ (hx1.st hs)).mono ?_; rintro e w3 ⟨A3, c3, rfl, ho3, hb3⟩; replace hs := hs.push hb3 ho3; clear hb3 ho3)
    refine kpost (hKK.out _ _ ⟨hs.below, ?_⟩)
    clear hKK KK
    refine K_one (i := 4) (by kernel_rfl) (by decide) ?_
    refine K_op (o := ⟨_, _, _, _, _, _⟩) rfl ?_
    intro KK hKK
    replace hs := (hs.pick .head).pick (.tail .head)
    go_wp2_with (go_at_call 43; refine (insert_any _ _ _ _ xs h1 _ _ _ hm hs).mono ?_; clear hs; rintro e w7 ⟨A7, c7, rfl, hs⟩)
    refine kpost (hKK.out _ _ ⟨hs.below, ?_⟩)
    clear hKK KK
    refine K_one (i := 5) (by kernel_rfl) (by decide) ?_
    refine K_op (o := ⟨_, _, _, _, _, _⟩) rfl ?_
    intro KK hKK
    have hpp := ((hv1.st hs).cons (c := 32) (hh1.st hs)).parts (Rd.of_own (hs.has_own .head))
    go_wp2_with (go_at_call 22; refine (HS.out _ _ _ hpp).mono ?_; clear hpp; rintro e w9 ⟨rfl, hb9⟩; replace hs := hs.call hb9; clear hb9)
    refine kpost (hKK.out _ _ ⟨hs.below, ?_⟩)
    clear hKK KK
    refine K_done (by kernel_rfl) ?_
    simp only [List.drop_succ_cons, List.drop_zero]
    replace hs := hs0.since hs
    clear hs0
    go_wp2_with (with_reducible refine wpl_storeRow hs rfl 27 _ _ rfl g4 (ints .u8 R) rfl rfl 27 _ (.tail .head) row27 (sizeI rl) (sizeI List.length_replicate) (ints_oneCell _ _) ?_; clear hs; intro w8 hs)
    exact ret_row hs rfl g4 27 _ rfl (.tail .head) row27 (sizeI rl) rfl ⟨by rw [HR.out], hs.below⟩
set_option maxHeartbeats 4000000 in
theorem rstep_any (h : List Nat) (hl : h.length = 32) (hb : ∀ x ∈ h, x < 256) (ps : List (List Nat)) (hpb : ∀ x ∈ ps.flatten, x < 256) (hpl : ps.flatten.length ≤ 100000) (B : Option Addr) (m cb : Nat) (hm : m ≤ 100000) (w : World) (hp : RdP w B m ps) :
    Calls Try.prog 28 #[.agg (ints .u8 h), .slice B m cb] w fun e w' => e = .returned (.agg (ints .u8 (hash (h ++ ps.flatten)))) ∧ Below w.heap.size w w' := by
  obtain ⟨xs, hx, hv⟩ := hp.values
  have h1 := hv.one
  obtain ⟨R, hR⟩ : ∃ R, R = hash (h ++ ps.flatten) := ⟨_, rfl⟩
  have rl : R.length = 32 := by rw [hR]; exact hash_len _
  have HS : Hid (∀ (A : Option Addr) (c : Nat) (w : World), RdP w A (1 + m) (h :: ps) → Calls Try.prog 46 #[.slice A (1 + m) c] w fun e w' => e = .returned (.agg (ints .u8 R)) ∧ Below w.heap.size w w') :=
    Lib.hid fun A c w hp => by
      have := rsum_any (h :: ps) (by rw [List.flatten_cons, List.length_append, hl]; omega) (by
        rw [List.flatten_cons]
        intro x hx
        rcases List.mem_append.1 hx with h2 | h2
        · exact hb x h2
        · exact hpb x h2) A (1 + m) c w hp (by omega)
      rwa [List.flatten_cons, ← hR] at this
  have HR := Lib.hid hR
  clear hR hpb hb
  go_enter Try.func28, Try.ntmps28
  have hs := St.nil w
  go_wp2_with (first
    | (with_reducible refine wpl_boxRow (o := ⟨some 2, _, _, _, _, _⟩) hs rfl 27 _ rfl (ints .u8 h) rfl ?_; clear hs; intro g2 w1 hs)
    | (with_reducible refine wpl_allocRow (o := ⟨some 4, _, _, _, _, _⟩) hs rfl 27 rfl _ (zero27 _) ?_; clear hs; intro g4 w2 hs)
    | ((with_reducible refine wpl_slice0 (o := ⟨some 5, _, _, _, _, _⟩) hs rfl 22 rfl 5 1 lit0b ?_); clear hs; intro g5 w3 hs; replace hs : St w w3 (numsR (some ⟨g5, 0, none⟩) 0 0 5 .u8 [] :: _) := hs; have hr2 := Rd.of_ints hs (.tail (.tail .head)) hl)
    | ((with_reducible refine wpl_appendI (o := ⟨some 7, _, _, _, _, _⟩) (m := 32) hs rfl _ _ 22 rfl rfl rfl (fun _ _ => .head) hr2 Try.underlying22 el5 (by decide) (by decide) ?_); clear hs hr2; intro A7 c7 w4 _ hs; rw [List.nil_append] at hs)
    | ((with_reducible refine wpl_sliceOwn1 (o := ⟨some 8, _, _, _, _, _⟩) hs rfl 23 _ rfl 22 (.slice A7 (0 + 32) c7) rfl (lit1s _ _ _) ?_); clear hs; intro g8 w5 hs; replace hs : St w w5 (rowR (some ⟨g8, 0, none⟩) 1 1 22 1 [.slice A7 (0 + 32) c7] :: _) := hs; have hrx := hx.st hs)
    | ((with_reducible refine wpl_append (o := ⟨some 10, _, _, _, _, _⟩) (news := xs) hs rfl _ _ 23 rfl rfl rfl (fun _ _ => .head) hrx h1 Try.underlying23 el22 (by unfold maxLen; omega) (by omega) ?_); clear hs hrx; intro A9 c9 w6 _ hs; have hpp := ((hv.st hs).cons (c := c7) (Rd.of_own (hs.has_nums (.tail .head)))).parts (Rd.of_own (hs.has_own .head)))
    | (go_at_call 46; refine (HS.out _ _ _ hpp).mono ?_; clear hpp; rintro e w7 ⟨rfl, hb7⟩; replace hs := hs.call hb7; clear hb7)
    | (with_reducible refine wpl_storeRow hs rfl 27 _ _ rfl g4 (ints .u8 R) rfl rfl 27 _ (.tail (.tail .head)) row27 (sizeI rl) (sizeI List.length_replicate) (ints_oneCell _ _) ?_; clear hs; intro w8 hs))
  exact ret_row hs rfl g4 27 _ rfl (.tail (.tail .head)) row27 (sizeI rl) rfl ⟨by rw [HR.out], hs.below⟩
end Go.Proofs.Ytleabipplchbpaa
