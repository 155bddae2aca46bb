/-
  Walks over the keyed hash, part 5: mac.Mac. (Printed by wip/tools/mac16.py.)
-/
import Derived.Test.YtleabipplchbpaaDrawn
namespace Go.Proofs.Ytleabipplchbpaa
open Go.RowKit
set_option maxRecDepth 100000
/-- THE KEYED HASH. -/
def macOf (key m : List Nat) : List Nat := hash (xorL 92 (blk64 key) ++ hash (xorL 54 (blk64 key) ++ m))
theorem macOf_len (key m : List Nat) : (macOf key m).length = 32 := hash_len _
theorem macOf_lt (key m : List Nat) : ∀ x ∈ macOf key m, x < 256 := hash_lt _
set_option maxHeartbeats 8000000 in
theorem mac_any (key : List Nat) (hk : ∀ x ∈ key, x < 256) (ps : List (List Nat)) (hpb : ∀ x ∈ ps.flatten, x < 256) (hpl : ps.flatten.length ≤ 100000) (A B : Option Addr) (n c m cb : Nat) (hn : n ≤ 100000) (hm : m ≤ 100000) (w : World) (hr : RdI w .u8 A n key) (hp : RdP w B m ps) :
    Calls Try.prog 16 #[.slice A n c, .slice B m cb] w fun e w' => e = .returned (.agg (ints .u8 (macOf key ps.flatten))) ∧ Below w.heap.size w w' := by
  obtain ⟨xs, hx, hv⟩ := hp.values
  have h1 := hv.one
  obtain ⟨b, hb⟩ : ∃ b, b = blk64 key := ⟨_, rfl⟩
  have bl : b.length = 64 := by rw [hb]; exact blk_len key
  have bsm : ∀ x ∈ b, x < 256 := by rw [hb]; exact blk_lt hk
  have xl : (xorL 54 b).length = 64 := (xorL_len 54 b).trans bl
  have xl2 : (xorL 92 b).length = 64 := (xorL_len 92 b).trans bl
  obtain ⟨H, hH⟩ : ∃ H, H = hash (xorL 54 b ++ ps.flatten) := ⟨_, rfl⟩
  have hl : H.length = 32 := by rw [hH]; exact hash_len _
  obtain ⟨R, hR⟩ : ∃ R, R = hash (xorL 92 b ++ H) := ⟨_, rfl⟩
  have rl : R.length = 32 := by rw [hR]; exact hash_len _
  have hRR : R = macOf key ps.flatten := by rw [hR, hH, hb]; rfl
  have HS1 : Hid (∀ (A : Option Addr) (c : Nat) (w : World), RdP w A (m + 1) (xorL 54 b :: ps) → Calls Try.prog 22 #[.slice A (m + 1) c] w fun e w' => e = .returned (.agg (ints .u8 H)) ∧ Below w.heap.size w w') :=
    Lib.hid fun A c w hp => by
      have := sum_any (xorL 54 b :: ps) (by rw [List.flatten_cons, List.length_append, xl]; omega) (by
        rw [List.flatten_cons]
        intro x hx
        rcases List.mem_append.1 hx with h | h
        · exact xorL_lt (by decide) bsm x h
        · exact hpb x h) A (m + 1) c w hp (by omega)
      rwa [List.flatten_cons, ← hH] at this
  have HS2 : Hid (∀ (A : Option Addr) (c : Nat) (w : World), RdP w A 2 [xorL 92 b, H] → Calls Try.prog 22 #[.slice A 2 c] w fun e w' => e = .returned (.agg (ints .u8 R)) ∧ Below w.heap.size w w') :=
    Lib.hid fun A c w hp => by
      have hf : [xorL 92 b, H].flatten = xorL 92 b ++ H := by simp
      have := sum_any [xorL 92 b, H] (by rw [hf, List.length_append, xl2, hl]; omega) (by
        rw [hf]
        intro x hx
        rcases List.mem_append.1 hx with h | h
        · exact xorL_lt (by decide) bsm x h
        · rw [hH] at h; exact hash_lt _ x h) A 2 c w hp (by omega)
      rwa [hf, ← hR] at this
  have HB : Hid (∀ w, RdI w .u8 A n key → Calls Try.prog 19 #[.slice A n c] w fun e w' => e = .returned (.agg (ints .u8 b)) ∧ Below w.heap.size w w') :=
    Lib.hid fun w hr => by
      have := block_any key hk A n c hn w hr
      rwa [← hb] at this
  have HRR := Lib.hid hRR
  clear hRR hR hH hb hpb hk
  go_enter Try.func16, Try.ntmps16
  have hs := St.nil w
  go_wp2_with (first
    | (with_reducible refine wpl_allocRow (o := ⟨some 4, _, _, _, _, _⟩) hs rfl 27 rfl _ (zero27 _) ?_; clear hs; intro g4 w2 hs)
    | (go_at_call 19; refine (HB.out _ (hr.st hs)).mono ?_; rintro e w3 ⟨rfl, hb3⟩; replace hs := hs.call hb3; clear hb3)
    | (with_reducible refine wpl_allocRow (o := ⟨some 5, _, _, _, _, _⟩) hs rfl 31 rfl _ (zero31 _) ?_; clear hs; intro g5 w2 hs)
    | (with_reducible refine wpl_storeRow hs rfl 31 _ _ rfl g5 (ints .u8 b) rfl rfl 31 _ .head row31 (sizeI bl) (sizeI List.length_replicate) (ints_oneCell _ _) ?_; clear hs; intro w6 hs))
  refine Code.wp_mono (Q := fun e a' w' => e = .normal ∧ ∃ (u10 u12 u13 u14 : Value) (g6 : Nat), a' = { tmps := #[.slice A n c, .slice B m cb, undef, undef, .pointer (some ⟨g4, 0, none⟩), .pointer (some ⟨g5, 0, none⟩), .pointer (some ⟨g6, 0, none⟩), .slice A n c, .agg (ints .u8 b), .slice B m cb, u10, .agg (ints .u8 b), u12, u13, u14, .agg (ints .u8 H), undef, undef, undef, undef, undef], defers := [] } ∧ St w w' [.blk g6 27 (ints .u8 H), .blk g5 31 (ints .u8 b), .blk g4 27 (ints .u8 (List.replicate 32 0))]) ?cont ?region
  case region =>
    refine wp_region_held (S := fun W => W.heap[g5]? = some (.cells (ints .u8 b) 31 (0, 0))) (by kernel_rfl) ?_
    replace hs := hs.drew
    refine wpAnyH_take (i := 0) rfl (by kernel_rfl) (by kernel_rfl) (by kernel_rfl) (fun _ _ _ h => nomatch h.1) (v := .slice B m cb) (Or.inl ⟨by rfl, fun w' _ => by go_simp⟩) (hs.row .head) ?_
    refine wpAnyH_take (i := 2) rfl (by kernel_rfl) (by kernel_rfl) (by kernel_rfl) (fun _ _ _ h => nomatch h.1) (v := .agg (ints .u8 b)) (yields_row (by rfl) 31 _ rfl g5 rfl 31 _ (fun _ h => h) row31 (sizeI bl)) (hs.row .head) ?_
    simp only [Act.put, List.setIfInBounds_toArray, List.set_cons_zero, List.set_cons_succ]
    refine wpAnyH_all (rs := [1, 7]) (by kernel_rfl) (by decide) ?_
    intro i hi
    simp only [List.mem_cons, List.mem_nil_iff, or_false] at hi
    rcases hi with rfl | rfl
    · refine wpOp_of_list (o := ⟨_, _, _, _, _, _⟩) rfl ?_
      go_wp2_with (go_at_call 44; refine (clone_of xs h1 _ _ _ hm _ (hx.st hs)).mono ?_; rintro e w3 ⟨A3, c3, rfl, ho3, hb3⟩; replace hs := hs.push hb3 ho3; clear hb3 ho3)
      refine kpost ⟨hs.row (.tail .head), ?_⟩
      refine wpAnyH_all (rs := [3, 7]) (by kernel_rfl) (by decide) ?_
      intro i hi
      simp only [List.mem_cons, List.mem_nil_iff, or_false] at hi
      rcases hi with rfl | rfl
      · refine wpOp_of_list (o := ⟨_, _, _, _, _, _⟩) rfl ?_
        go_wp2_with (go_at_call 45; refine (mpad_any b bsm bl 54 (by decide) _).mono ?_; rintro e w4 ⟨g12, rfl, hs4⟩; replace hs := hs.join hs4; clear hs4)
        refine kpost ⟨hs.row (.tail (.tail .head)), ?_⟩
        refine wpAnyH_all (rs := [4, 7]) (by kernel_rfl) (by decide) ?_
        intro i hi
        simp only [List.mem_cons, List.mem_nil_iff, or_false] at hi
        rcases hi with rfl | rfl
        · refine wpOp_of_list (o := ⟨_, _, _, _, _, _⟩) rfl ?_
          go_wp2_with (with_reducible refine wpl_slice1 hs rfl 23 _ rfl 22 (.slice (some ⟨g12, 0, none⟩) 64 64) rfl (lit1s _ _ _) ?_; clear hs; intro g13 w5 hs)
          refine kpost ⟨hs.row (.tail (.tail (.tail .head))), ?_⟩
          refine wpAnyH_all (rs := [5, 7]) (by kernel_rfl) (by decide) ?_
          intro i hi
          simp only [List.mem_cons, List.mem_nil_iff, or_false] at hi
          rcases hi with rfl | rfl
          · refine wpOp_of_list (o := ⟨_, _, _, _, _, _⟩) rfl ?_
            replace hs := (hs.pick (.tail (.tail .head))).pick (.tail .head)
            go_wp2_with (go_at_call 43; refine (insert_any _ _ _ _ xs h1 _ _ _ hm hs).mono ?_; clear hs; rintro e w7 ⟨A7, c7, rfl, hs⟩)
            refine kpost ⟨hs.row (.tail (.tail .head)), ?_⟩
            refine wpAnyH_all (rs := [6, 7]) (by kernel_rfl) (by decide) ?_
            intro i hi
            simp only [List.mem_cons, List.mem_nil_iff, or_false] at hi
            rcases hi with rfl | rfl
            · refine wpOp_of_list (o := ⟨_, _, _, _, _, _⟩) rfl ?_
              have hpp := ((hv.st hs).cons (c := 64) (Rd.of_ints hs (.tail .head) xl)).parts (Rd.of_own (hs.has_own .head))
              go_wp2_with (go_at_call 22; refine (HS1.out _ _ _ hpp).mono ?_; clear hpp; rintro e w9 ⟨rfl, hb9⟩; replace hs := hs.call hb9; clear hb9)
              refine kpost ⟨hs.row (.tail (.tail .head)), ?_⟩
              refine wpAnyH_all (rs := [7]) (by kernel_rfl) (by decide) ?_
              intro i hi
              obtain rfl := List.mem_singleton.1 hi
              clear hi
              refine wpOp_of_list (o := ⟨_, _, _, _, _, _⟩) rfl ?_
              go_wp2_with (with_reducible refine wpl_allocRow (o := ⟨some 6, _, _, _, _, _⟩) hs rfl 27 rfl _ (zero27 _) ?_; clear hs; intro g6 w6 hs)
              refine kpost ⟨hs.row (.tail (.tail (.tail .head))), ?_⟩
              refine wpAnyH_all (rs := [8]) (by kernel_rfl) (by decide) ?_
              intro i hi
              obtain rfl := List.mem_singleton.1 hi
              clear hi
              refine wpOp_of_list (o := ⟨_, _, _, _, _, _⟩) rfl ?_
              go_wp2_with (with_reducible refine wpl_storeRow hs rfl 27 _ _ rfl g6 (ints .u8 H) rfl rfl 27 _ .head row27 (sizeI hl) (sizeI List.length_replicate) (ints_oneCell _ _) ?_; clear hs; intro w8 hs)
              refine kpost ⟨hs.row (.tail (.tail (.tail .head))), ?_⟩
              refine wpAnyH_done (by kernel_rfl) ?_ _
              exact ⟨rfl, _, _, _, _, _, rfl, (((hs.pick (.tail (.tail (.tail (.tail .head))))).pick (.tail (.tail (.tail (.tail .head))))).pick (.tail (.tail .head))).sub (.cons_cons _ (.cons_cons _ (.cons_cons _ (List.nil_sublist _))))⟩
            · refine wpOp_of_list (o := ⟨_, _, _, _, _, _⟩) rfl ?_
              go_wp2_with (with_reducible refine wpl_allocRow (o := ⟨some 6, _, _, _, _, _⟩) hs rfl 27 rfl _ (zero27 _) ?_; clear hs; intro g6 w6 hs)
              refine kpost ⟨hs.row (.tail (.tail (.tail .head))), ?_⟩
              refine wpAnyH_all (rs := [6]) (by kernel_rfl) (by decide) ?_
              intro i hi
              obtain rfl := List.mem_singleton.1 hi
              clear hi
              refine wpOp_of_list (o := ⟨_, _, _, _, _, _⟩) rfl ?_
              have hpp := ((hv.st hs).cons (c := 64) (Rd.of_ints hs (.tail (.tail .head)) xl)).parts (Rd.of_own (hs.has_own (.tail .head)))
              go_wp2_with (go_at_call 22; refine (HS1.out _ _ _ hpp).mono ?_; clear hpp; rintro e w9 ⟨rfl, hb9⟩; replace hs := hs.call hb9; clear hb9)
              refine kpost ⟨hs.row (.tail (.tail (.tail .head))), ?_⟩
              refine wpAnyH_all (rs := [8]) (by kernel_rfl) (by decide) ?_
              intro i hi
              obtain rfl := List.mem_singleton.1 hi
              clear hi
              refine wpOp_of_list (o := ⟨_, _, _, _, _, _⟩) rfl ?_
              go_wp2_with (with_reducible refine wpl_storeRow hs rfl 27 _ _ rfl g6 (ints .u8 H) rfl rfl 27 _ .head row27 (sizeI hl) (sizeI List.length_replicate) (ints_oneCell _ _) ?_; clear hs; intro w8 hs)
              refine kpost ⟨hs.row (.tail (.tail (.tail .head))), ?_⟩
              refine wpAnyH_done (by kernel_rfl) ?_ _
              exact ⟨rfl, _, _, _, _, _, rfl, (((hs.pick (.tail (.tail (.tail (.tail .head))))).pick (.tail (.tail (.tail (.tail .head))))).pick (.tail (.tail .head))).sub (.cons_cons _ (.cons_cons _ (.cons_cons _ (List.nil_sublist _))))⟩
          · refine wpOp_of_list (o := ⟨_, _, _, _, _, _⟩) rfl ?_
            go_wp2_with (with_reducible refine wpl_allocRow (o := ⟨some 6, _, _, _, _, _⟩) hs rfl 27 rfl _ (zero27 _) ?_; clear hs; intro g6 w6 hs)
            refine kpost ⟨hs.row (.tail (.tail (.tail (.tail .head)))), ?_⟩
            refine wpAnyH_all (rs := [5]) (by kernel_rfl) (by decide) ?_
            intro i hi
            obtain rfl := List.mem_singleton.1 hi
            clear hi
            refine wpOp_of_list (o := ⟨_, _, _, _, _, _⟩) rfl ?_
            replace hs := (hs.pick (.tail (.tail (.tail .head)))).pick (.tail (.tail .head))
            go_wp2_with (go_at_call 43; refine (insert_any _ _ _ _ xs h1 _ _ _ hm hs).mono ?_; clear hs; rintro e w7 ⟨A7, c7, rfl, hs⟩)
            refine kpost ⟨hs.row (.tail (.tail (.tail .head))), ?_⟩
            refine wpAnyH_all (rs := [6]) (by kernel_rfl) (by decide) ?_
            intro i hi
            obtain rfl := List.mem_singleton.1 hi
            clear hi
            refine wpOp_of_list (o := ⟨_, _, _, _, _, _⟩) rfl ?_
            have hpp := ((hv.st hs).cons (c := 64) (Rd.of_ints hs (.tail (.tail .head)) xl)).parts (Rd.of_own (hs.has_own .head))
            go_wp2_with (go_at_call 22; refine (HS1.out _ _ _ hpp).mono ?_; clear hpp; rintro e w9 ⟨rfl, hb9⟩; replace hs := hs.call hb9; clear hb9)
            refine kpost ⟨hs.row (.tail (.tail (.tail .head))), ?_⟩
            refine wpAnyH_all (rs := [8]) (by kernel_rfl) (by decide) ?_
            intro i hi
            obtain rfl := List.mem_singleton.1 hi
            clear hi
            refine wpOp_of_list (o := ⟨_, _, _, _, _, _⟩) rfl ?_
            go_wp2_with (with_reducible refine wpl_storeRow hs rfl 27 _ _ rfl g6 (ints .u8 H) rfl rfl 27 _ (.tail .head) row27 (sizeI hl) (sizeI List.length_replicate) (ints_oneCell _ _) ?_; clear hs; intro w8 hs)
            refine kpost ⟨hs.row (.tail (.tail (.tail .head))), ?_⟩
            refine wpAnyH_done (by kernel_rfl) ?_ _
            exact ⟨rfl, _, _, _, _, _, rfl, (((hs.pick (.tail (.tail (.tail (.tail .head))))).pick (.tail (.tail (.tail (.tail .head))))).pick (.tail (.tail (.tail .head)))).sub (.cons_cons _ (.cons_cons _ (.cons_cons _ (List.nil_sublist _))))⟩
        · refine wpOp_of_list (o := ⟨_, _, _, _, _, _⟩) rfl ?_
          go_wp2_with (with_reducible refine wpl_allocRow (o := ⟨some 6, _, _, _, _, _⟩) hs rfl 27 rfl _ (zero27 _) ?_; clear hs; intro g6 w6 hs)
          refine kpost ⟨hs.row (.tail (.tail (.tail .head))), ?_⟩
          refine wpAnyH_all (rs := [4]) (by kernel_rfl) (by decide) ?_
          intro i hi
          obtain rfl := List.mem_singleton.1 hi
          clear hi
          refine wpOp_of_list (o := ⟨_, _, _, _, _, _⟩) rfl ?_
          go_wp2_with (with_reducible refine wpl_slice1 hs rfl 23 _ rfl 22 (.slice (some ⟨g12, 0, none⟩) 64 64) rfl (lit1s _ _ _) ?_; clear hs; intro g13 w5 hs)
          refine kpost ⟨hs.row (.tail (.tail (.tail (.tail .head)))), ?_⟩
          refine wpAnyH_all (rs := [5]) (by kernel_rfl) (by decide) ?_
          intro i hi
          obtain rfl := List.mem_singleton.1 hi
          clear hi
          refine wpOp_of_list (o := ⟨_, _, _, _, _, _⟩) rfl ?_
          replace hs := (hs.pick (.tail (.tail (.tail .head)))).pick (.tail .head)
          go_wp2_with (go_at_call 43; refine (insert_any _ _ _ _ xs h1 _ _ _ hm hs).mono ?_; clear hs; rintro e w7 ⟨A7, c7, rfl, hs⟩)
          refine kpost ⟨hs.row (.tail (.tail (.tail .head))), ?_⟩
          refine wpAnyH_all (rs := [6]) (by kernel_rfl) (by decide) ?_
          intro i hi
          obtain rfl := List.mem_singleton.1 hi
          clear hi
          refine wpOp_of_list (o := ⟨_, _, _, _, _, _⟩) rfl ?_
          have hpp := ((hv.st hs).cons (c := 64) (Rd.of_ints hs (.tail (.tail .head)) xl)).parts (Rd.of_own (hs.has_own .head))
          go_wp2_with (go_at_call 22; refine (HS1.out _ _ _ hpp).mono ?_; clear hpp; rintro e w9 ⟨rfl, hb9⟩; replace hs := hs.call hb9; clear hb9)
          refine kpost ⟨hs.row (.tail (.tail (.tail .head))), ?_⟩
          refine wpAnyH_all (rs := [8]) (by kernel_rfl) (by decide) ?_
          intro i hi
          obtain rfl := List.mem_singleton.1 hi
          clear hi
          refine wpOp_of_list (o := ⟨_, _, _, _, _, _⟩) rfl ?_
          go_wp2_with (with_reducible refine wpl_storeRow hs rfl 27 _ _ rfl g6 (ints .u8 H) rfl rfl 27 _ (.tail .head) row27 (sizeI hl) (sizeI List.length_replicate) (ints_oneCell _ _) ?_; clear hs; intro w8 hs)
          refine kpost ⟨hs.row (.tail (.tail (.tail .head))), ?_⟩
          refine wpAnyH_done (by kernel_rfl) ?_ _
          exact ⟨rfl, _, _, _, _, _, rfl, (((hs.pick (.tail (.tail (.tail (.tail .head))))).pick (.tail (.tail (.tail (.tail .head))))).pick (.tail (.tail (.tail .head)))).sub (.cons_cons _ (.cons_cons _ (.cons_cons _ (List.nil_sublist _))))⟩
      · refine wpOp_of_list (o := ⟨_, _, _, _, _, _⟩) rfl ?_
        go_wp2_with (with_reducible refine wpl_allocRow (o := ⟨some 6, _, _, _, _, _⟩) hs rfl 27 rfl _ (zero27 _) ?_; clear hs; intro g6 w6 hs)
        refine kpost ⟨hs.row (.tail (.tail .head)), ?_⟩
        refine wpAnyH_all (rs := [3]) (by kernel_rfl) (by decide) ?_
        intro i hi
        obtain rfl := List.mem_singleton.1 hi
        clear hi
        refine wpOp_of_list (o := ⟨_, _, _, _, _, _⟩) rfl ?_
        go_wp2_with (go_at_call 45; refine (mpad_any b bsm bl 54 (by decide) _).mono ?_; rintro e w4 ⟨g12, rfl, hs4⟩; replace hs := hs.join hs4; clear hs4)
        refine kpost ⟨hs.row (.tail (.tail (.tail .head))), ?_⟩
        refine wpAnyH_all (rs := [4]) (by kernel_rfl) (by decide) ?_
        intro i hi
        obtain rfl := List.mem_singleton.1 hi
        clear hi
        refine wpOp_of_list (o := ⟨_, _, _, _, _, _⟩) rfl ?_
        go_wp2_with (with_reducible refine wpl_slice1 hs rfl 23 _ rfl 22 (.slice (some ⟨g12, 0, none⟩) 64 64) rfl (lit1s _ _ _) ?_; clear hs; intro g13 w5 hs)
        refine kpost ⟨hs.row (.tail (.tail (.tail (.tail .head)))), ?_⟩
        refine wpAnyH_all (rs := [5]) (by kernel_rfl) (by decide) ?_
        intro i hi
        obtain rfl := List.mem_singleton.1 hi
        clear hi
        refine wpOp_of_list (o := ⟨_, _, _, _, _, _⟩) rfl ?_
        replace hs := (hs.pick (.tail (.tail (.tail .head)))).pick (.tail .head)
        go_wp2_with (go_at_call 43; refine (insert_any _ _ _ _ xs h1 _ _ _ hm hs).mono ?_; clear hs; rintro e w7 ⟨A7, c7, rfl, hs⟩)
        refine kpost ⟨hs.row (.tail (.tail (.tail .head))), ?_⟩
        refine wpAnyH_all (rs := [6]) (by kernel_rfl) (by decide) ?_
        intro i hi
        obtain rfl := List.mem_singleton.1 hi
        clear hi
        refine wpOp_of_list (o := ⟨_, _, _, _, _, _⟩) rfl ?_
        have hpp := ((hv.st hs).cons (c := 64) (Rd.of_ints hs (.tail .head) xl)).parts (Rd.of_own (hs.has_own .head))
        go_wp2_with (go_at_call 22; refine (HS1.out _ _ _ hpp).mono ?_; clear hpp; rintro e w9 ⟨rfl, hb9⟩; replace hs := hs.call hb9; clear hb9)
        refine kpost ⟨hs.row (.tail (.tail (.tail .head))), ?_⟩
        refine wpAnyH_all (rs := [8]) (by kernel_rfl) (by decide) ?_
        intro i hi
        obtain rfl := List.mem_singleton.1 hi
        clear hi
        refine wpOp_of_list (o := ⟨_, _, _, _, _, _⟩) rfl ?_
        go_wp2_with (with_reducible refine wpl_storeRow hs rfl 27 _ _ rfl g6 (ints .u8 H) rfl rfl 27 _ (.tail (.tail .head)) row27 (sizeI hl) (sizeI List.length_replicate) (ints_oneCell _ _) ?_; clear hs; intro w8 hs)
        refine kpost ⟨hs.row (.tail (.tail (.tail .head))), ?_⟩
        refine wpAnyH_done (by kernel_rfl) ?_ _
        exact ⟨rfl, _, _, _, _, _, rfl, (((hs.pick (.tail (.tail (.tail (.tail .head))))).pick (.tail (.tail (.tail (.tail .head))))).pick (.tail (.tail (.tail (.tail .head))))).sub (.cons_cons _ (.cons_cons _ (.cons_cons _ (List.nil_sublist _))))⟩
    · refine wpOp_of_list (o := ⟨_, _, _, _, _, _⟩) rfl ?_
      go_wp2_with (with_reducible refine wpl_allocRow (o := ⟨some 6, _, _, _, _, _⟩) hs rfl 27 rfl _ (zero27 _) ?_; clear hs; intro g6 w6 hs)
      refine kpost ⟨hs.row (.tail .head), ?_⟩
      refine wpAnyH_all (rs := [1]) (by kernel_rfl) (by decide) ?_
      intro i hi
      obtain rfl := List.mem_singleton.1 hi
      clear hi
      refine wpOp_of_list (o := ⟨_, _, _, _, _, _⟩) rfl ?_
      go_wp2_with (go_at_call 44; refine (clone_of xs h1 _ _ _ hm _ (hx.st hs)).mono ?_; rintro e w3 ⟨A3, c3, rfl, ho3, hb3⟩; replace hs := hs.push hb3 ho3; clear hb3 ho3)
      refine kpost ⟨hs.row (.tail (.tail .head)), ?_⟩
      refine wpAnyH_all (rs := [3]) (by kernel_rfl) (by decide) ?_
      intro i hi
      obtain rfl := List.mem_singleton.1 hi
      clear hi
      refine wpOp_of_list (o := ⟨_, _, _, _, _, _⟩) rfl ?_
      go_wp2_with (go_at_call 45; refine (mpad_any b bsm bl 54 (by decide) _).mono ?_; rintro e w4 ⟨g12, rfl, hs4⟩; replace hs := hs.join hs4; clear hs4)
      refine kpost ⟨hs.row (.tail (.tail (.tail .head))), ?_⟩
      refine wpAnyH_all (rs := [4]) (by kernel_rfl) (by decide) ?_
      intro i hi
      obtain rfl := List.mem_singleton.1 hi
      clear hi
      refine wpOp_of_list (o := ⟨_, _, _, _, _, _⟩) rfl ?_
      go_wp2_with (with_reducible refine wpl_slice1 hs rfl 23 _ rfl 22 (.slice (some ⟨g12, 0, none⟩) 64 64) rfl (lit1s _ _ _) ?_; clear hs; intro g13 w5 hs)
      refine kpost ⟨hs.row (.tail (.tail (.tail (.tail .head)))), ?_⟩
      refine wpAnyH_all (rs := [5]) (by kernel_rfl) (by decide) ?_
      intro i hi
      obtain rfl := List.mem_singleton.1 hi
      clear hi
      refine wpOp_of_list (o := ⟨_, _, _, _, _, _⟩) rfl ?_
      replace hs := (hs.pick (.tail (.tail .head))).pick (.tail .head)
      go_wp2_with (go_at_call 43; refine (insert_any _ _ _ _ xs h1 _ _ _ hm hs).mono ?_; clear hs; rintro e w7 ⟨A7, c7, rfl, hs⟩)
      refine kpost ⟨hs.row (.tail (.tail (.tail .head))), ?_⟩
      refine wpAnyH_all (rs := [6]) (by kernel_rfl) (by decide) ?_
      intro i hi
      obtain rfl := List.mem_singleton.1 hi
      clear hi
      refine wpOp_of_list (o := ⟨_, _, _, _, _, _⟩) rfl ?_
      have hpp := ((hv.st hs).cons (c := 64) (Rd.of_ints hs (.tail .head) xl)).parts (Rd.of_own (hs.has_own .head))
      go_wp2_with (go_at_call 22; refine (HS1.out _ _ _ hpp).mono ?_; clear hpp; rintro e w9 ⟨rfl, hb9⟩; replace hs := hs.call hb9; clear hb9)
      refine kpost ⟨hs.row (.tail (.tail (.tail .head))), ?_⟩
      refine wpAnyH_all (rs := [8]) (by kernel_rfl) (by decide) ?_
      intro i hi
      obtain rfl := List.mem_singleton.1 hi
      clear hi
      refine wpOp_of_list (o := ⟨_, _, _, _, _, _⟩) rfl ?_
      go_wp2_with (with_reducible refine wpl_storeRow hs rfl 27 _ _ rfl g6 (ints .u8 H) rfl rfl 27 _ (.tail (.tail .head)) row27 (sizeI hl) (sizeI List.length_replicate) (ints_oneCell _ _) ?_; clear hs; intro w8 hs)
      refine kpost ⟨hs.row (.tail (.tail (.tail .head))), ?_⟩
      refine wpAnyH_done (by kernel_rfl) ?_ _
      exact ⟨rfl, _, _, _, _, _, rfl, (((hs.pick (.tail (.tail (.tail (.tail .head))))).pick (.tail (.tail (.tail (.tail .head))))).pick (.tail (.tail (.tail (.tail .head))))).sub (.cons_cons _ (.cons_cons _ (.cons_cons _ (List.nil_sublist _))))⟩
  case cont =>
    clear hs
    rintro e a' w' ⟨rfl, u10, u12, u13, u14, g6, rfl, hs⟩
    go_wp2_with fail
    refine wp_region_held (S := fun W => W.heap[g5]? = some (.cells (ints .u8 b) 31 (0, 0))) (by kernel_rfl) ?_
    replace hs := hs.drew
    refine wpAnyH_take (i := 0) rfl (by kernel_rfl) (by kernel_rfl) (by kernel_rfl) (fun _ _ _ h => h) (v := .agg (ints .u8 b)) (yields_row (by rfl) 31 _ rfl g5 rfl 31 _ (fun _ h => h) row31 (sizeI bl)) (hs.row (.tail .head)) ?_
    refine wpAnyH_take (i := 2) rfl (by kernel_rfl) (by kernel_rfl) (by kernel_rfl) (fun _ _ _ h => h) (v := .slice (some ⟨g6, 0, none⟩) 32 32) (Or.inl ⟨by rfl, fun w' _ => by go_simp⟩) (hs.row (.tail .head)) ?_
    simp only [Act.put, List.setIfInBounds_toArray]
    refine wpAnyH_all (rs := [1]) (by kernel_rfl) (by decide) ?_
    intro i hi
    obtain rfl := List.mem_singleton.1 hi
    clear hi
    refine wpOp_of_list (o := ⟨_, _, _, _, _, _⟩) rfl ?_
    go_wp2_with (go_at_call 45; refine (mpad_any b bsm bl 92 (by decide) _).mono ?_; rintro e w4 ⟨g17, rfl, hs4⟩; replace hs := hs.join hs4; clear hs4)
    refine kpost ⟨hs.row (.tail (.tail .head)), ?_⟩
    refine wpAnyH_all (rs := [3]) (by kernel_rfl) (by decide) ?_
    intro i hi
    obtain rfl := List.mem_singleton.1 hi
    clear hi
    refine wpOp_of_list (o := ⟨_, _, _, _, _, _⟩) rfl ?_
    go_wp2_with (with_reducible refine wpl_slice2 hs rfl 23 _ _ rfl 22 (.slice (some ⟨g17, 0, none⟩) 64 64) (.slice (some ⟨g6, 0, none⟩) 32 32) rfl rfl (lit2s _ _ _ _ _ _) ?_; clear hs; intro g19 w5 hs)
    refine kpost ⟨hs.row (.tail (.tail (.tail .head))), ?_⟩
    have hpp := RdP.of_blk2 hs .head (Rd.of_ints hs (.tail .head) xl2) (Rd.of_ints hs (.tail (.tail .head)) hl)
    refine wpAnyH_all (rs := [4]) (by kernel_rfl) (by decide) ?_
    intro i hi
    obtain rfl := List.mem_singleton.1 hi
    clear hi
    refine wpOp_of_list (o := ⟨_, _, _, _, _, _⟩) rfl ?_
    go_wp2_with (go_at_call 22; refine (HS2.out _ _ _ hpp).mono ?_; clear hpp; rintro e w9 ⟨rfl, hb9⟩; replace hs := hs.call hb9; clear hb9)
    refine kpost ⟨hs.row (.tail (.tail (.tail .head))), ?_⟩
    refine wpAnyH_all (rs := [5]) (by kernel_rfl) (by decide) ?_
    intro i hi
    obtain rfl := List.mem_singleton.1 hi
    clear hi
    refine wpOp_of_list (o := ⟨_, _, _, _, _, _⟩) rfl ?_
    go_wp2_with (with_reducible refine wpl_storeRow hs rfl 27 _ _ rfl g4 (ints .u8 R) rfl rfl 27 _ (.tail (.tail (.tail (.tail .head)))) row27 (sizeI rl) (sizeI List.length_replicate) (ints_oneCell _ _) ?_; clear hs; intro w8 hs)
    refine kpost ⟨hs.row (.tail (.tail (.tail .head))), ?_⟩
    refine wpAnyH_done (by kernel_rfl) ?_ _
    go_wp2_with fail
    exact ret_row hs rfl g4 27 _ rfl (.tail (.tail (.tail (.tail .head)))) row27 (sizeI rl) rfl ⟨by rw [HRR.out], hs.below⟩
end Go.Proofs.Ytleabipplchbpaa

