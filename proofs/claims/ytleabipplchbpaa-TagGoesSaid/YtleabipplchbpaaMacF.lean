/-
  Walks over the keyed hash, part 6: the reference's Mac. (Printed by wip/tools/rmac18.py.)
-/
import Derived.Test.YtleabipplchbpaaMacE
namespace Go.Proofs.Ytleabipplchbpaa
open Go.RowKit
set_option maxRecDepth 100000
theorem make64 (w : World) : (Instr.makeSlice 22 (.int .i64 64) (.int .i64 64)).run Try.prog w = .ok (.slice (some ⟨w.heap.size, 0, none⟩) 64 64) (w.alloc (.cells (ints .u8 (List.replicate 64 0)) 5)) := by
  kernel_rfl
theorem wpl_make64 {ops : Array Oper} {rest : List Oper} {o : Oper} {a : Act} {w w0 : World} {Q : Exit → Act → World → Prop} {L : List Res} (hs : St w0 w L) (hgd : o.guard = none) (ho : o.op = .makeSlice 22 (.const (.int .i64 64)) (.const (.int .i64 64)))
    (h : ∀ g w', St w0 w' (.blk g 5 (ints .u8 (List.replicate 64 0)) :: L) → wpList Try.prog ops Q rest (a.put o.dst (.slice (some ⟨g, 0, none⟩) 64 64)) w') : wpList Try.prog ops Q (o :: rest) a w :=
  wpList_plain hgd fun _ hK => by
    unfold Oper.wp execOp
    simp only [ho, Act.eval, Sem.run_bind, make64, Result.andThen_ok]
    exact hK _ _ (h w.heap.size _ (hs.alloc 5 _))
theorem wpAnyH_one {P : Program} {md : Region.Mode} {ops : Array Oper} {Q : Exit → Act → World → Prop} {S : World → Prop} {fuel : Nat} {listed : Array Bool} {a : Act} {w : World} {i : Nat} (hr : Region.ready md ops listed = [i])
    (h : wpOp P ops Q i (fun a' w' => S w' ∧ wpAnyH P md ops Q S fuel (listed.setIfInBounds i true) a' w') a w) : wpAnyH P md ops Q S (fuel + 1) listed a w :=
  wpAnyH_all hr (by simp) fun j hj => by
    rw [List.mem_singleton.1 hj]
    exact h
/-- One operation of a drawn region, what comes behind it behind a letter. -/
theorem wpOp_hid {P : Program} {ops : Array Oper} {Q : Exit → Act → World → Prop} {K : Act → World → Prop} {i : Nat} {o : Oper} {a : Act} {w : World} (hi : ops[i]? = some o)
    (h : ∀ K' : Act → World → Prop, Hid (∀ a w, K a w → K' a w) → wpList P ops (Kpost K' Q) [o] a w) : wpOp P ops Q i K a w :=
  wpOp_of_list hi (h K (Lib.hid fun _ _ h => h))
theorem frow_xor (c : Nat) {b : List Nat} (hb : b.length = 64) : frow (fun i => at_ b i ^^^ c) 64 64 = xorL c b := by
  rw [frow_full]
  apply List.ext_getElem
  · simp [xorL, hb]
  · intro i h1 h2
    have : i < b.length := by simpa [xorL] using h2
    simp [xorL, at_, List.getD, this]
set_option maxHeartbeats 8000000 in
theorem rmac_any (key : List Nat) (hk : ∀ x ∈ key, x < 256) (ps : List (List Nat)) (hpb : ∀ x ∈ ps.flatten, x < 256) (hpl : ps.flatten.length ≤ 100000) (A B : Option Addr) (n c m cb : Nat) (hn : n ≤ 100000) (hm : m ≤ 100000) (w : World) (hr : RdI w .u8 A n key) (hp : RdP w B m ps) :
    Calls Try.prog 18 #[.slice A n c, .slice B m cb] w fun e w' => e = .returned (.agg (ints .u8 (macOf key ps.flatten))) ∧ Below w.heap.size w w' := by
  obtain ⟨xs, hx, hv⟩ := hp.values
  have h1 := hv.one
  obtain ⟨b, hb⟩ : ∃ b, b = blk64 key := ⟨_, rfl⟩
  have bl : b.length = 64 := by rw [hb]; exact blk_len key
  have bsm : ∀ x ∈ b, x < 256 := by rw [hb]; exact blk_lt hk
  have xl : (xorL 54 b).length = 64 := (xorL_len 54 b).trans bl
  have xl2 : (xorL 92 b).length = 64 := (xorL_len 92 b).trans bl
  obtain ⟨H, hH⟩ : ∃ H, H = hash (xorL 54 b ++ ps.flatten) := ⟨_, rfl⟩
  have hl : H.length = 32 := by rw [hH]; exact hash_len _
  obtain ⟨R, hR⟩ : ∃ R, R = hash (xorL 92 b ++ H) := ⟨_, rfl⟩
  have rl : R.length = 32 := by rw [hR]; exact hash_len _
  have hRR : R = macOf key ps.flatten := by rw [hR, hH, hb]; rfl
  have HS1 : Hid (∀ (A : Option Addr) (c : Nat) (w : World), RdP w A (1 + m) (xorL 54 b :: ps) → Calls Try.prog 46 #[.slice A (1 + m) c] w fun e w' => e = .returned (.agg (ints .u8 H)) ∧ Below w.heap.size w w') :=
    Lib.hid fun A c w hp => by
      have := rsum_any (xorL 54 b :: ps) (by rw [List.flatten_cons, List.length_append, xl]; omega) (by
        rw [List.flatten_cons]
        intro x hx
        rcases List.mem_append.1 hx with h | h
        · exact xorL_lt (by decide) bsm x h
        · exact hpb x h) A (1 + m) c w hp (by omega)
      rwa [List.flatten_cons, ← hH] at this
  have HS2 : Hid (∀ (A : Option Addr) (c : Nat) (w : World), RdP w A 2 [xorL 92 b, H] → Calls Try.prog 46 #[.slice A 2 c] w fun e w' => e = .returned (.agg (ints .u8 R)) ∧ Below w.heap.size w w') :=
    Lib.hid fun A c w hp => by
      have hf : [xorL 92 b, H].flatten = xorL 92 b ++ H := by simp
      have := rsum_any [xorL 92 b, H] (by rw [hf, List.length_append, xl2, hl]; omega) (by
        rw [hf]
        intro x hx
        rcases List.mem_append.1 hx with h | h
        · exact xorL_lt (by decide) bsm x h
        · rw [hH] at h; exact hash_lt _ x h) A 2 c w hp (by omega)
      rwa [hf, ← hR] at this
  have HB : Hid (∀ w, RdI w .u8 A n key → Calls Try.prog 20 #[.slice A n c] w fun e w' => e = .returned (.agg (ints .u8 b)) ∧ Below w.heap.size w w') :=
    Lib.hid fun w hr => by
      have := rblock_any key hk A n c hn w hr
      rwa [← hb] at this
  have HRR := Lib.hid hRR
  clear hRR hR hH hb hpb hk
  go_enter Try.func18, Try.ntmps18
  have hs := St.nil w
  go_wp2_with (first
    | (with_reducible refine wpl_allocRow (o := ⟨some 4, _, _, _, _, _⟩) hs rfl 27 rfl _ (zero27 _) ?_; clear hs; intro g4 w2 hs)
    | (go_at_call 20; refine (HB.out _ (hr.st hs)).mono ?_; rintro e w3 ⟨rfl, hb3⟩; replace hs := hs.call hb3; clear hb3)
    | (with_reducible refine wpl_allocRow (o := ⟨some 5, _, _, _, _, _⟩) hs rfl 31 rfl _ (zero31 _) ?_; clear hs; intro g5 w2 hs)
    | (with_reducible refine wpl_storeRow hs rfl 31 _ _ rfl g5 (ints .u8 b) rfl rfl 31 _ .head row31 (sizeI bl) (sizeI List.length_replicate) (ints_oneCell _ _) ?_; clear hs; intro w6 hs))
  refine Code.wp_mono (Q := fun e a' w' => e = .normal ∧ ∃ (g6 g7 : Nat), a' = { tmps := #[.slice A n c, .slice B m cb, undef, undef, .pointer (some ⟨g4, 0, none⟩), .pointer (some ⟨g5, 0, none⟩), .slice (some ⟨g6, 0, none⟩) 64 64, .slice (some ⟨g7, 0, none⟩) 64 64, undef, undef, .slice A n c, .agg (ints .u8 b), .slice (some ⟨g6, 0, none⟩) 64 64, .slice (some ⟨g7, 0, none⟩) 64 64, undef, undef, undef, undef, undef, undef, undef, undef, undef, undef, undef, undef, undef, undef, undef, undef, undef, undef, undef, undef, undef, undef, undef, undef, undef, undef, undef], defers := [] } ∧ St w w' [.blk g7 5 (ints .u8 (List.replicate 64 0)), .blk g6 5 (ints .u8 (List.replicate 64 0)), .blk g5 31 (ints .u8 b), .blk g4 27 (ints .u8 (List.replicate 32 0))]) ?cont ?region
  case region =>
    refine wp_region_held (S := fun W => W.heap[g5]? = some (.cells (ints .u8 b) 31 (0, 0))) (by kernel_rfl) ?_
    replace hs := hs.drew
    refine wpAnyH_all (rs := [0, 1]) (by kernel_rfl) (by decide) ?_
    intro i hi
    simp only [List.mem_cons, List.mem_nil_iff, or_false] at hi
    rcases hi with rfl | rfl
    · refine wpOp_of_list (o := ⟨_, _, _, _, _, _⟩) rfl ?_
      go_wp2_with (with_reducible refine wpl_make64 (o := ⟨some 12, _, _, _, _, _⟩) hs rfl rfl ?_; clear hs; intro g6 w6 hs)
      refine kpost ⟨hs.row (.tail .head), ?_⟩
      refine wpAnyH_all (rs := [1, 2]) (by kernel_rfl) (by decide) ?_
      intro i hi
      simp only [List.mem_cons, List.mem_nil_iff, or_false] at hi
      rcases hi with rfl | rfl
      · refine wpOp_of_list (o := ⟨_, _, _, _, _, _⟩) rfl ?_
        go_wp2_with (with_reducible refine wpl_make64 (o := ⟨some 13, _, _, _, _, _⟩) hs rfl rfl ?_; clear hs; intro g7 w7 hs)
        refine kpost ⟨hs.row (.tail (.tail .head)), ?_⟩
        refine wpAnyH_all (rs := [2]) (by kernel_rfl) (by decide) ?_
        intro i hi
        obtain rfl := List.mem_singleton.1 hi
        clear hi
        refine wpOp_of_list (o := ⟨_, _, _, _, _, _⟩) rfl ?_
        go_wp2_with (fail)
        refine kpost ⟨hs.row (.tail (.tail .head)), ?_⟩
        refine wpAnyH_all (rs := [3]) (by kernel_rfl) (by decide) ?_
        intro i hi
        obtain rfl := List.mem_singleton.1 hi
        clear hi
        refine wpOp_of_list (o := ⟨_, _, _, _, _, _⟩) rfl ?_
        go_wp2_with (fail)
        refine kpost ⟨hs.row (.tail (.tail .head)), ?_⟩
        refine wpAnyH_done (by kernel_rfl) ?_ _
        exact ⟨rfl, _, _, rfl, hs⟩
      · refine wpOp_of_list (o := ⟨_, _, _, _, _, _⟩) rfl ?_
        go_wp2_with (fail)
        refine kpost ⟨hs.row (.tail .head), ?_⟩
        refine wpAnyH_all (rs := [1]) (by kernel_rfl) (by decide) ?_
        intro i hi
        obtain rfl := List.mem_singleton.1 hi
        clear hi
        refine wpOp_of_list (o := ⟨_, _, _, _, _, _⟩) rfl ?_
        go_wp2_with (with_reducible refine wpl_make64 (o := ⟨some 13, _, _, _, _, _⟩) hs rfl rfl ?_; clear hs; intro g7 w7 hs)
        refine kpost ⟨hs.row (.tail (.tail .head)), ?_⟩
        refine wpAnyH_all (rs := [3]) (by kernel_rfl) (by decide) ?_
        intro i hi
        obtain rfl := List.mem_singleton.1 hi
        clear hi
        refine wpOp_of_list (o := ⟨_, _, _, _, _, _⟩) rfl ?_
        go_wp2_with (fail)
        refine kpost ⟨hs.row (.tail (.tail .head)), ?_⟩
        refine wpAnyH_done (by kernel_rfl) ?_ _
        exact ⟨rfl, _, _, rfl, hs⟩
    · refine wpOp_of_list (o := ⟨_, _, _, _, _, _⟩) rfl ?_
      go_wp2_with (with_reducible refine wpl_make64 (o := ⟨some 13, _, _, _, _, _⟩) hs rfl rfl ?_; clear hs; intro g7 w7 hs)
      refine kpost ⟨hs.row (.tail .head), ?_⟩
      refine wpAnyH_all (rs := [0]) (by kernel_rfl) (by decide) ?_
      intro i hi
      obtain rfl := List.mem_singleton.1 hi
      clear hi
      refine wpOp_of_list (o := ⟨_, _, _, _, _, _⟩) rfl ?_
      go_wp2_with (with_reducible refine wpl_make64 (o := ⟨some 12, _, _, _, _, _⟩) hs rfl rfl ?_; clear hs; intro g6 w6 hs)
      refine kpost ⟨hs.row (.tail (.tail .head)), ?_⟩
      refine wpAnyH_all (rs := [2]) (by kernel_rfl) (by decide) ?_
      intro i hi
      obtain rfl := List.mem_singleton.1 hi
      clear hi
      refine wpOp_of_list (o := ⟨_, _, _, _, _, _⟩) rfl ?_
      go_wp2_with (fail)
      refine kpost ⟨hs.row (.tail (.tail .head)), ?_⟩
      refine wpAnyH_all (rs := [3]) (by kernel_rfl) (by decide) ?_
      intro i hi
      obtain rfl := List.mem_singleton.1 hi
      clear hi
      refine wpOp_of_list (o := ⟨_, _, _, _, _, _⟩) rfl ?_
      go_wp2_with (fail)
      refine kpost ⟨hs.row (.tail (.tail .head)), ?_⟩
      refine wpAnyH_done (by kernel_rfl) ?_ _
      exact ⟨rfl, _, _, rfl, hs.pick (.tail .head)⟩
  case cont =>
    clear hs
    rintro e a' w' ⟨rfl, g6, g7, rfl, hs⟩
    go_wp2_with fail
    rw [← frow_zero (fun i => at_ b i ^^^ 54)] at hs
    go_loopw [8] (fun t wr => ∃ k : Nat, k ≤ 64 ∧ t = .int .i64 k ∧ St w wr [.blk g7 5 (ints .u8 (frow (fun i => at_ b i ^^^ 92) 64 k)), .blk g6 5 (ints .u8 (frow (fun i => at_ b i ^^^ 54) 64 k)), .blk g5 31 (ints .u8 b), .blk g4 27 (ints .u8 (List.replicate 32 0))]) (fun t _ => 64 - (intOf t).toNat)
    case atStart => exact ⟨0, by omega, rfl, hs⟩
    case round =>
      clear hs
      obtain ⟨k, hk, rfl, hs⟩ := hrel
      by_cases h64 : k < 64
      · have d1 : decide ((k : Int) < 64) = true := by simp; omega
        have i1 : (k : Int) < 64 := by omega
        have fl6 := frow_len (fun i => at_ b i ^^^ 54) hk
        have fl7 := frow_len (fun i => at_ b i ^^^ 92) hk
        have hl6 : k < (frow (fun i => at_ b i ^^^ 54) 64 k).length := by rw [fl6]; exact h64
        have hl7 : k < (frow (fun i => at_ b i ^^^ 92) 64 k).length := by rw [fl7]; exact h64
        have e0 : 0 ≤ (k : Int) := by omega
        have x1 := u8_xor_nat (at_ b k) 54 (at_lt bsm (by decide) k) (by decide)
        have x2 := u8_xor_nat (at_ b k) 92 (at_lt bsm (by decide) k) (by decide)
        have hcell : ∀ W : World, W.heap[g5]? = some (.cells (ints .u8 b) 31 (0, 0)) → W.cell? ⟨g5, k, none⟩ = some (.int .u8 (at_ b k : Nat)) := fun W h => (cell_of_row W g5 k _ _ _ h).trans (ints_get (by omega))
        have HC := Lib.hid hcell
        clear hcell
        go_wp2_with fail
        refine wp_region_held (S := fun W => W.heap[g5]? = some (.cells (ints .u8 b) 31 (0, 0))) (by kernel_rfl) ?_
        replace hs := hs.drew
        refine wpAnyH_take (i := 0) (oi := ⟨some 18, _, _, _, _, _⟩) rfl (by kernel_rfl) (by kernel_rfl) (by kernel_rfl) (fun _ _ _ h => h) (v := .slice (some ⟨g6, 0, none⟩) 64 64) (Or.inl ⟨by rfl, fun w' hS => by have hc := HC.out w' hS; go_simp; (first | done | exact x1 | exact x2)⟩) (hs.row (.tail (.tail .head))) ?_
        simp only [Act.put, List.setIfInBounds_toArray, List.set_cons_zero, List.set_cons_succ]
        refine wpAnyH_take (i := 1) (oi := ⟨some 19, _, _, _, _, _⟩) rfl (by kernel_rfl) (by kernel_rfl) (by kernel_rfl) (fun _ _ _ h => h) (v := .int .i64 k) (Or.inl ⟨by rfl, fun w' hS => by have hc := HC.out w' hS; go_simp; (first | done | exact x1 | exact x2)⟩) (hs.row (.tail (.tail .head))) ?_
        simp only [Act.put, List.setIfInBounds_toArray, List.set_cons_zero, List.set_cons_succ]
        refine wpAnyH_take (i := 2) (oi := ⟨some 20, _, _, _, _, _⟩) rfl (by kernel_rfl) (by kernel_rfl) (by kernel_rfl) (fun _ _ _ h => h) (v := .slice (some ⟨g7, 0, none⟩) 64 64) (Or.inl ⟨by rfl, fun w' hS => by have hc := HC.out w' hS; go_simp; (first | done | exact x1 | exact x2)⟩) (hs.row (.tail (.tail .head))) ?_
        simp only [Act.put, List.setIfInBounds_toArray, List.set_cons_zero, List.set_cons_succ]
        refine wpAnyH_take (i := 3) (oi := ⟨some 21, _, _, _, _, _⟩) rfl (by kernel_rfl) (by kernel_rfl) (by kernel_rfl) (fun _ _ _ h => h) (v := .int .i64 k) (Or.inl ⟨by rfl, fun w' hS => by have hc := HC.out w' hS; go_simp; (first | done | exact x1 | exact x2)⟩) (hs.row (.tail (.tail .head))) ?_
        simp only [Act.put, List.setIfInBounds_toArray, List.set_cons_zero, List.set_cons_succ]
        refine wpAnyH_take (i := 4) (oi := ⟨some 22, _, _, _, _, _⟩) rfl (by kernel_rfl) (by kernel_rfl) (by kernel_rfl) (fun _ _ _ h => h) (v := .int .i64 k) (Or.inl ⟨by rfl, fun w' hS => by have hc := HC.out w' hS; go_simp; (first | done | exact x1 | exact x2)⟩) (hs.row (.tail (.tail .head))) ?_
        simp only [Act.put, List.setIfInBounds_toArray, List.set_cons_zero, List.set_cons_succ]
        refine wpAnyH_take (i := 5) (oi := ⟨some 23, _, _, _, _, _⟩) rfl (by kernel_rfl) (by kernel_rfl) (by kernel_rfl) (fun _ _ _ h => h) (v := .pointer (some ⟨g5, k, none⟩)) (Or.inl ⟨by rfl, fun w' hS => by have hc := HC.out w' hS; go_simp; (first | done | exact x1 | exact x2)⟩) (hs.row (.tail (.tail .head))) ?_
        simp only [Act.put, List.setIfInBounds_toArray, List.set_cons_zero, List.set_cons_succ]
        refine wpAnyH_take (i := 6) (oi := ⟨some 24, _, _, _, _, _⟩) rfl (by kernel_rfl) (by kernel_rfl) (by kernel_rfl) (fun _ _ _ h => h) (v := .int .u8 (at_ b k : Nat)) (Or.inl ⟨by rfl, fun w' hS => by have hc := HC.out w' hS; go_simp; (first | done | exact x1 | exact x2)⟩) (hs.row (.tail (.tail .head))) ?_
        simp only [Act.put, List.setIfInBounds_toArray, List.set_cons_zero, List.set_cons_succ]
        refine wpAnyH_take (i := 7) (oi := ⟨some 25, _, _, _, _, _⟩) rfl (by kernel_rfl) (by kernel_rfl) (by kernel_rfl) (fun _ _ _ h => h) (v := .int .u8 ((at_ b k ^^^ 54 : Nat) : Int)) (Or.inl ⟨by rfl, fun w' hS => by have hc := HC.out w' hS; go_simp; (first | done | exact x1 | exact x2)⟩) (hs.row (.tail (.tail .head))) ?_
        simp only [Act.put, List.setIfInBounds_toArray, List.set_cons_zero, List.set_cons_succ]
        refine wpAnyH_take (i := 8) (oi := ⟨some 26, _, _, _, _, _⟩) rfl (by kernel_rfl) (by kernel_rfl) (by kernel_rfl) (fun _ _ _ h => h) (v := .int .i64 k) (Or.inl ⟨by rfl, fun w' hS => by have hc := HC.out w' hS; go_simp; (first | done | exact x1 | exact x2)⟩) (hs.row (.tail (.tail .head))) ?_
        simp only [Act.put, List.setIfInBounds_toArray, List.set_cons_zero, List.set_cons_succ]
        refine wpAnyH_take (i := 9) (oi := ⟨some 27, _, _, _, _, _⟩) rfl (by kernel_rfl) (by kernel_rfl) (by kernel_rfl) (fun _ _ _ h => h) (v := .pointer (some ⟨g5, k, none⟩)) (Or.inl ⟨by rfl, fun w' hS => by have hc := HC.out w' hS; go_simp; (first | done | exact x1 | exact x2)⟩) (hs.row (.tail (.tail .head))) ?_
        simp only [Act.put, List.setIfInBounds_toArray, List.set_cons_zero, List.set_cons_succ]
        refine wpAnyH_take (i := 10) (oi := ⟨some 28, _, _, _, _, _⟩) rfl (by kernel_rfl) (by kernel_rfl) (by kernel_rfl) (fun _ _ _ h => h) (v := .int .u8 (at_ b k : Nat)) (Or.inl ⟨by rfl, fun w' hS => by have hc := HC.out w' hS; go_simp; (first | done | exact x1 | exact x2)⟩) (hs.row (.tail (.tail .head))) ?_
        simp only [Act.put, List.setIfInBounds_toArray, List.set_cons_zero, List.set_cons_succ]
        refine wpAnyH_take (i := 11) (oi := ⟨some 29, _, _, _, _, _⟩) rfl (by kernel_rfl) (by kernel_rfl) (by kernel_rfl) (fun _ _ _ h => h) (v := .int .u8 ((at_ b k ^^^ 92 : Nat) : Int)) (Or.inl ⟨by rfl, fun w' hS => by have hc := HC.out w' hS; go_simp; (first | done | exact x1 | exact x2)⟩) (hs.row (.tail (.tail .head))) ?_
        simp only [Act.put, List.setIfInBounds_toArray, List.set_cons_zero, List.set_cons_succ]
        refine wpAnyH_take (i := 12) (oi := ⟨some 30, _, _, _, _, _⟩) rfl (by kernel_rfl) (by kernel_rfl) (by kernel_rfl) (fun _ _ _ h => h) (v := .pointer (some ⟨g6, k, none⟩)) (Or.inl ⟨by rfl, fun w' hS => by have hc := HC.out w' hS; go_simp; (first | done | exact x1 | exact x2)⟩) (hs.row (.tail (.tail .head))) ?_
        simp only [Act.put, List.setIfInBounds_toArray, List.set_cons_zero, List.set_cons_succ]
        refine wpAnyH_one (i := 13) (by kernel_rfl) ?_
        refine wpOp_hid (o := ⟨_, _, _, _, _, _⟩) rfl ?_
        intro KK hKK
        go_wp2_with (with_reducible refine wpl_storeInt hs rfl 5 _ _ rfl g6 k .u8 (at_ b k ^^^ 54) rfl rfl 5 _ (.tail .head) hl6 info5 ?_; clear hs; intro w8 hs)
        refine kpost (hKK.out _ _ ⟨hs.row (.tail (.tail .head)), ?_⟩)
        clear hKK KK
        refine wpAnyH_take (i := 14) (oi := ⟨some 31, _, _, _, _, _⟩) rfl (by kernel_rfl) (by kernel_rfl) (by kernel_rfl) (fun _ _ _ h => h) (v := .pointer (some ⟨g7, k, none⟩)) (Or.inl ⟨by rfl, fun w' hS => by go_simp⟩) (hs.row (.tail (.tail .head))) ?_
        simp only [Act.put, List.setIfInBounds_toArray, List.set_cons_zero, List.set_cons_succ]
        refine wpAnyH_one (i := 15) (by kernel_rfl) ?_
        refine wpOp_hid (o := ⟨_, _, _, _, _, _⟩) rfl ?_
        intro KK hKK
        go_wp2_with (with_reducible refine wpl_storeInt hs rfl 5 _ _ rfl g7 k .u8 (at_ b k ^^^ 92) rfl rfl 5 _ .head hl7 info5 ?_; clear hs; intro w9 hs)
        refine kpost (hKK.out _ _ ⟨hs.row (.tail (.tail .head)), ?_⟩)
        clear hKK KK
        refine wpAnyH_done (by kernel_rfl) ?_ _
        rw [frow_set _ h64, frow_set _ h64] at hs
        go_wp2_with fail
        go_roundw
        case rel => exact ⟨k + 1, by omega, by go_num, hs⟩
        case measure => simp [intOf]; omega
      · have d1 : decide ((k : Int) < 64) = false := by simp; omega
        have i1 : (64 : Int) ≤ (k : Int) := by omega
        obtain rfl : k = 64 := by omega
        rw [frow_xor 92 bl, frow_xor 54 bl] at hs
        have hu1 : m + 1 ≤ maxLen := by unfold maxLen; omega
        go_wp2_with (first
          | ((with_reducible refine wpl_sliceOwn1 (o := ⟨some 33, _, _, _, _, _⟩) hs rfl 23 _ rfl 22 (.slice (some ⟨g6, 0, none⟩) 64 64) rfl (lit1s _ _ _) ?_); clear hs; intro g33 w10 hs; replace hs : St w w10 (rowR (some ⟨g33, 0, none⟩) 1 1 22 1 [.slice (some ⟨g6, 0, none⟩) 64 64] :: _) := hs; have hrx := hx.st hs)
          | (at_builtin; go_must (with_reducible refine wpl_append (news := xs) hs rfl _ _ 23 rfl rfl rfl (fun _ _ => .head) hrx h1 Try.underlying23 el22 (by unfold maxLen; omega) (by omega) ?_); clear hs hrx; intro A35 c35 w11 _ hs; have hpp := ((hv.st hs).cons (c := 64) (Rd.of_ints hs (.tail (.tail .head)) xl)).parts (Rd.of_own (hs.has_own .head)))
          | (go_at_call 46; refine (HS1.out _ _ _ hpp).mono ?_; clear hpp; rintro e w12 ⟨rfl, hb12⟩; replace hs := hs.call hb12; clear hb12)
          | (with_reducible refine wpl_allocRow (o := ⟨some 9, _, _, _, _, _⟩) hs rfl 27 rfl _ (zero27 _) ?_; clear hs; intro g9 w13 hs)
          | (with_reducible refine wpl_storeRow hs rfl 27 _ _ rfl g9 (ints .u8 H) rfl rfl 27 _ .head row27 (sizeI hl) (sizeI List.length_replicate) (ints_oneCell _ _) ?_; clear hs; intro w14 hs)
          | (with_reducible refine wpl_slice2 (o := ⟨some 39, _, _, _, _, _⟩) hs rfl 23 _ _ rfl 22 (.slice (some ⟨g7, 0, none⟩) 64 64) (.slice (some ⟨g9, 0, none⟩) 32 32) rfl rfl (lit2s _ _ _ _ _ _) ?_; clear hs; intro g39 w15 hs; have hpq := RdP.of_blk2 hs .head (Rd.of_ints hs (.tail (.tail (.tail .head))) xl2) (Rd.of_ints hs (.tail .head) hl))
          | (go_at_call 46; refine (HS2.out _ _ _ hpq).mono ?_; clear hpq; rintro e w16 ⟨rfl, hb16⟩; replace hs := hs.call hb16; clear hb16)
          | (with_reducible refine wpl_storeRow hs rfl 27 _ _ rfl g4 (ints .u8 R) rfl rfl 27 _ (.tail (.tail (.tail (.tail (.tail (.tail .head)))))) row27 (sizeI rl) (sizeI List.length_replicate) (ints_oneCell _ _) ?_; clear hs; intro w17 hs))
        exact ret_row hs rfl g4 27 _ rfl (.tail (.tail (.tail (.tail (.tail (.tail .head)))))) row27 (sizeI rl) rfl ⟨by rw [HRR.out], hs.below⟩
end Go.Proofs.Ytleabipplchbpaa

