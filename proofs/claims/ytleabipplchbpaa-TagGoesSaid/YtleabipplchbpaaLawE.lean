/-
  The statement MacMakes, walked. (Printed by wip/tools/macmakes.py.)
-/
import Derived.Test.YtleabipplchbpaaLawD
namespace Go.Proofs.Ytleabipplchbpaa
open Go.RowKit
set_option maxRecDepth 100000
/-- Where the rest of a drawn region is a row. -/
theorem wpAnyH_row {P : Program} {md : Region.Mode} {ops : Array Oper} {Q : Exit → Act → World → Prop} : ∀ (l : List Oper) (k fuel : Nat) (listed : Array Bool) (a : Act) (w : World), (∀ j, l[j]? = ops[k + j]?) → l.length = fuel →
    Region.seqB md ops l.length k listed = true → wpList P ops Q l a w → wpAnyH P md ops Q (fun _ => True) fuel listed a w
  | [], _, _, _, _, _, _, hf, hB, h => by
    subst hf
    exact ⟨by simpa [Region.seqB] using hB, h⟩
  | o :: l, k, _, listed, a, w, hl, hf, hB, h => by
    subst hf
    have h0 : ops[k]? = some o := by simpa using (hl 0).symm
    simp only [List.length_cons, Region.seqB, Bool.and_eq_true, decide_eq_true_eq] at hB
    refine ⟨fun h1 => (by rw [hB.1] at h1; cases h1), fun i hi => ?_⟩
    rw [hB.1] at hi
    have hik : i = k := by simpa using hi
    subst hik
    have hw : wpOp P ops Q i (wpList P ops Q l) a w := by unfold wpOp; simp only [h0]; exact h
    exact wpOp_mono (fun a' w' h' => ⟨trivial, wpAnyH_row l (i + 1) _ _ a' w' (fun j => by have := hl (j + 1); simpa [Nat.add_assoc, Nat.add_comm 1 j] using this) rfl hB.2 h'⟩) hw
theorem wpAnyH_drop {P : Program} {md : Region.Mode} {os : List Oper} {Q : Exit → Act → World → Prop} (k : Nat) {fuel : Nat} {listed : Array Bool} {a : Act} {w : World} (hf : (os.drop k).length = fuel)
    (hB : Region.seqB md os.toArray (os.drop k).length k listed = true) (h : wpList P os.toArray Q (os.drop k) a w) : wpAnyH P md os.toArray Q (fun _ => True) fuel listed a w :=
  wpAnyH_row (os.drop k) k fuel listed a w (fun j => by simp [List.getElem?_drop]) hf hB h
set_option maxHeartbeats 8000000 in
theorem macmakes_any (key l : List Nat) (hk : ∀ x ∈ key, x < 256) (hlb : ∀ x ∈ l, x < 256) (A B : Option Addr) (n c m cb : Nat) (hn : n ≤ 9223372036854775807) (hm : m ≤ 9223372036854775807) (w : World) (hr : RdI w .u8 A n key) (hq : RdI w .u8 B m l) :
    Calls Try.prog 5 #[.slice A n c, .slice B m cb] w fun e w' => e = .returned (.bool true) ∧ Below w.heap.size w w' := by
  have hfl : [l].flatten = l := by simp
  by_cases h2 : 200 < n
  · have d1 : decide ((200 : Int) < (n : Int)) = true := by simp; omega
    have i1 : (200 : Int) < (n : Int) := by omega
    clear hfl
    go_enter Try.func5, Try.ntmps5
    have hs := St.nil w
    go_wp2_with (go_at_call 15; refine (wakes02_any _).mono ?_; rintro e w3 ⟨rfl, hb3⟩; replace hs := hs.call hb3; clear hb3)
    go_ret
    exact ⟨rfl, hs.below⟩
  have d1 : decide ((200 : Int) < (n : Int)) = false := by simp; omega
  have i1 : (n : Int) ≤ 200 := by omega
  by_cases h5 : 500 < m
  · have d2 : decide ((500 : Int) < (m : Int)) = true := by simp; omega
    have i2 : (500 : Int) < (m : Int) := by omega
    clear hfl
    go_enter Try.func5, Try.ntmps5
    have hs := St.nil w
    go_wp2_with (go_at_call 15; refine (wakes02_any _).mono ?_; rintro e w3 ⟨rfl, hb3⟩; replace hs := hs.call hb3; clear hb3)
    go_ret
    exact ⟨rfl, hs.below⟩
  have d2 : decide ((500 : Int) < (m : Int)) = false := by simp; omega
  have i2 : (m : Int) ≤ 500 := by omega
  have ml := hq.len
  obtain ⟨b, hb⟩ : ∃ b, b = blk64 key := ⟨_, rfl⟩
  have bl : b.length = 64 := by rw [hb]; exact blk_len key
  have bsm : ∀ x ∈ b, x < 256 := by rw [hb]; exact blk_lt hk
  have xl : (xorL 54 b).length = 64 := (xorL_len 54 b).trans bl
  have xl2 : (xorL 92 b).length = 64 := (xorL_len 92 b).trans bl
  obtain ⟨H, hH⟩ : ∃ H, H = hash (xorL 54 b ++ l) := ⟨_, rfl⟩
  have hl : H.length = 32 := by rw [hH]; exact hash_len _
  obtain ⟨R, hR⟩ : ∃ R, R = hash (xorL 92 b ++ H) := ⟨_, rfl⟩
  have rl : R.length = 32 := by rw [hR]; exact hash_len _
  have rb : ∀ x ∈ R, x < 256 := by rw [hR]; exact hash_lt _
  have hRR : R = macOf key [l].flatten := by rw [hfl, hR, hH, hb]; rfl
  have HB : Hid (∀ w, RdI w .u8 A n key → Calls Try.prog 19 #[.slice A n c] w fun e w' => e = .returned (.agg (ints .u8 b)) ∧ Below w.heap.size w w') :=
    Lib.hid fun w hr => by
      have := block_any key hk A n c (by omega) w hr
      rwa [← hb] at this
  have HM : Hid (∀ (B : Option Addr) (cb : Nat) (w : World), RdI w .u8 A n key → RdP w B 1 [l] → Calls Try.prog 16 #[.slice A n c, .slice B 1 cb] w fun e w' => e = .returned (.agg (ints .u8 R)) ∧ Below w.heap.size w w') :=
    Lib.hid fun B cb w hr hp => by
      rw [hRR]
      exact mac_any key hk [l] (by rw [hfl]; exact hlb) (by rw [hfl]; omega) A B n c 1 cb (by omega) (by omega) w hr hp
  have HS1 : Hid (∀ (A : Option Addr) (c : Nat) (w : World), RdP w A 2 [xorL 54 b, l] → Calls Try.prog 22 #[.slice A 2 c] w fun e w' => e = .returned (.agg (ints .u8 H)) ∧ Below w.heap.size w w') :=
    Lib.hid fun A c w hp => by
      have hf : [xorL 54 b, l].flatten = xorL 54 b ++ l := by simp
      have := sum_any [xorL 54 b, l] (by rw [hf, List.length_append, xl]; omega) (by
        rw [hf]
        intro x hx
        rcases List.mem_append.1 hx with h | h
        · exact xorL_lt (by decide) bsm x h
        · exact hlb x h) A 2 c w hp (by omega)
      rwa [hf, ← hH] at this
  have HS2 : Hid (∀ (A : Option Addr) (c : Nat) (w : World), RdP w A 2 [xorL 92 b, H] → Calls Try.prog 22 #[.slice A 2 c] w fun e w' => e = .returned (.agg (ints .u8 R)) ∧ Below w.heap.size w w') :=
    Lib.hid fun A c w hp => by
      have hf : [xorL 92 b, H].flatten = xorL 92 b ++ H := by simp
      have := sum_any [xorL 92 b, H] (by rw [hf, List.length_append, xl2, hl]; omega) (by
        rw [hf]
        intro x hx
        rcases List.mem_append.1 hx with h | h
        · exact xorL_lt (by decide) bsm x h
        · rw [hH] at h; exact hash_lt _ x h) A 2 c w hp (by omega)
      rwa [hf, ← hR] at this
  have heq : ∀ w, (binOp .eql 27 (.agg (ints .u8 R)) (.agg (ints .u8 R))).run Try.prog w = .ok (.bool true) w := fun w => by
    rw [run_eq27 w rl rl rb rb]; simp
  have g27 : ∀ (op : BinOp) (x y : Operand) (xs ys : Array Value) (w : World), (eqGuard op 27 x y (.agg xs) (.agg ys)).run Try.prog w = .ok () w := guard27
  clear hRR hR hH hb hk hlb hfl rb
  go_enter Try.func5, Try.ntmps5
  have hs := St.nil w
  go_wp2_with (first
    | (go_at_call 19; refine (HB.out _ (hr.st hs)).mono ?_; rintro e w3 ⟨rfl, hb3⟩; replace hs := hs.call hb3; clear hb3)
    | (with_reducible refine wpl_allocRow (o := ⟨some 5, _, _, _, _, _⟩) hs rfl 31 rfl _ (zero31 _) ?_; clear hs; intro g5 w2 hs)
    | (with_reducible refine wpl_storeRow hs rfl 31 _ _ rfl g5 (ints .u8 b) rfl rfl 31 _ .head row31 (sizeI bl) (sizeI List.length_replicate) (ints_oneCell _ _) ?_; clear hs; intro w6 hs)
    | (with_reducible refine wpl_allocRow (o := ⟨some 6, _, _, _, _, _⟩) hs rfl 31 rfl _ (zero31 _) ?_; clear hs; intro g6 w7 hs)
    | (with_reducible refine wpl_allocRow (o := ⟨some 7, _, _, _, _, _⟩) hs rfl 31 rfl _ (zero31 _) ?_; clear hs; intro g7 w8 hs))
  rw [← frow_zero (fun i => at_ b i ^^^ 54)] at hs
  go_loopw [8] (fun t wr => ∃ k : Nat, k ≤ 64 ∧ t = .int .i64 k ∧ St w wr [.blk g7 31 (ints .u8 (frow (fun i => at_ b i ^^^ 92) 64 k)), .blk g6 31 (ints .u8 (frow (fun i => at_ b i ^^^ 54) 64 k)), .blk g5 31 (ints .u8 b)]) (fun t _ => 64 - (intOf t).toNat)
  case atStart => exact ⟨0, by omega, rfl, hs⟩
  case round =>
    clear hs
    obtain ⟨k, hk, rfl, hs⟩ := hrel
    by_cases h64 : k < 64
    · have d3 : decide ((k : Int) < 64) = true := by simp; omega
      have i3 : (k : Int) < 64 := by omega
      have fl6 := frow_len (fun i => at_ b i ^^^ 54) hk
      have fl7 := frow_len (fun i => at_ b i ^^^ 92) hk
      have hl6 : k < (frow (fun i => at_ b i ^^^ 54) 64 k).length := by rw [fl6]; exact h64
      have hl7 : k < (frow (fun i => at_ b i ^^^ 92) 64 k).length := by rw [fl7]; exact h64
      have e0 : 0 ≤ (k : Int) := by omega
      have x1 := u8_xor_nat (at_ b k) 54 (at_lt bsm (by decide) k) (by decide)
      have x2 := u8_xor_nat (at_ b k) 92 (at_lt bsm (by decide) k) (by decide)
      have hcell : ∀ W : World, W.heap[g5]? = some (.cells (ints .u8 b) 31 (0, 0)) → W.cell? ⟨g5, k, none⟩ = some (.int .u8 (at_ b k : Nat)) := fun W h => (cell_of_row W g5 k _ _ _ h).trans (ints_get (by omega))
      have HC := Lib.hid hcell
      clear hcell heq g27
      go_wp2_with fail
      refine wp_region_held (S := fun W => W.heap[g5]? = some (.cells (ints .u8 b) 31 (0, 0))) (by kernel_rfl) ?_
      replace hs := hs.drew
      refine wpAnyH_take (i := 0) (oi := ⟨some 25, _, _, _, _, _⟩) rfl (by kernel_rfl) (by kernel_rfl) (by kernel_rfl) (fun _ _ _ h => h) (v := .int .i64 k) (Or.inl ⟨by rfl, fun w' hS => by have hc := HC.out w' hS; go_simp; (first | done | exact x1 | exact x2)⟩) (hs.row (.tail (.tail .head))) ?_
      simp only [Act.put, List.setIfInBounds_toArray, List.set_cons_zero, List.set_cons_succ]
      refine wpAnyH_take (i := 1) (oi := ⟨some 26, _, _, _, _, _⟩) rfl (by kernel_rfl) (by kernel_rfl) (by kernel_rfl) (fun _ _ _ h => h) (v := .int .i64 k) (Or.inl ⟨by rfl, fun w' hS => by have hc := HC.out w' hS; go_simp; (first | done | exact x1 | exact x2)⟩) (hs.row (.tail (.tail .head))) ?_
      simp only [Act.put, List.setIfInBounds_toArray, List.set_cons_zero, List.set_cons_succ]
      refine wpAnyH_take (i := 2) (oi := ⟨some 27, _, _, _, _, _⟩) rfl (by kernel_rfl) (by kernel_rfl) (by kernel_rfl) (fun _ _ _ h => h) (v := .int .i64 k) (Or.inl ⟨by rfl, fun w' hS => by have hc := HC.out w' hS; go_simp; (first | done | exact x1 | exact x2)⟩) (hs.row (.tail (.tail .head))) ?_
      simp only [Act.put, List.setIfInBounds_toArray, List.set_cons_zero, List.set_cons_succ]
      refine wpAnyH_take (i := 3) (oi := ⟨some 28, _, _, _, _, _⟩) rfl (by kernel_rfl) (by kernel_rfl) (by kernel_rfl) (fun _ _ _ h => h) (v := .pointer (some ⟨g5, k, none⟩)) (Or.inl ⟨by rfl, fun w' hS => by have hc := HC.out w' hS; go_simp; (first | done | exact x1 | exact x2)⟩) (hs.row (.tail (.tail .head))) ?_
      simp only [Act.put, List.setIfInBounds_toArray, List.set_cons_zero, List.set_cons_succ]
      refine wpAnyH_take (i := 4) (oi := ⟨some 29, _, _, _, _, _⟩) rfl (by kernel_rfl) (by kernel_rfl) (by kernel_rfl) (fun _ _ _ h => h) (v := .int .u8 (at_ b k : Nat)) (Or.inl ⟨by rfl, fun w' hS => by have hc := HC.out w' hS; go_simp; (first | done | exact x1 | exact x2)⟩) (hs.row (.tail (.tail .head))) ?_
      simp only [Act.put, List.setIfInBounds_toArray, List.set_cons_zero, List.set_cons_succ]
      refine wpAnyH_take (i := 5) (oi := ⟨some 30, _, _, _, _, _⟩) rfl (by kernel_rfl) (by kernel_rfl) (by kernel_rfl) (fun _ _ _ h => h) (v := .int .u8 ((at_ b k ^^^ 54 : Nat) : Int)) (Or.inl ⟨by rfl, fun w' hS => by have hc := HC.out w' hS; go_simp; (first | done | exact x1 | exact x2)⟩) (hs.row (.tail (.tail .head))) ?_
      simp only [Act.put, List.setIfInBounds_toArray, List.set_cons_zero, List.set_cons_succ]
      refine wpAnyH_take (i := 6) (oi := ⟨some 31, _, _, _, _, _⟩) rfl (by kernel_rfl) (by kernel_rfl) (by kernel_rfl) (fun _ _ _ h => h) (v := .int .i64 k) (Or.inl ⟨by rfl, fun w' hS => by have hc := HC.out w' hS; go_simp; (first | done | exact x1 | exact x2)⟩) (hs.row (.tail (.tail .head))) ?_
      simp only [Act.put, List.setIfInBounds_toArray, List.set_cons_zero, List.set_cons_succ]
      refine wpAnyH_take (i := 7) (oi := ⟨some 32, _, _, _, _, _⟩) rfl (by kernel_rfl) (by kernel_rfl) (by kernel_rfl) (fun _ _ _ h => h) (v := .pointer (some ⟨g5, k, none⟩)) (Or.inl ⟨by rfl, fun w' hS => by have hc := HC.out w' hS; go_simp; (first | done | exact x1 | exact x2)⟩) (hs.row (.tail (.tail .head))) ?_
      simp only [Act.put, List.setIfInBounds_toArray, List.set_cons_zero, List.set_cons_succ]
      refine wpAnyH_take (i := 8) (oi := ⟨some 33, _, _, _, _, _⟩) rfl (by kernel_rfl) (by kernel_rfl) (by kernel_rfl) (fun _ _ _ h => h) (v := .int .u8 (at_ b k : Nat)) (Or.inl ⟨by rfl, fun w' hS => by have hc := HC.out w' hS; go_simp; (first | done | exact x1 | exact x2)⟩) (hs.row (.tail (.tail .head))) ?_
      simp only [Act.put, List.setIfInBounds_toArray, List.set_cons_zero, List.set_cons_succ]
      refine wpAnyH_take (i := 9) (oi := ⟨some 34, _, _, _, _, _⟩) rfl (by kernel_rfl) (by kernel_rfl) (by kernel_rfl) (fun _ _ _ h => h) (v := .int .u8 ((at_ b k ^^^ 92 : Nat) : Int)) (Or.inl ⟨by rfl, fun w' hS => by have hc := HC.out w' hS; go_simp; (first | done | exact x1 | exact x2)⟩) (hs.row (.tail (.tail .head))) ?_
      simp only [Act.put, List.setIfInBounds_toArray, List.set_cons_zero, List.set_cons_succ]
      refine wpAnyH_take (i := 10) (oi := ⟨some 35, _, _, _, _, _⟩) rfl (by kernel_rfl) (by kernel_rfl) (by kernel_rfl) (fun _ _ _ h => h) (v := .pointer (some ⟨g6, k, none⟩)) (Or.inl ⟨by rfl, fun w' hS => by have hc := HC.out w' hS; go_simp; (first | done | exact x1 | exact x2)⟩) (hs.row (.tail (.tail .head))) ?_
      simp only [Act.put, List.setIfInBounds_toArray, List.set_cons_zero, List.set_cons_succ]
      refine wpAnyH_one (i := 11) (by kernel_rfl) ?_
      refine wpOp_hid (o := ⟨_, _, _, _, _, _⟩) rfl ?_
      intro KK hKK
      go_wp2_with (with_reducible refine wpl_storeInt hs rfl 5 _ _ rfl g6 k .u8 (at_ b k ^^^ 54) rfl rfl 31 _ (.tail .head) hl6 info5 ?_; clear hs; intro w9 hs)
      refine kpost (hKK.out _ _ ⟨(hs.row (.tail (.tail .head))), ?_⟩)
      clear hKK KK
      refine wpAnyH_take (i := 12) (oi := ⟨some 36, _, _, _, _, _⟩) rfl (by kernel_rfl) (by kernel_rfl) (by kernel_rfl) (fun _ _ _ h => h) (v := .pointer (some ⟨g7, k, none⟩)) (Or.inl ⟨by rfl, fun w' hS => by go_simp⟩) (hs.row (.tail (.tail .head))) ?_
      simp only [Act.put, List.setIfInBounds_toArray, List.set_cons_zero, List.set_cons_succ]
      refine wpAnyH_one (i := 13) (by kernel_rfl) ?_
      refine wpOp_hid (o := ⟨_, _, _, _, _, _⟩) rfl ?_
      intro KK hKK
      go_wp2_with (with_reducible refine wpl_storeInt hs rfl 5 _ _ rfl g7 k .u8 (at_ b k ^^^ 92) rfl rfl 31 _ .head hl7 info5 ?_; clear hs; intro w10 hs)
      refine kpost (hKK.out _ _ ⟨(hs.row (.tail (.tail .head))), ?_⟩)
      clear hKK KK
      refine wpAnyH_done (by kernel_rfl) ?_ _
      rw [frow_set _ h64, frow_set _ h64] at hs
      go_wp2_with fail
      go_roundw
      case rel => exact ⟨k + 1, by omega, by go_num, hs⟩
      case measure => simp [intOf]; omega
    · have d3 : decide ((k : Int) < 64) = false := by simp; omega
      have i3 : (64 : Int) ≤ (k : Int) := by omega
      obtain rfl : k = 64 := by omega
      rw [frow_xor 92 bl, frow_xor 54 bl] at hs
      go_wp2_with (first
        | (with_reducible refine wpl_slice2 (o := ⟨some 39, _, _, _, _, _⟩) hs rfl 23 _ _ rfl 22 (.slice (some ⟨g6, 0, none⟩) 64 64) (.slice B m cb) rfl rfl (lit2s _ _ _ _ _ _) ?_; clear hs; intro g39 w11 hs; have hpp := RdP.of_blk2 hs .head (Rd.of_ints hs (.tail (.tail .head)) xl) (hq.st hs))
        | (go_at_call 22; refine (HS1.out _ _ _ hpp).mono ?_; clear hpp; rintro e w12 ⟨rfl, hb12⟩; replace hs := hs.call hb12; clear hb12)
        | (with_reducible refine wpl_allocRow (o := ⟨some 9, _, _, _, _, _⟩) hs rfl 27 rfl _ (zero27 _) ?_; clear hs; intro g9 w13 hs)
        | (with_reducible refine wpl_storeRow hs rfl 27 _ _ rfl g9 (ints .u8 H) rfl rfl 27 _ .head row27 (sizeI hl) (sizeI List.length_replicate) (ints_oneCell _ _) ?_; clear hs; intro w14 hs))
      refine wp_region_held (S := fun _ => True) (by kernel_rfl) ?_
      replace hs := hs.drew
      refine wpAnyH_take (i := 0) (oi := ⟨some 41, _, _, _, _, _⟩) rfl (by kernel_rfl) (by kernel_rfl) (by kernel_rfl) (fun _ _ _ h => h) (v := .slice A n c) (Or.inl ⟨by rfl, fun w' _ => by go_simp⟩) trivial ?_
      simp only [Act.put, List.setIfInBounds_toArray, List.set_cons_zero, List.set_cons_succ]
      refine wpAnyH_take (i := 1) (oi := ⟨some 42, _, _, _, _, _⟩) rfl (by kernel_rfl) (by kernel_rfl) (by kernel_rfl) (fun _ _ _ h => h) (v := .slice B m cb) (Or.inl ⟨by rfl, fun w' _ => by go_simp⟩) trivial ?_
      simp only [Act.put, List.setIfInBounds_toArray, List.set_cons_zero, List.set_cons_succ]
      refine wpAnyH_take (i := 4) (oi := ⟨some 45, _, _, _, _, _⟩) rfl (by kernel_rfl) (by kernel_rfl) (by kernel_rfl) (fun _ _ _ h => h) (v := .slice (some ⟨g7, 0, none⟩) 64 64) (Or.inl ⟨by rfl, fun w' _ => by go_simp⟩) trivial ?_
      simp only [Act.put, List.setIfInBounds_toArray, List.set_cons_zero, List.set_cons_succ]
      refine wpAnyH_take (i := 5) (oi := ⟨some 46, _, _, _, _, _⟩) rfl (by kernel_rfl) (by kernel_rfl) (by kernel_rfl) (fun _ _ _ h => h) (v := .slice (some ⟨g9, 0, none⟩) 32 32) (Or.inl ⟨by rfl, fun w' _ => by go_simp⟩) trivial ?_
      simp only [Act.put, List.setIfInBounds_toArray, List.set_cons_zero, List.set_cons_succ]
      refine wpAnyH_all (rs := [2, 6]) (by kernel_rfl) (by decide) ?_
      intro i hi
      simp only [List.mem_cons, List.mem_nil_iff, or_false] at hi
      rcases hi with rfl | rfl
      · refine wpOp_hid (o := ⟨_, _, _, _, _, _⟩) rfl ?_
        intro KK hKK
        go_wp2_with (with_reducible refine wpl_slice1 hs rfl 23 _ rfl 22 (.slice B m cb) rfl (lit1s _ _ _) ?_; clear hs; intro g43 w20 hs)
        refine kpost (hKK.out _ _ ⟨trivial, ?_⟩)
        clear hKK KK
        refine wpAnyH_all (rs := [3, 6]) (by kernel_rfl) (by decide) ?_
        intro i hi
        simp only [List.mem_cons, List.mem_nil_iff, or_false] at hi
        rcases hi with rfl | rfl
        · refine wpOp_hid (o := ⟨_, _, _, _, _, _⟩) rfl ?_
          intro KK hKK
          have hp1 := RdP.of_blk1 hs .head (hq.st hs)
          go_wp2_with (go_at_call 16; refine (HM.out _ _ _ (hr.st hs) hp1).mono ?_; clear hp1; rintro e w21 ⟨rfl, hb21⟩; replace hs := hs.call hb21; clear hb21)
          refine kpost (hKK.out _ _ ⟨trivial, ?_⟩)
          clear hKK KK
          refine wpAnyH_one (i := 6) (by kernel_rfl) ?_
          refine wpOp_hid (o := ⟨_, _, _, _, _, _⟩) rfl ?_
          intro KK hKK
          go_wp2_with (with_reducible refine wpl_slice2 hs rfl 23 _ _ rfl 22 (.slice (some ⟨g7, 0, none⟩) 64 64) (.slice (some ⟨g9, 0, none⟩) 32 32) rfl rfl (lit2s _ _ _ _ _ _) ?_; clear hs; intro g47 w22 hs)
          refine kpost (hKK.out _ _ ⟨trivial, ?_⟩)
          clear hKK KK
          refine wpAnyH_one (i := 7) (by kernel_rfl) ?_
          refine wpOp_hid (o := ⟨_, _, _, _, _, _⟩) rfl ?_
          intro KK hKK
          have hp2 := RdP.of_blk2 hs .head (Rd.of_ints hs (.tail (.tail (.tail (.tail .head)))) xl2) (Rd.of_ints hs (.tail (.tail .head)) hl)
          go_wp2_with (go_at_call 22; refine (HS2.out _ _ _ hp2).mono ?_; clear hp2; rintro e w23 ⟨rfl, hb23⟩; replace hs := hs.call hb23; clear hb23)
          refine kpost (hKK.out _ _ ⟨trivial, ?_⟩)
          clear hKK KK
          refine wpAnyH_drop 8 rfl (by kernel_rfl) ?_
          simp only [List.drop_succ_cons, List.drop_zero]
          go_wp2_with (go_at_call 15; refine (wakes02_any _).mono ?_; rintro e w24 ⟨rfl, hb24⟩; replace hs := hs.call hb24; clear hb24)
          go_ret
          exact ⟨rfl, hs.below⟩
        · refine wpOp_hid (o := ⟨_, _, _, _, _, _⟩) rfl ?_
          intro KK hKK
          go_wp2_with (with_reducible refine wpl_slice2 hs rfl 23 _ _ rfl 22 (.slice (some ⟨g7, 0, none⟩) 64 64) (.slice (some ⟨g9, 0, none⟩) 32 32) rfl rfl (lit2s _ _ _ _ _ _) ?_; clear hs; intro g47 w22 hs)
          refine kpost (hKK.out _ _ ⟨trivial, ?_⟩)
          clear hKK KK
          refine wpAnyH_one (i := 3) (by kernel_rfl) ?_
          refine wpOp_hid (o := ⟨_, _, _, _, _, _⟩) rfl ?_
          intro KK hKK
          have hp1 := RdP.of_blk1 hs (.tail .head) (hq.st hs)
          go_wp2_with (go_at_call 16; refine (HM.out _ _ _ (hr.st hs) hp1).mono ?_; clear hp1; rintro e w21 ⟨rfl, hb21⟩; replace hs := hs.call hb21; clear hb21)
          refine kpost (hKK.out _ _ ⟨trivial, ?_⟩)
          clear hKK KK
          refine wpAnyH_one (i := 7) (by kernel_rfl) ?_
          refine wpOp_hid (o := ⟨_, _, _, _, _, _⟩) rfl ?_
          intro KK hKK
          have hp2 := RdP.of_blk2 hs .head (Rd.of_ints hs (.tail (.tail (.tail (.tail .head)))) xl2) (Rd.of_ints hs (.tail (.tail .head)) hl)
          go_wp2_with (go_at_call 22; refine (HS2.out _ _ _ hp2).mono ?_; clear hp2; rintro e w23 ⟨rfl, hb23⟩; replace hs := hs.call hb23; clear hb23)
          refine kpost (hKK.out _ _ ⟨trivial, ?_⟩)
          clear hKK KK
          refine wpAnyH_drop 8 rfl (by kernel_rfl) ?_
          simp only [List.drop_succ_cons, List.drop_zero]
          go_wp2_with (go_at_call 15; refine (wakes02_any _).mono ?_; rintro e w24 ⟨rfl, hb24⟩; replace hs := hs.call hb24; clear hb24)
          go_ret
          exact ⟨rfl, hs.below⟩
      · refine wpOp_hid (o := ⟨_, _, _, _, _, _⟩) rfl ?_
        intro KK hKK
        go_wp2_with (with_reducible refine wpl_slice2 hs rfl 23 _ _ rfl 22 (.slice (some ⟨g7, 0, none⟩) 64 64) (.slice (some ⟨g9, 0, none⟩) 32 32) rfl rfl (lit2s _ _ _ _ _ _) ?_; clear hs; intro g47 w22 hs)
        refine kpost (hKK.out _ _ ⟨trivial, ?_⟩)
        clear hKK KK
        refine wpAnyH_one (i := 2) (by kernel_rfl) ?_
        refine wpOp_hid (o := ⟨_, _, _, _, _, _⟩) rfl ?_
        intro KK hKK
        go_wp2_with (with_reducible refine wpl_slice1 hs rfl 23 _ rfl 22 (.slice B m cb) rfl (lit1s _ _ _) ?_; clear hs; intro g43 w20 hs)
        refine kpost (hKK.out _ _ ⟨trivial, ?_⟩)
        clear hKK KK
        refine wpAnyH_one (i := 3) (by kernel_rfl) ?_
        refine wpOp_hid (o := ⟨_, _, _, _, _, _⟩) rfl ?_
        intro KK hKK
        have hp1 := RdP.of_blk1 hs .head (hq.st hs)
        go_wp2_with (go_at_call 16; refine (HM.out _ _ _ (hr.st hs) hp1).mono ?_; clear hp1; rintro e w21 ⟨rfl, hb21⟩; replace hs := hs.call hb21; clear hb21)
        refine kpost (hKK.out _ _ ⟨trivial, ?_⟩)
        clear hKK KK
        refine wpAnyH_one (i := 7) (by kernel_rfl) ?_
        refine wpOp_hid (o := ⟨_, _, _, _, _, _⟩) rfl ?_
        intro KK hKK
        have hp2 := RdP.of_blk2 hs (.tail .head) (Rd.of_ints hs (.tail (.tail (.tail (.tail .head)))) xl2) (Rd.of_ints hs (.tail (.tail .head)) hl)
        go_wp2_with (go_at_call 22; refine (HS2.out _ _ _ hp2).mono ?_; clear hp2; rintro e w23 ⟨rfl, hb23⟩; replace hs := hs.call hb23; clear hb23)
        refine kpost (hKK.out _ _ ⟨trivial, ?_⟩)
        clear hKK KK
        refine wpAnyH_drop 8 rfl (by kernel_rfl) ?_
        simp only [List.drop_succ_cons, List.drop_zero]
        go_wp2_with (go_at_call 15; refine (wakes02_any _).mono ?_; rintro e w24 ⟨rfl, hb24⟩; replace hs := hs.call hb24; clear hb24)
        go_ret
        exact ⟨rfl, hs.below⟩
end Go.Proofs.Ytleabipplchbpaa
