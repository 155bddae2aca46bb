/-
  The statement MacKeys, walked. (Printed by wip/tools/mackeys.py.)
-/
import Derived.Test.YtleabipplchbpaaLawF
namespace Go.Proofs.Ytleabipplchbpaa
open Go.RowKit
set_option maxRecDepth 100000
/-! ### a slice's beginning, a slice's rest -/
theorem elem22 : Try.prog.underlying 22 = some (.slice (Try.prog.elem 22)) := by kernel_rfl
theorem sizeE22 (w : World) : (Go.sizeOf (Try.prog.elem 22)).run Try.prog w = .ok 1 w := by kernel_rfl
theorem run_to (B : Option Addr) (m cb k : Nat) (hk : k ≤ cb) (w : World) : (Instr.sliceAt 22 (.slice B m cb) none (some (.int .i64 k)) none).run Try.prog w = .ok (.slice B k cb) w := by
  rw [run_sliceAt_slice w 22 _ _ _ _ elem22, run_slice_h w 22 B m cb elem22 .i64 k (by omega) (by omega), sizeE22]
  simp only [Result.andThen_ok, sliced, Int.toNat_natCast, Nat.zero_mul, Nat.sub_zero]
  split
  · rfl
  · cases B <;> rfl
/-- Where the rest begins. -/
def fromA (B : Option Addr) (cb k : Nat) : Option Addr := if cb = k then B else B.map (·.add (k * 1))
theorem run_from (B : Option Addr) (m cb k : Nat) (hk : k ≤ m) (w : World) : (Instr.sliceAt 22 (.slice B m cb) (some (.int .i64 k)) none none).run Try.prog w = .ok (.slice (fromA B cb k) (m - k) (cb - k)) w := by
  rw [run_sliceAt_slice w 22 _ _ _ _ elem22, run_slice_l w 22 B m cb elem22 .i64 k (by omega) (by omega), sizeE22]
  simp only [Result.andThen_ok, sliced, Int.toNat_natCast, fromA]
theorem Rd.to {w : World} {B : Option Addr} {m k : Nat} {l : List Nat} (h : RdI w .u8 B m l) (hk : k ≤ m) : RdI w .u8 B k (l.take k) := by
  have hl := h.len
  refine ⟨by rw [cellsI_len, List.length_take]; omega, fun j u hu => h.2 j u ?_⟩
  rw [cellsI, List.map_take, List.getElem?_take] at hu
  split at hu
  · exact hu
  · cases hu
theorem Rd.from_ {w : World} {B : Option Addr} {m cb k : Nat} {l : List Nat} (h : RdI w .u8 B m l) (hk : k ≤ m) (hc : m ≤ cb) : RdI w .u8 (fromA B cb k) (m - k) (l.drop k) := by
  have hl := h.len
  refine ⟨by rw [cellsI_len, List.length_drop]; omega, fun j u hu => ?_⟩
  have hu' : (cellsI .u8 l)[k + j]? = some u := by
    rw [← hu]
    simp only [cellsI, List.map_drop, List.getElem?_drop]
  have hj : j < m - k := by
    have := (List.getElem?_eq_some_iff.1 hu).1
    rw [cellsI_len, List.length_drop] at this
    omega
  obtain ⟨ad, e, hc2⟩ := h.2 (k + j) u hu'
  subst e
  refine ⟨ad.add k, by rw [fromA, if_neg (by omega), Nat.mul_one]; rfl, ?_⟩
  rw [Addr.add_add]
  exact hc2
section
variable {P : Program} {ops : Array Oper} {S : World → Prop} {o : Oper} {a : Act} {v : Value}
theorem yields_slice (hw : Region.wanted o (yielded ops a.tmps) = true) (t : TypeId) (x : Operand) (lo hi mx : Option Operand) (ho : o.op = .slice t x lo hi mx) (h : ∀ w, (Instr.sliceAt t (a.eval x) (lo.map a.eval) (hi.map a.eval) (mx.map a.eval)).run P w = .ok v w) : YieldsIf P ops S o v a :=
  .inl ⟨hw, fun w _ => by
    unfold execOp
    simp only [ho, Sem.run_bind, h, Result.andThen_ok, Sem.run_pure]⟩
end
/-! ### plain: keys that have one block -/
theorem mac_of_blk {k k' : List Nat} (h : blk64 k = blk64 k') (m : List Nat) : macOf k m = macOf k' m := by rw [macOf, macOf, h]
theorem blk_hash {k : List Nat} (h : 64 < k.length) : blk64 (hash k) = blk64 k := by
  have h1 : short (hash k) = hash k := by rw [short, hash_len, if_neg (by decide)]
  have h2 : short k = hash k := by rw [short, if_pos h]
  rw [blk64, blk64, h1, h2]
theorem blk_zeros {k : List Nat} {z : Nat} (h : k.length + z ≤ 64) : blk64 (k ++ List.replicate z 0) = blk64 k := by
  have h1 : short (k ++ List.replicate z 0) = k ++ List.replicate z 0 := by rw [short, if_neg (by rw [List.length_append, List.length_replicate]; omega)]
  have h2 : short k = k := by rw [short, if_neg (by omega)]
  rw [blk64, blk64, h1, h2, List.append_assoc, List.replicate_append_replicate, List.length_append, List.length_replicate]
  congr 2
  omega
theorem zero35 (w : World) : (zeroValue 35).run Try.prog w = .ok (.agg (ints .u8 [0, 0])) w := by kernel_rfl
set_option maxHeartbeats 16000000 in
theorem mackeys_any (key l : List Nat) (hk : ∀ x ∈ key, x < 256) (hlb : ∀ x ∈ l, x < 256) (y0 y1 : Nat) (hy0 : y0 < 256) (hy1 : y1 < 256) (A B : Option Addr) (n c m cb : Nat) (hn : n ≤ 9223372036854775807) (hm : m ≤ 9223372036854775807) (hmc : m ≤ cb) (w : World) (hr : RdI w .u8 A n key) (hq : RdI w .u8 B m l) :
    Calls Try.prog 4 #[.slice A n c, .slice B m cb, .agg (ints .u8 [y0, y1])] w fun e w' => e = .returned (.bool true) ∧ Below w.heap.size w w' := by
  have hfl : [l].flatten = l := by simp
  by_cases h2 : 200 < n
  · have d1 : decide ((200 : Int) < (n : Int)) = true := by simp; omega
    have i1 : (200 : Int) < (n : Int) := by omega
    clear hfl
    go_enter Try.func4, Try.ntmps4
    have hs := St.nil w
    go_wp2_with (first
      | (with_reducible refine wpl_boxRow (o := ⟨some 5, _, _, _, _, _⟩) hs rfl 35 _ rfl (ints .u8 [y0, y1]) rfl ?_; clear hs; intro g5 w1 hs)
      | (go_at_call 15; refine (wakes02_any _).mono ?_; rintro e w3 ⟨rfl, hb3⟩; replace hs := hs.call hb3; clear hb3))
    go_ret
    exact ⟨rfl, hs.below⟩
  have d1 : decide ((200 : Int) < (n : Int)) = false := by simp; omega
  have i1 : (n : Int) ≤ 200 := by omega
  by_cases h5 : 500 < m
  · have d2 : decide ((500 : Int) < (m : Int)) = true := by simp; omega
    have i2 : (500 : Int) < (m : Int) := by omega
    clear hfl
    go_enter Try.func4, Try.ntmps4
    have hs := St.nil w
    go_wp2_with (first
      | (with_reducible refine wpl_boxRow (o := ⟨some 5, _, _, _, _, _⟩) hs rfl 35 _ rfl (ints .u8 [y0, y1]) rfl ?_; clear hs; intro g5 w1 hs)
      | (go_at_call 15; refine (wakes02_any _).mono ?_; rintro e w3 ⟨rfl, hb3⟩; replace hs := hs.call hb3; clear hb3))
    go_ret
    exact ⟨rfl, hs.below⟩
  have d2 : decide ((500 : Int) < (m : Int)) = false := by simp; omega
  have i2 : (m : Int) ≤ 500 := by omega
  have n200 : n ≤ 200 := by omega
  have m500 : m ≤ 500 := by omega
  clear h2 h5
  have kl := hr.len
  have ml := hq.len
  obtain ⟨R, hR⟩ : ∃ R, R = macOf key l := ⟨_, rfl⟩
  have rl : R.length = 32 := by rw [hR]; exact macOf_len _ _
  have rb : ∀ x ∈ R, x < 256 := by rw [hR]; exact macOf_lt _ _
  -- the tag by whatever key that has one block with it, of whatever parts that are these bytes
  have HMac : Hid (∀ (k' : List Nat) (ps : List (List Nat)) (A B : Option Addr) (n' c m' cb : Nat) (w : World), blk64 k' = blk64 key → (∀ x ∈ k', x < 256) → ps.flatten = l → n' ≤ 200 → m' ≤ 2 → RdI w .u8 A n' k' → RdP w B m' ps →
      Calls Try.prog 16 #[.slice A n' c, .slice B m' cb] w fun e w' => e = .returned (.agg (ints .u8 R)) ∧ Below w.heap.size w w') :=
    Lib.hid fun k' ps A B n' c m' cb w hbk hk' hps hn' hm' h1 h2 => by
      have := mac_any k' hk' ps (by rw [hps]; exact hlb) (by rw [hps]; omega) A B n' c m' cb (by omega) (by omega) w h1 h2
      rwa [hps, mac_of_blk hbk, ← hR] at this
  have heq : ∀ w, (binOp .eql 27 (.agg (ints .u8 R)) (.agg (ints .u8 R))).run Try.prog w = .ok (.bool true) w := fun w => by
    rw [run_eq27 w rl rl rb rb]; simp
  have hne : ∀ w, (binOp .neq 27 (.agg (ints .u8 R)) (.agg (ints .u8 R))).run Try.prog w = .ok (.bool false) w := fun w => by
    rw [run_ne27 w rl rl rb rb]; simp
  have g27 : ∀ (op : BinOp) (x y : Operand) (xs ys : Array Value) (w : World), (eqGuard op 27 x y (.agg xs) (.agg ys)).run Try.prog w = .ok () w := guard27
  obtain ⟨kk, hkk⟩ : ∃ kk, kk = y0 % (m + 1) := ⟨_, rfl⟩
  have hkm : kk ≤ m := by rw [hkk]; have := Nat.mod_lt y0 (show 0 < m + 1 by omega); omega
  have t1 : (y0 : Int).tmod ((m : Int) + 1) = (kk : Int) := by
    rw [hkk, Int.tmod_eq_emod_of_nonneg (by omega), Int.natCast_emod]
    rfl
  have t2 : (y0 : Int) % ((m : Int) + 1) = (kk : Int) := by
    rw [hkk, Int.natCast_emod]
    rfl
  have z1 : ¬ ((m : Int) + 1 = 0) := by omega
  have hto := run_to B m cb kk (by omega)
  have hfr := run_from B m cb kk hkm
  have HTO := Lib.hid hto
  have HFR := Lib.hid hfr
  have hcut : [l.take kk, l.drop kk].flatten = l := by simp
  have HCUT := Lib.hid hcut
  have HFL := Lib.hid hfl
  have HKM := Lib.hid hkm
  clear hto hfr hcut hfl hkk hR
  go_enter Try.func4, Try.ntmps4
  have hs := St.nil w
  go_wp2_with (first
    | (with_reducible refine wpl_boxRow (o := ⟨some 5, _, _, _, _, _⟩) hs rfl 35 _ rfl (ints .u8 [y0, y1]) rfl ?_; clear hs; intro g5 w1 hs)
    | (with_reducible refine wpl_slice1 (o := ⟨some 22, _, _, _, _, _⟩) hs rfl 23 _ rfl 22 (.slice B m cb) rfl (lit1s _ _ _) ?_; clear hs; intro g22 w2 hs; have hp1 := RdP.of_blk1 hs .head (hq.st hs))
    | (go_at_call 16; refine (HMac.out key [l] _ _ _ _ _ _ _ rfl hk HFL.out n200 (by omega) (hr.st hs) hp1).mono ?_; clear hp1; rintro e w3 ⟨rfl, hb3⟩; replace hs := hs.call hb3; clear hb3)
    | (with_reducible refine wpl_allocRow (o := ⟨some 7, _, _, _, _, _⟩) hs rfl 27 rfl _ (zero27 _) ?_; clear hs; intro g7 w4 hs)
    | ((with_reducible refine wpl_storeRow hs rfl 27 _ _ rfl g7 (ints .u8 R) rfl rfl 27 _ .head row27 (sizeI rl) (sizeI List.length_replicate) (ints_oneCell _ _) ?_); clear hs; intro w5 hs; have c0 : w5.cell? ⟨g5, 0, none⟩ = some (.int .u8 y0) := hs.num (g := g5) (k := .u8) (l := [y0, y1]) (.tail (.tail .head)) (i := 0) (by simp)))
  refine wp_region_held (S := fun W => W.heap[g7]? = some (.cells (ints .u8 R) 27 (0, 0))) (by kernel_rfl) ?_
  replace hs := hs.drew
  refine wpAnyH_take (i := 0) (oi := ⟨some 31, _, _, _, _, _⟩) rfl (by kernel_rfl) (by kernel_rfl) (by kernel_rfl) (fun _ _ _ h => h) (v := .slice A n c) (Or.inl ⟨by rfl, fun w' _ => by go_simp⟩) (hs.row .head) ?_
  simp only [Act.put, List.setIfInBounds_toArray, List.set_cons_zero, List.set_cons_succ]
  refine wpAnyH_take (i := 1) (oi := ⟨some 32, _, _, _, _, _⟩) rfl (by kernel_rfl) (by kernel_rfl) (by kernel_rfl) (fun _ _ _ h => h) (v := .slice B m cb) (Or.inl ⟨by rfl, fun w' _ => by go_simp⟩) (hs.row .head) ?_
  simp only [Act.put, List.setIfInBounds_toArray, List.set_cons_zero, List.set_cons_succ]
  refine wpAnyH_take (i := 2) (oi := ⟨some 33, _, _, _, _, _⟩) rfl (by kernel_rfl) (by kernel_rfl) (by kernel_rfl) (fun _ _ _ h => h) (v := .int .i64 kk) (Or.inl ⟨by rfl, fun w' _ => by go_simp⟩) (hs.row .head) ?_
  simp only [Act.put, List.setIfInBounds_toArray, List.set_cons_zero, List.set_cons_succ]
  refine wpAnyH_take (i := 3) (oi := ⟨some 34, _, _, _, _, _⟩) rfl (by kernel_rfl) (by kernel_rfl) (by kernel_rfl) (fun _ _ _ h => h) (v := .slice B kk cb) (yields_slice (by rfl) 22 _ _ _ _ rfl HTO.out) (hs.row .head) ?_
  simp only [Act.put, List.setIfInBounds_toArray, List.set_cons_zero, List.set_cons_succ]
  refine wpAnyH_take (i := 4) (oi := ⟨some 35, _, _, _, _, _⟩) rfl (by kernel_rfl) (by kernel_rfl) (by kernel_rfl) (fun _ _ _ h => h) (v := .slice B m cb) (Or.inl ⟨by rfl, fun w' _ => by go_simp⟩) (hs.row .head) ?_
  simp only [Act.put, List.setIfInBounds_toArray, List.set_cons_zero, List.set_cons_succ]
  refine wpAnyH_take (i := 5) (oi := ⟨some 36, _, _, _, _, _⟩) rfl (by kernel_rfl) (by kernel_rfl) (by kernel_rfl) (fun _ _ _ h => h) (v := .int .i64 kk) (Or.inl ⟨by rfl, fun w' _ => by go_simp⟩) (hs.row .head) ?_
  simp only [Act.put, List.setIfInBounds_toArray, List.set_cons_zero, List.set_cons_succ]
  refine wpAnyH_take (i := 6) (oi := ⟨some 37, _, _, _, _, _⟩) rfl (by kernel_rfl) (by kernel_rfl) (by kernel_rfl) (fun _ _ _ h => h) (v := .slice (fromA B cb kk) (m - kk) (cb - kk)) (yields_slice (by rfl) 22 _ _ _ _ rfl HFR.out) (hs.row .head) ?_
  simp only [Act.put, List.setIfInBounds_toArray, List.set_cons_zero, List.set_cons_succ]
  refine wpAnyH_take (i := 9) (oi := ⟨some 40, _, _, _, _, _⟩) rfl (by kernel_rfl) (by kernel_rfl) (by kernel_rfl) (fun _ _ _ h => h) (v := .agg (ints .u8 R)) (yields_row (by rfl) 27 _ rfl g7 rfl 27 _ (fun _ h => h) row27 (sizeI rl)) (hs.row .head) ?_
  simp only [Act.put, List.setIfInBounds_toArray, List.set_cons_zero, List.set_cons_succ]
  refine wpAnyH_one (i := 7) (by kernel_rfl) ?_
  refine wpOp_hid (o := ⟨_, _, _, _, _, _⟩) rfl ?_
  intro KK hKK
  go_wp2_with (with_reducible refine wpl_slice2 hs rfl 23 _ _ rfl 22 (.slice B kk cb) (.slice (fromA B cb kk) (m - kk) (cb - kk)) rfl rfl (lit2s _ _ _ _ _ _) ?_; clear hs; intro g38 w6 hs)
  refine kpost (hKK.out _ _ ⟨(hs.row (.tail .head)), ?_⟩)
  clear hKK KK
  refine wpAnyH_one (i := 8) (by kernel_rfl) ?_
  refine wpOp_hid (o := ⟨_, _, _, _, _, _⟩) rfl ?_
  intro KK hKK
  have hp2 := RdP.of_blk2 hs .head (Rd.to (hq.st hs) HKM.out) (Rd.from_ (hq.st hs) HKM.out hmc)
  go_wp2_with (go_at_call 16; refine (HMac.out key [l.take kk, l.drop kk] _ _ _ _ _ _ _ rfl hk HCUT.out n200 (by omega) (hr.st hs) hp2).mono ?_; clear hp2; rintro e w7 ⟨rfl, hb7⟩; replace hs := hs.call hb7; clear hb7)
  refine kpost (hKK.out _ _ ⟨(hs.row (.tail .head)), ?_⟩)
  clear hKK KK
  refine wpAnyH_one (i := 10) (by kernel_rfl) ?_
  refine wpOp_hid (o := ⟨_, _, _, _, _, _⟩) rfl ?_
  intro KK hKK
  go_wp2_with fail
  refine kpost (hKK.out _ _ ⟨(hs.row (.tail .head)), ?_⟩)
  clear hKK KK
  refine wpAnyH_done (by kernel_rfl) ?_ _
  clear hne
  by_cases h64 : 64 < n
  · have d3 : decide ((64 : Int) < (n : Int)) = true := by simp; omega
    have i3 : (64 : Int) < (n : Int) := by omega
    obtain ⟨D, hD⟩ : ∃ D, D = hash key := ⟨_, rfl⟩
    have dl : D.length = 32 := by rw [hD]; exact hash_len _
    have db : ∀ x ∈ D, x < 256 := by rw [hD]; exact hash_lt _
    have hbk : blk64 D = blk64 key := by rw [hD]; exact blk_hash (by omega)
    have HBK := Lib.hid hbk
    have hkf : [key].flatten = key := by simp
    have HS : Hid (∀ (A : Option Addr) (c : Nat) (w : World), RdP w A 1 [key] → Calls Try.prog 22 #[.slice A 1 c] w fun e w' => e = .returned (.agg (ints .u8 D)) ∧ Below w.heap.size w w') :=
      Lib.hid fun A c w hp => by
        have := sum_any [key] (by rw [hkf]; omega) (by rw [hkf]; exact hk) A 1 c w hp (by omega)
        rwa [hkf, ← hD] at this
    clear hbk hD hkf
    go_wp2_with (first
      | (with_reducible refine wpl_slice1 (o := ⟨some 46, _, _, _, _, _⟩) hs rfl 23 _ rfl 22 (.slice A n c) rfl (lit1s _ _ _) ?_; clear hs; intro g46 w8 hs; have hp3 := RdP.of_blk1 hs .head (hr.st hs))
      | (go_at_call 22; refine (HS.out _ _ _ hp3).mono ?_; clear hp3; rintro e w9 ⟨rfl, hb9⟩; replace hs := hs.call hb9; clear hb9)
      | (with_reducible refine wpl_allocRow (o := ⟨some 9, _, _, _, _, _⟩) hs rfl 27 rfl _ (zero27 _) ?_; clear hs; intro g9 w10 hs)
      | (with_reducible refine wpl_storeRow hs rfl 27 _ _ rfl g9 (ints .u8 D) rfl rfl 27 _ .head row27 (sizeI dl) (sizeI List.length_replicate) (ints_oneCell _ _) ?_; clear hs; intro w11 hs))
    refine wp_region_held (S := fun W => W.heap[g7]? = some (.cells (ints .u8 R) 27 (0, 0))) (by kernel_rfl) ?_
    replace hs := hs.drew
    refine wpAnyH_take (i := 0) (oi := ⟨some 48, _, _, _, _, _⟩) rfl (by kernel_rfl) (by kernel_rfl) (by kernel_rfl) (fun _ _ _ h => h) (v := .slice (some ⟨g9, 0, none⟩) 32 32) (Or.inl ⟨by rfl, fun w' _ => by go_simp⟩) (hs.row (.tail (.tail (.tail .head)))) ?_
    simp only [Act.put, List.setIfInBounds_toArray, List.set_cons_zero, List.set_cons_succ]
    refine wpAnyH_take (i := 1) (oi := ⟨some 49, _, _, _, _, _⟩) rfl (by kernel_rfl) (by kernel_rfl) (by kernel_rfl) (fun _ _ _ h => h) (v := .slice B m cb) (Or.inl ⟨by rfl, fun w' _ => by go_simp⟩) (hs.row (.tail (.tail (.tail .head)))) ?_
    simp only [Act.put, List.setIfInBounds_toArray, List.set_cons_zero, List.set_cons_succ]
    refine wpAnyH_take (i := 4) (oi := ⟨some 52, _, _, _, _, _⟩) rfl (by kernel_rfl) (by kernel_rfl) (by kernel_rfl) (fun _ _ _ h => h) (v := .agg (ints .u8 R)) (yields_row (by rfl) 27 _ rfl g7 rfl 27 _ (fun _ h => h) row27 (sizeI rl)) (hs.row (.tail (.tail (.tail .head)))) ?_
    simp only [Act.put, List.setIfInBounds_toArray, List.set_cons_zero, List.set_cons_succ]
    refine wpAnyH_one (i := 2) (by kernel_rfl) ?_
    refine wpOp_hid (o := ⟨_, _, _, _, _, _⟩) rfl ?_
    intro KK hKK
    go_wp2_with (with_reducible refine wpl_slice1 hs rfl 23 _ rfl 22 (.slice B m cb) rfl (lit1s _ _ _) ?_; clear hs; intro g50 w12 hs)
    refine kpost (hKK.out _ _ ⟨(hs.row (.tail (.tail (.tail (.tail .head))))), ?_⟩)
    clear hKK KK
    refine wpAnyH_one (i := 3) (by kernel_rfl) ?_
    refine wpOp_hid (o := ⟨_, _, _, _, _, _⟩) rfl ?_
    intro KK hKK
    have hp4 := RdP.of_blk1 hs .head (hq.st hs)
    go_wp2_with (go_at_call 16; refine (HMac.out D [l] _ _ _ _ _ _ _ HBK.out db HFL.out (by omega) (by omega) (Rd.of_ints hs (.tail .head) dl) hp4).mono ?_; clear hp4; rintro e w13 ⟨rfl, hb13⟩; replace hs := hs.call hb13; clear hb13)
    refine kpost (hKK.out _ _ ⟨(hs.row (.tail (.tail (.tail (.tail .head))))), ?_⟩)
    clear hKK KK
    refine wpAnyH_one (i := 5) (by kernel_rfl) ?_
    refine wpOp_hid (o := ⟨_, _, _, _, _, _⟩) rfl ?_
    intro KK hKK
    go_wp2_with fail
    refine kpost (hKK.out _ _ ⟨(hs.row (.tail (.tail (.tail (.tail .head))))), ?_⟩)
    clear hKK KK
    refine wpAnyH_one (i := 6) (by kernel_rfl) ?_
    refine wpOp_hid (o := ⟨_, _, _, _, _, _⟩) rfl ?_
    intro KK hKK
    go_wp2_with fail
    refine kpost (hKK.out _ _ ⟨(hs.row (.tail (.tail (.tail (.tail .head))))), ?_⟩)
    clear hKK KK
    refine wpAnyH_one (i := 7) (by kernel_rfl) ?_
    refine wpOp_hid (o := ⟨_, _, _, _, _, _⟩) rfl ?_
    intro KK hKK
    go_wp2_with (go_at_call 15; refine (wakes02_any _).mono ?_; rintro e w14 ⟨rfl, hb14⟩; replace hs := hs.call hb14; clear hb14)
    refine kpost (hKK.out _ _ ⟨(hs.row (.tail (.tail (.tail (.tail .head))))), ?_⟩)
    clear hKK KK
    refine wpAnyH_one (i := 8) (by kernel_rfl) ?_
    refine wpOp_hid (o := ⟨_, _, _, _, _, _⟩) rfl ?_
    intro KK hKK
    go_wp2_with fail
    refine kpost (hKK.out _ _ ⟨(hs.row (.tail (.tail (.tail (.tail .head))))), ?_⟩)
    clear hKK KK
    refine wpAnyH_one (i := 9) (by kernel_rfl) ?_
    refine wpOp_hid (o := ⟨_, _, _, _, _, _⟩) rfl ?_
    intro KK hKK
    go_wp2_with fail
    refine kpost (hKK.out _ _ ⟨(hs.row (.tail (.tail (.tail (.tail .head))))), ?_⟩)
    clear hKK KK
    refine wpAnyH_done (by kernel_rfl) ?_ _
    go_wp2_with fail
    go_ret
    exact ⟨rfl, hs.below⟩
  · have d3 : decide ((64 : Int) < (n : Int)) = false := by simp; omega
    have i3 : (n : Int) ≤ 64 := by omega
    have n64 : n ≤ 64 := by omega
    obtain ⟨kz, hkz⟩ : ∃ kz, kz = y1 % (65 - n) := ⟨_, rfl⟩
    have hz1 : n + kz ≤ 64 := by rw [hkz]; have := Nat.mod_lt y1 (show 0 < 65 - n by omega); omega
    have s1 : (65 : Int) - (n : Int) = ((65 - n : Nat) : Int) := by omega
    have s2 : (y1 : Int).tmod (65 - (n : Int)) = (kz : Int) := by
      rw [hkz, s1, Int.tmod_eq_emod_of_nonneg (by omega), Int.natCast_emod]
    have s3 : (y1 : Int) % (65 - (n : Int)) = (kz : Int) := by
      rw [hkz, s1, Int.natCast_emod]
    have z2 : ¬ ((65 : Int) - (n : Int) = 0) := by omega
    have wy : IntKind.i64.wrap (y1 : Int) = (y1 : Int) := by rw [IntKind.wrap_i64]; omega
    have wn : IntKind.i64.wrap (65 - (n : Int)) = 65 - (n : Int) := by rw [IntKind.wrap_i64]; omega
    have z3 : ¬ ((65 : Int) = (n : Int)) := by omega
    obtain ⟨K, hK⟩ : ∃ K, K = key ++ List.replicate kz 0 := ⟨_, rfl⟩
    have Kl : K.length = n + kz := by rw [hK, List.length_append, List.length_replicate, kl]
    have Kb : ∀ x ∈ K, x < 256 := by
      rw [hK]
      intro x hx
      rcases List.mem_append.1 hx with h | h
      · exact hk x h
      · rw [(List.mem_replicate.1 h).2]; decide
    have hbk : blk64 K = blk64 key := by rw [hK]; exact blk_zeros (by omega)
    have HBK := Lib.hid hbk
    obtain ⟨b, hb⟩ : ∃ b, b = blk64 key := ⟨_, rfl⟩
    have bl : b.length = 64 := by rw [hb]; exact blk_len key
    have bb : ∀ x ∈ b, x < 256 := by rw [hb]; exact blk_lt hk
    have HB1 : Hid (∀ (A : Option Addr) (c : Nat) (w : World), RdI w .u8 A (n + kz) K → Calls Try.prog 19 #[.slice A (n + kz) c] w fun e w' => e = .returned (.agg (ints .u8 b)) ∧ Below w.heap.size w w') :=
      Lib.hid fun A c w h => by
        rw [hb, ← hbk]
        exact block_any K Kb A (n + kz) c (by omega) w h
    have HB2 : Hid (∀ (w : World), RdI w .u8 A n key → Calls Try.prog 19 #[.slice A n c] w fun e w' => e = .returned (.agg (ints .u8 b)) ∧ Below w.heap.size w w') :=
      Lib.hid fun w h => by
        rw [hb]
        exact block_any key hk A n c (by omega) w h
    have heb : ∀ w, (binOp .eql 31 (.agg (ints .u8 b)) (.agg (ints .u8 b))).run Try.prog w = .ok (.bool true) w := fun w => by
      rw [run_eq31 w bl bl bb bb]; simp
    have g31 : ∀ (op : BinOp) (x y : Operand) (xs ys : Array Value) (w : World), (eqGuard op 31 x y (.agg xs) (.agg ys)).run Try.prog w = .ok () w := guard31
    have HKK := Lib.hid hK
    clear hbk hb hK hkz s1
    go_wp2_with fail
    refine wp_region_held (S := fun W => W.heap[g5]? = some (.cells (ints .u8 [y0, y1]) 35 (0, 0))) (by kernel_rfl) ?_
    replace hs := hs.drew
    refine wpAnyH_take (i := 1) (oi := ⟨some 58, _, _, _, _, _⟩) rfl (by kernel_rfl) (by kernel_rfl) (by kernel_rfl) (fun _ _ _ h => h) (v := .slice A n c) (Or.inl ⟨by rfl, fun w' _ => by go_simp⟩) (hs.row (.tail (.tail (.tail .head)))) ?_
    simp only [Act.put, List.setIfInBounds_toArray, List.set_cons_zero, List.set_cons_succ]
    refine wpAnyH_take (i := 3) (oi := ⟨some 60, _, _, _, _, _⟩) rfl (by kernel_rfl) (by kernel_rfl) (by kernel_rfl) (fun _ _ _ h => h) (v := .pointer (some ⟨g5, 1, none⟩)) (Or.inl ⟨by rfl, fun w' _ => by go_simp⟩) (hs.row (.tail (.tail (.tail .head)))) ?_
    simp only [Act.put, List.setIfInBounds_toArray, List.set_cons_zero, List.set_cons_succ]
    refine wpAnyH_take (i := 4) (oi := ⟨some 61, _, _, _, _, _⟩) rfl (by kernel_rfl) (by kernel_rfl) (by kernel_rfl) (fun _ _ _ h => h) (v := .int .u8 y1) (Or.inl ⟨by rfl, fun w' hS => by have hc : w'.cell? ⟨g5, 1, none⟩ = some (.int .u8 y1) := (cell_of_row w' g5 1 _ _ _ hS).trans (ints_get (k := .u8) (l := [y0, y1]) (i := 1) (by simp)); go_simp⟩) (hs.row (.tail (.tail (.tail .head)))) ?_
    simp only [Act.put, List.setIfInBounds_toArray, List.set_cons_zero, List.set_cons_succ]
    refine wpAnyH_take (i := 5) (oi := ⟨some 62, _, _, _, _, _⟩) rfl (by kernel_rfl) (by kernel_rfl) (by kernel_rfl) (fun _ _ _ h => h) (v := .int .i64 y1) (Or.inl ⟨by rfl, fun w' _ => by go_simp⟩) (hs.row (.tail (.tail (.tail .head)))) ?_
    simp only [Act.put, List.setIfInBounds_toArray, List.set_cons_zero, List.set_cons_succ]
    refine wpAnyH_take (i := 6) (oi := ⟨some 63, _, _, _, _, _⟩) rfl (by kernel_rfl) (by kernel_rfl) (by kernel_rfl) (fun _ _ _ h => h) (v := .slice A n c) (Or.inl ⟨by rfl, fun w' _ => by go_simp⟩) (hs.row (.tail (.tail (.tail .head)))) ?_
    simp only [Act.put, List.setIfInBounds_toArray, List.set_cons_zero, List.set_cons_succ]
    refine wpAnyH_take (i := 7) (oi := ⟨some 64, _, _, _, _, _⟩) rfl (by kernel_rfl) (by kernel_rfl) (by kernel_rfl) (fun _ _ _ h => h) (v := .int .i64 n) (Or.inl ⟨by rfl, fun w' _ => by go_simp⟩) (hs.row (.tail (.tail (.tail .head)))) ?_
    simp only [Act.put, List.setIfInBounds_toArray, List.set_cons_zero, List.set_cons_succ]
    refine wpAnyH_take (i := 8) (oi := ⟨some 65, _, _, _, _, _⟩) rfl (by kernel_rfl) (by kernel_rfl) (by kernel_rfl) (fun _ _ _ h => h) (v := .int .i64 (65 - (n : Int))) (Or.inl ⟨by rfl, fun w' _ => by go_simp⟩) (hs.row (.tail (.tail (.tail .head)))) ?_
    simp only [Act.put, List.setIfInBounds_toArray, List.set_cons_zero, List.set_cons_succ]
    refine wpAnyH_take (i := 9) (oi := ⟨some 66, _, _, _, _, _⟩) rfl (by kernel_rfl) (by kernel_rfl) (by kernel_rfl) (fun _ _ _ h => h) (v := .int .i64 kz) (Or.inl ⟨by rfl, fun w' _ => by go_simp⟩) (hs.row (.tail (.tail (.tail .head)))) ?_
    simp only [Act.put, List.setIfInBounds_toArray, List.set_cons_zero, List.set_cons_succ]
    refine wpAnyH_one (i := 0) (by kernel_rfl) ?_
    refine wpOp_hid (o := ⟨_, _, _, _, _, _⟩) rfl ?_
    intro KK hKK
    go_wp2_with ((with_reducible refine wpl_slice0 hs rfl 22 rfl 5 1 lit0b ?_); clear hs; intro g57 w15 hs; replace hs : St _ w15 (numsR (some ⟨g57, 0, none⟩) 0 0 5 .u8 [] :: _) := hs; have hr2 := hr.st hs)
    refine kpost (hKK.out _ _ ⟨(hs.row (.tail (.tail (.tail (.tail .head))))), ?_⟩)
    clear hKK KK
    refine wpAnyH_one (i := 2) (by kernel_rfl) ?_
    refine wpOp_hid (o := ⟨_, _, _, _, _, _⟩) rfl ?_
    intro KK hKK
    go_wp2_with ((with_reducible refine wpl_appendI (m := n) hs rfl _ _ 22 rfl rfl rfl (fun _ _ => .head) hr2 Try.underlying22 el5 (by unfold maxLen; omega) (by omega) ?_); clear hs hr2; intro A5 c5 w16 _ hs; rw [List.nil_append] at hs; rw [Nat.zero_add] at hs ⊢)
    refine kpost (hKK.out _ _ ⟨(hs.row (.tail (.tail (.tail (.tail .head))))), ?_⟩)
    clear hKK KK
    refine wpAnyH_one (i := 10) (by kernel_rfl) ?_
    refine wpOp_hid (o := ⟨_, _, _, _, _, _⟩) rfl ?_
    intro KK hKK
    go_wp2_with ((with_reducible refine wpl_zeros (k := kz) hs rfl _ _ rfl rfl rfl rfl (by omega) (fun _ _ => .head) ?_); clear hs; intro A6 c6 w17 hs; rw [← HKK.out] at hs)
    refine kpost (hKK.out _ _ ⟨(hs.row (.tail (.tail (.tail (.tail .head))))), ?_⟩)
    clear hKK KK
    refine wpAnyH_one (i := 11) (by kernel_rfl) ?_
    refine wpOp_hid (o := ⟨_, _, _, _, _, _⟩) rfl ?_
    intro KK hKK
    go_wp2_with fail
    refine kpost (hKK.out _ _ ⟨(hs.row (.tail (.tail (.tail (.tail .head))))), ?_⟩)
    clear hKK KK
    refine wpAnyH_done (by kernel_rfl) ?_ _
    go_wp2_with fail
    refine wp_region_held (S := fun W => W.heap[g7]? = some (.cells (ints .u8 R) 27 (0, 0))) (by kernel_rfl) ?_
    replace hs := hs.drew
    refine wpAnyH_take (i := 0) (oi := ⟨some 68, _, _, _, _, _⟩) rfl (by kernel_rfl) (by kernel_rfl) (by kernel_rfl) (fun _ _ _ h => h) (v := .slice A6 (n + kz) c6) (Or.inl ⟨by rfl, fun w' _ => by go_simp⟩) (hs.row (.tail (.tail .head))) ?_
    simp only [Act.put, List.setIfInBounds_toArray, List.set_cons_zero, List.set_cons_succ]
    refine wpAnyH_take (i := 1) (oi := ⟨some 69, _, _, _, _, _⟩) rfl (by kernel_rfl) (by kernel_rfl) (by kernel_rfl) (fun _ _ _ h => h) (v := .slice B m cb) (Or.inl ⟨by rfl, fun w' _ => by go_simp⟩) (hs.row (.tail (.tail .head))) ?_
    simp only [Act.put, List.setIfInBounds_toArray, List.set_cons_zero, List.set_cons_succ]
    refine wpAnyH_take (i := 4) (oi := ⟨some 72, _, _, _, _, _⟩) rfl (by kernel_rfl) (by kernel_rfl) (by kernel_rfl) (fun _ _ _ h => h) (v := .agg (ints .u8 R)) (yields_row (by rfl) 27 _ rfl g7 rfl 27 _ (fun _ h => h) row27 (sizeI rl)) (hs.row (.tail (.tail .head))) ?_
    simp only [Act.put, List.setIfInBounds_toArray, List.set_cons_zero, List.set_cons_succ]
    refine wpAnyH_one (i := 2) (by kernel_rfl) ?_
    refine wpOp_hid (o := ⟨_, _, _, _, _, _⟩) rfl ?_
    intro KK hKK
    go_wp2_with (with_reducible refine wpl_slice1 hs rfl 23 _ rfl 22 (.slice B m cb) rfl (lit1s _ _ _) ?_; clear hs; intro g70 w18 hs)
    refine kpost (hKK.out _ _ ⟨(hs.row (.tail (.tail (.tail .head)))), ?_⟩)
    clear hKK KK
    refine wpAnyH_one (i := 3) (by kernel_rfl) ?_
    refine wpOp_hid (o := ⟨_, _, _, _, _, _⟩) rfl ?_
    intro KK hKK
    have hp5 := RdP.of_blk1 hs .head (hq.st hs)
    go_wp2_with (go_at_call 16; refine (HMac.out K [l] _ _ _ _ _ _ _ HBK.out Kb HFL.out (by omega) (by omega) (Rd.of_own (hs.has_nums (.tail .head))) hp5).mono ?_; clear hp5; rintro e w19 ⟨rfl, hb19⟩; replace hs := hs.call hb19; clear hb19)
    refine kpost (hKK.out _ _ ⟨(hs.row (.tail (.tail (.tail .head)))), ?_⟩)
    clear hKK KK
    refine wpAnyH_one (i := 5) (by kernel_rfl) ?_
    refine wpOp_hid (o := ⟨_, _, _, _, _, _⟩) rfl ?_
    intro KK hKK
    go_wp2_with fail
    refine kpost (hKK.out _ _ ⟨(hs.row (.tail (.tail (.tail .head)))), ?_⟩)
    clear hKK KK
    refine wpAnyH_one (i := 6) (by kernel_rfl) ?_
    refine wpOp_hid (o := ⟨_, _, _, _, _, _⟩) rfl ?_
    intro KK hKK
    go_wp2_with fail
    refine kpost (hKK.out _ _ ⟨(hs.row (.tail (.tail (.tail .head)))), ?_⟩)
    clear hKK KK
    refine wpAnyH_all (rs := [7, 9]) (by kernel_rfl) (by decide) ?_
    intro i hi
    simp only [List.mem_cons, List.mem_nil_iff, or_false] at hi
    rcases hi with rfl | rfl
    · refine wpOp_hid (o := ⟨_, _, _, _, _, _⟩) rfl ?_
      intro KK hKK
      go_wp2_with fail
      refine kpost (hKK.out _ _ ⟨(hs.row (.tail (.tail (.tail .head)))), ?_⟩)
      clear hKK KK
      refine wpAnyH_all (rs := [8, 9]) (by kernel_rfl) (by decide) ?_
      intro i hi
      simp only [List.mem_cons, List.mem_nil_iff, or_false] at hi
      rcases hi with rfl | rfl
      · refine wpOp_hid (o := ⟨_, _, _, _, _, _⟩) rfl ?_
        intro KK hKK
        go_wp2_with (go_at_call 19; refine (HB1.out _ _ _ (Rd.of_own (hs.has_nums (.tail .head)))).mono ?_; rintro e w20 ⟨rfl, hb20⟩; replace hs := hs.call hb20; clear hb20)
        refine kpost (hKK.out _ _ ⟨(hs.row (.tail (.tail (.tail .head)))), ?_⟩)
        clear hKK KK
        refine wpAnyH_one (i := 9) (by kernel_rfl) ?_
        refine wpOp_hid (o := ⟨_, _, _, _, _, _⟩) rfl ?_
        intro KK hKK
        go_wp2_with fail
        refine kpost (hKK.out _ _ ⟨(hs.row (.tail (.tail (.tail .head)))), ?_⟩)
        clear hKK KK
        refine wpAnyH_one (i := 10) (by kernel_rfl) ?_
        refine wpOp_hid (o := ⟨_, _, _, _, _, _⟩) rfl ?_
        intro KK hKK
        go_wp2_with (go_at_call 19; refine (HB2.out _ (hr.st hs)).mono ?_; rintro e w21 ⟨rfl, hb21⟩; replace hs := hs.call hb21; clear hb21)
        refine kpost (hKK.out _ _ ⟨(hs.row (.tail (.tail (.tail .head)))), ?_⟩)
        clear hKK KK
        refine wpAnyH_one (i := 11) (by kernel_rfl) ?_
        refine wpOp_hid (o := ⟨_, _, _, _, _, _⟩) rfl ?_
        intro KK hKK
        go_wp2_with fail
        refine kpost (hKK.out _ _ ⟨(hs.row (.tail (.tail (.tail .head)))), ?_⟩)
        clear hKK KK
        refine wpAnyH_one (i := 12) (by kernel_rfl) ?_
        refine wpOp_hid (o := ⟨_, _, _, _, _, _⟩) rfl ?_
        intro KK hKK
        go_wp2_with fail
        refine kpost (hKK.out _ _ ⟨(hs.row (.tail (.tail (.tail .head)))), ?_⟩)
        clear hKK KK
        refine wpAnyH_one (i := 13) (by kernel_rfl) ?_
        refine wpOp_hid (o := ⟨_, _, _, _, _, _⟩) rfl ?_
        intro KK hKK
        go_wp2_with fail
        refine kpost (hKK.out _ _ ⟨(hs.row (.tail (.tail (.tail .head)))), ?_⟩)
        clear hKK KK
        refine wpAnyH_one (i := 14) (by kernel_rfl) ?_
        refine wpOp_hid (o := ⟨_, _, _, _, _, _⟩) rfl ?_
        intro KK hKK
        go_wp2_with (go_at_call 15; refine (wakes02_any _).mono ?_; rintro e w14 ⟨rfl, hb14⟩; replace hs := hs.call hb14; clear hb14)
        refine kpost (hKK.out _ _ ⟨(hs.row (.tail (.tail (.tail .head)))), ?_⟩)
        clear hKK KK
        refine wpAnyH_one (i := 15) (by kernel_rfl) ?_
        refine wpOp_hid (o := ⟨_, _, _, _, _, _⟩) rfl ?_
        intro KK hKK
        go_wp2_with fail
        refine kpost (hKK.out _ _ ⟨(hs.row (.tail (.tail (.tail .head)))), ?_⟩)
        clear hKK KK
        refine wpAnyH_one (i := 16) (by kernel_rfl) ?_
        refine wpOp_hid (o := ⟨_, _, _, _, _, _⟩) rfl ?_
        intro KK hKK
        go_wp2_with fail
        refine kpost (hKK.out _ _ ⟨(hs.row (.tail (.tail (.tail .head)))), ?_⟩)
        clear hKK KK
        refine wpAnyH_done (by kernel_rfl) ?_ _
        go_wp2_with fail
        go_ret
        exact ⟨rfl, hs.below⟩
      · refine wpOp_hid (o := ⟨_, _, _, _, _, _⟩) rfl ?_
        intro KK hKK
        go_wp2_with fail
        refine kpost (hKK.out _ _ ⟨(hs.row (.tail (.tail (.tail .head)))), ?_⟩)
        clear hKK KK
        refine wpAnyH_one (i := 8) (by kernel_rfl) ?_
        refine wpOp_hid (o := ⟨_, _, _, _, _, _⟩) rfl ?_
        intro KK hKK
        go_wp2_with (go_at_call 19; refine (HB1.out _ _ _ (Rd.of_own (hs.has_nums (.tail .head)))).mono ?_; rintro e w20 ⟨rfl, hb20⟩; replace hs := hs.call hb20; clear hb20)
        refine kpost (hKK.out _ _ ⟨(hs.row (.tail (.tail (.tail .head)))), ?_⟩)
        clear hKK KK
        refine wpAnyH_one (i := 10) (by kernel_rfl) ?_
        refine wpOp_hid (o := ⟨_, _, _, _, _, _⟩) rfl ?_
        intro KK hKK
        go_wp2_with (go_at_call 19; refine (HB2.out _ (hr.st hs)).mono ?_; rintro e w21 ⟨rfl, hb21⟩; replace hs := hs.call hb21; clear hb21)
        refine kpost (hKK.out _ _ ⟨(hs.row (.tail (.tail (.tail .head)))), ?_⟩)
        clear hKK KK
        refine wpAnyH_one (i := 11) (by kernel_rfl) ?_
        refine wpOp_hid (o := ⟨_, _, _, _, _, _⟩) rfl ?_
        intro KK hKK
        go_wp2_with fail
        refine kpost (hKK.out _ _ ⟨(hs.row (.tail (.tail (.tail .head)))), ?_⟩)
        clear hKK KK
        refine wpAnyH_one (i := 12) (by kernel_rfl) ?_
        refine wpOp_hid (o := ⟨_, _, _, _, _, _⟩) rfl ?_
        intro KK hKK
        go_wp2_with fail
        refine kpost (hKK.out _ _ ⟨(hs.row (.tail (.tail (.tail .head)))), ?_⟩)
        clear hKK KK
        refine wpAnyH_one (i := 13) (by kernel_rfl) ?_
        refine wpOp_hid (o := ⟨_, _, _, _, _, _⟩) rfl ?_
        intro KK hKK
        go_wp2_with fail
        refine kpost (hKK.out _ _ ⟨(hs.row (.tail (.tail (.tail .head)))), ?_⟩)
        clear hKK KK
        refine wpAnyH_one (i := 14) (by kernel_rfl) ?_
        refine wpOp_hid (o := ⟨_, _, _, _, _, _⟩) rfl ?_
        intro KK hKK
        go_wp2_with (go_at_call 15; refine (wakes02_any _).mono ?_; rintro e w14 ⟨rfl, hb14⟩; replace hs := hs.call hb14; clear hb14)
        refine kpost (hKK.out _ _ ⟨(hs.row (.tail (.tail (.tail .head)))), ?_⟩)
        clear hKK KK
        refine wpAnyH_one (i := 15) (by kernel_rfl) ?_
        refine wpOp_hid (o := ⟨_, _, _, _, _, _⟩) rfl ?_
        intro KK hKK
        go_wp2_with fail
        refine kpost (hKK.out _ _ ⟨(hs.row (.tail (.tail (.tail .head)))), ?_⟩)
        clear hKK KK
        refine wpAnyH_one (i := 16) (by kernel_rfl) ?_
        refine wpOp_hid (o := ⟨_, _, _, _, _, _⟩) rfl ?_
        intro KK hKK
        go_wp2_with fail
        refine kpost (hKK.out _ _ ⟨(hs.row (.tail (.tail (.tail .head)))), ?_⟩)
        clear hKK KK
        refine wpAnyH_done (by kernel_rfl) ?_ _
        go_wp2_with fail
        go_ret
        exact ⟨rfl, hs.below⟩
    · refine wpOp_hid (o := ⟨_, _, _, _, _, _⟩) rfl ?_
      intro KK hKK
      go_wp2_with fail
      refine kpost (hKK.out _ _ ⟨(hs.row (.tail (.tail (.tail .head)))), ?_⟩)
      clear hKK KK
      refine wpAnyH_one (i := 7) (by kernel_rfl) ?_
      refine wpOp_hid (o := ⟨_, _, _, _, _, _⟩) rfl ?_
      intro KK hKK
      go_wp2_with fail
      refine kpost (hKK.out _ _ ⟨(hs.row (.tail (.tail (.tail .head)))), ?_⟩)
      clear hKK KK
      refine wpAnyH_one (i := 8) (by kernel_rfl) ?_
      refine wpOp_hid (o := ⟨_, _, _, _, _, _⟩) rfl ?_
      intro KK hKK
      go_wp2_with (go_at_call 19; refine (HB1.out _ _ _ (Rd.of_own (hs.has_nums (.tail .head)))).mono ?_; rintro e w20 ⟨rfl, hb20⟩; replace hs := hs.call hb20; clear hb20)
      refine kpost (hKK.out _ _ ⟨(hs.row (.tail (.tail (.tail .head)))), ?_⟩)
      clear hKK KK
      refine wpAnyH_one (i := 10) (by kernel_rfl) ?_
      refine wpOp_hid (o := ⟨_, _, _, _, _, _⟩) rfl ?_
      intro KK hKK
      go_wp2_with (go_at_call 19; refine (HB2.out _ (hr.st hs)).mono ?_; rintro e w21 ⟨rfl, hb21⟩; replace hs := hs.call hb21; clear hb21)
      refine kpost (hKK.out _ _ ⟨(hs.row (.tail (.tail (.tail .head)))), ?_⟩)
      clear hKK KK
      refine wpAnyH_one (i := 11) (by kernel_rfl) ?_
      refine wpOp_hid (o := ⟨_, _, _, _, _, _⟩) rfl ?_
      intro KK hKK
      go_wp2_with fail
      refine kpost (hKK.out _ _ ⟨(hs.row (.tail (.tail (.tail .head)))), ?_⟩)
      clear hKK KK
      refine wpAnyH_one (i := 12) (by kernel_rfl) ?_
      refine wpOp_hid (o := ⟨_, _, _, _, _, _⟩) rfl ?_
      intro KK hKK
      go_wp2_with fail
      refine kpost (hKK.out _ _ ⟨(hs.row (.tail (.tail (.tail .head)))), ?_⟩)
      clear hKK KK
      refine wpAnyH_one (i := 13) (by kernel_rfl) ?_
      refine wpOp_hid (o := ⟨_, _, _, _, _, _⟩) rfl ?_
      intro KK hKK
      go_wp2_with fail
      refine kpost (hKK.out _ _ ⟨(hs.row (.tail (.tail (.tail .head)))), ?_⟩)
      clear hKK KK
      refine wpAnyH_one (i := 14) (by kernel_rfl) ?_
      refine wpOp_hid (o := ⟨_, _, _, _, _, _⟩) rfl ?_
      intro KK hKK
      go_wp2_with (go_at_call 15; refine (wakes02_any _).mono ?_; rintro e w14 ⟨rfl, hb14⟩; replace hs := hs.call hb14; clear hb14)
      refine kpost (hKK.out _ _ ⟨(hs.row (.tail (.tail (.tail .head)))), ?_⟩)
      clear hKK KK
      refine wpAnyH_one (i := 15) (by kernel_rfl) ?_
      refine wpOp_hid (o := ⟨_, _, _, _, _, _⟩) rfl ?_
      intro KK hKK
      go_wp2_with fail
      refine kpost (hKK.out _ _ ⟨(hs.row (.tail (.tail (.tail .head)))), ?_⟩)
      clear hKK KK
      refine wpAnyH_one (i := 16) (by kernel_rfl) ?_
      refine wpOp_hid (o := ⟨_, _, _, _, _, _⟩) rfl ?_
      intro KK hKK
      go_wp2_with fail
      refine kpost (hKK.out _ _ ⟨(hs.row (.tail (.tail (.tail .head)))), ?_⟩)
      clear hKK KK
      refine wpAnyH_done (by kernel_rfl) ?_ _
      go_wp2_with fail
      go_ret
      exact ⟨rfl, hs.below⟩
end Go.Proofs.Ytleabipplchbpaa
