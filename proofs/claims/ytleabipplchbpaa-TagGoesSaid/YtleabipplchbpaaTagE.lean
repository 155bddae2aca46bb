/-
  The statement TagTells, walked. (Printed by wip/tools/tagE.py.)
-/
import Derived.Test.YtleabipplchbpaaTagD
namespace Go.Proofs.Ytleabipplchbpaa
open Go.RowKit
set_option maxRecDepth 100000
/-- What a chain begins with, and its records: as cells. -/
def chainedC (h : List Nat) (B : Option Addr) (m cb : Nat) : Array Value := ints .u8 h ++ #[.slice B m cb]
theorem chained_size {h : List Nat} (hl : h.length = 32) (B : Option Addr) (m cb : Nat) : (chainedC h B m cb).size = 33 := by simp [chainedC, ints, hl]
theorem St.chained {w0 w : World} {L : List Res} (hs : St w0 w L) {g : Nat} {h : List Nat} {B : Option Addr} {m cb : Nat} (hm : Has (Res.blk g 39 (chainedC h B m cb)) L) (hl : h.length = 32) :
    w.rangeAt g 0 (cellsI .u8 h) ∧ w.cell? ⟨g, 32, none⟩ = some (.slice B m cb) := by
  have hi : (ints .u8 h).size = 32 := sizeI hl
  constructor
  · intro j v hv
    have hj : j < 32 := by
      have := (List.getElem?_eq_some_iff.1 hv).1
      rw [cellsI_len] at this
      omega
    rw [Nat.zero_add, hs.cell hm, chainedC, Array.getElem?_append_left (by omega), ← hv, ← ints_toList]
    simp
  · rw [hs.cell hm, chainedC, Array.getElem?_append_right (by omega), hi]
    rfl
theorem row39 : RowTy Try.prog 39 33 := ⟨⟨_, Try.underlying39, rfl⟩, by kernel_rfl⟩
set_option maxHeartbeats 16000000 in
theorem tagtells_any (a b h : List Nat) (ha : ∀ x ∈ a, x < 256) (hb : ∀ x ∈ b, x < 256) (hh : ∀ x ∈ h, x < 256) (hl : h.length = 32) (ps : List (List Nat)) (hpb : ∀ x ∈ ps.flatten, x < 256) (A1 A2 B : Option Addr) (n1 c1 n2 c2 m cb : Nat)
    (hn1 : n1 ≤ 9223372036854775807) (hn2 : n2 ≤ 9223372036854775807) (hm : m ≤ 9223372036854775807) (w : World) (hr1 : RdI w .u8 A1 n1 a) (hr2 : RdI w .u8 A2 n2 b) (hp : RdP w B m ps) :
    Calls Try.prog 6 #[.slice A1 n1 c1, .slice A2 n2 c2, .agg (chainedC h B m cb)] w fun e w' => e = .returned (.bool true) ∧ Below w.heap.size w w' := by
  have HFair := Lib.hid fun w hp => fair_any ps B m cb hm w hp
  have hpl := hp.1
  by_cases h3 : 3000 < n1
  · have d1 : decide ((3000 : Int) < (n1 : Int)) = true := by simp; omega
    have i1 : (3000 : Int) < (n1 : Int) := by omega
    clear hpl
    go_enter Try.func6, Try.ntmps6
    have hs := St.nil w
    go_wp2_with (first
      | (with_reducible refine wpl_boxRow (o := ⟨some 5, _, _, _, _, _⟩) hs rfl 39 _ rfl (chainedC h B m cb) rfl ?_; clear hs; intro g5 w1 hs)
      | (go_at_call 23; refine (wakes03_any _).mono ?_; rintro e w3 ⟨rfl, hb3⟩; replace hs := hs.call hb3; clear hb3))
    go_ret
    exact ⟨rfl, hs.below⟩
  have d1 : decide ((3000 : Int) < (n1 : Int)) = false := by simp; omega
  have i1 : (n1 : Int) ≤ 3000 := by omega
  by_cases h4 : 3000 < n2
  · have d2 : decide ((3000 : Int) < (n2 : Int)) = true := by simp; omega
    have i2 : (3000 : Int) < (n2 : Int) := by omega
    clear hpl
    go_enter Try.func6, Try.ntmps6
    have hs := St.nil w
    go_wp2_with (first
      | (with_reducible refine wpl_boxRow (o := ⟨some 5, _, _, _, _, _⟩) hs rfl 39 _ rfl (chainedC h B m cb) rfl ?_; clear hs; intro g5 w1 hs)
      | (go_at_call 23; refine (wakes03_any _).mono ?_; rintro e w3 ⟨rfl, hb3⟩; replace hs := hs.call hb3; clear hb3))
    go_ret
    exact ⟨rfl, hs.below⟩
  have d2 : decide ((3000 : Int) < (n2 : Int)) = false := by simp; omega
  have i2 : (n2 : Int) ≤ 3000 := by omega
  cases hf : fairB ps with
  | false =>
    rw [hf] at HFair
    clear hpl hf
    go_enter Try.func6, Try.ntmps6
    have hs := St.nil w
    go_wp2_with (first
      | ((with_reducible refine wpl_boxRow (o := ⟨some 5, _, _, _, _, _⟩) hs rfl 39 _ rfl (chainedC h B m cb) rfl ?_); clear hs; intro g5 w1 hs; have hc5 := (hs.chained .head hl).2)
      | (go_at_call 14; refine (HFair.out _ (hp.st hs)).mono ?_; rintro e w3 ⟨rfl, rfl⟩)
      | (go_at_call 23; refine (wakes03_any _).mono ?_; rintro e w3 ⟨rfl, hb3⟩; replace hs := hs.call hb3; clear hb3))
    go_ret
    exact ⟨rfl, hs.below⟩
  | true =>
    obtain ⟨hfl, hm60⟩ := fair_len hf
    rw [hf] at HFair
    rw [hpl] at hm60
    have hparts : ∀ l ∈ ps, l.length ≤ 100000 := by
      intro l hl
      have := flat_part hl
      omega
    obtain ⟨CL, hCL⟩ : ∃ CL, CL = chainL h ps m := ⟨_, rfl⟩
    have cll : CL.length = m := by rw [hCL, chainL_len]
    have cu : ∀ l ∈ CL, l.length = 32 := by
      rw [hCL]
      intro l hl2
      obtain ⟨i, _, rfl⟩ := List.mem_map.1 hl2
      exact link_len hl ps (i + 1)
    have cbb : ∀ l ∈ CL, ∀ x ∈ l, x < 256 := by
      rw [hCL]
      intro l hl2
      obtain ⟨i, _, rfl⟩ := List.mem_map.1 hl2
      exact link_lt hh ps (i + 1)
    obtain ⟨R, hR⟩ : ∃ R, R = hash (h ++ ps.flatten) := ⟨_, rfl⟩
    have rl : R.length = 32 := by rw [hR]; exact hash_len _
    have rb : ∀ x ∈ R, x < 256 := by rw [hR]; exact hash_lt _
    obtain ⟨s, hsv⟩ : ∃ s, s = sameB a b := ⟨_, rfl⟩
    have HC : Hid (∀ w, RdP w B m ps → Calls Try.prog 17 #[.slice B m cb] w fun e w' => ∃ A' c', e = .returned (.slice A' m c') ∧ RdP w' A' m ps ∧ Below w.heap.size w w') :=
      Lib.hid fun w hp => copy_any ps hparts B m cb (by omega) w hp
    have HCh : Hid (∀ (B : Option Addr) (cb : Nat) (w : World), RdP w B m ps → Calls Try.prog 24 #[.agg (ints .u8 h), .slice B m cb] w fun e w' => ∃ A c, e = .returned (.slice A m c) ∧ (rowR A m c 27 32 (cellsI .u8 CL.flatten)).ok w.heap.size w' ∧ Below w.heap.size w w') :=
      Lib.hid fun B cb w hp => by rw [hCL]; exact chain_any h hl hh ps hpb (by omega) B m cb (by omega) w hp
    have HCr : Hid (∀ (w : World), RdP w B m ps → Calls Try.prog 25 #[.agg (ints .u8 h), .slice B m cb] w fun e w' => ∃ A c, e = .returned (.slice A m c) ∧ (rowR A m c 27 32 (cellsI .u8 CL.flatten)).ok w.heap.size w' ∧ Below w.heap.size w w') :=
      Lib.hid fun w hp => by rw [hCL]; exact rchain_any h hl hh ps hpb (by omega) B m cb (by omega) w hp
    have HSt : Hid (∀ (B : Option Addr) (cb : Nat) (w : World), RdP w B m ps → Calls Try.prog 27 #[.agg (ints .u8 h), .slice B m cb] w fun e w' => e = .returned (.agg (ints .u8 R)) ∧ Below w.heap.size w w') :=
      Lib.hid fun B cb w hp => by rw [hR]; exact step_any h hl hh ps hpb (by omega) B m cb (by omega) w hp
    have HSr : Hid (∀ (w : World), RdP w B m ps → Calls Try.prog 28 #[.agg (ints .u8 h), .slice B m cb] w fun e w' => e = .returned (.agg (ints .u8 R)) ∧ Below w.heap.size w w') :=
      Lib.hid fun w hp => by rw [hR]; exact rstep_any h hl hh ps hpb (by omega) B m cb (by omega) w hp
    have HSame : Hid (∀ (w : World), RdI w .u8 A1 n1 a → RdI w .u8 A2 n2 b → Calls Try.prog 26 #[.slice A1 n1 c1, .slice A2 n2 c2] w fun e w' => e = .returned (.bool s) ∧ Below w.heap.size w w') :=
      Lib.hid fun w x y => by rw [hsv]; exact same_any a b ha hb A1 A2 n1 c1 n2 c2 hn1 w x y
    have HBy : Hid (∀ (w : World), RdI w .u8 A1 n1 a → RdI w .u8 A2 n2 b → Calls Try.prog 21 #[.slice A1 n1 c1, .slice A2 n2 c2] w fun e w' => e = .returned (.bool s) ∧ w = w') :=
      Lib.hid fun w x y => by rw [hsv]; exact bytes_any a b ha hb A1 A2 n1 c1 n2 c2 w x y
    have heq : ∀ w, (binOp .eql 27 (.agg (ints .u8 R)) (.agg (ints .u8 R))).run Try.prog w = .ok (.bool true) w := fun w => by
      rw [run_eq27 w rl rl rb rb]; simp
    have g27 : ∀ (op : BinOp) (x y : Operand) (xs ys : Array Value) (w : World), (eqGuard op 27 x y (.agg xs) (.agg ys)).run Try.prog w = .ok () w := guard27
    have CU := Lib.hid cu
    have CB := Lib.hid cbb
    have CLL := Lib.hid cll
    clear hCL hR hsv hparts hpl hf rb cu cbb cll ha hb hh hpb
    go_enter Try.func6, Try.ntmps6
    have hs := St.nil w
    go_wp2_with (first
      | ((with_reducible refine wpl_boxRow (o := ⟨some 5, _, _, _, _, _⟩) hs rfl 39 _ rfl (chainedC h B m cb) rfl ?_); clear hs; intro g5 w1 hs; have hc5 := (hs.chained .head hl).2)
      | (go_at_call 14; refine (HFair.out _ (hp.st hs)).mono ?_; rintro e w3 ⟨rfl, rfl⟩))
    refine reg_K 11 (Since0 w1.drew) (by kernel_rfl) (by kernel_rfl) ?_
    replace hs := hs.drew
    have hs0 := hs
    replace hs := St.nil w1.drew
    have hch0 := hs0.chained .head hl
    have hp0 := hp.st hs0
    refine K_take (i := 0) (oi := ⟨some 25, _, _, _, _, _⟩) rfl (by decide) (by kernel_rfl) (by kernel_rfl) (fun _ _ _ h => h) (v := .pointer (some ⟨g5, 0, none⟩)) (Or.inl ⟨by rfl, fun w' _ => by go_simp⟩) hs.below ?_
    simp only [Act.put, List.setIfInBounds_toArray, List.set_cons_zero, List.set_cons_succ]
    refine K_take (i := 1) (oi := ⟨some 26, _, _, _, _, _⟩) rfl (by decide) (by kernel_rfl) (by kernel_rfl) (fun _ _ _ h => h) (v := .agg (ints .u8 h)) (yields_load (by rfl) 27 _ rfl _ rfl (fun w' hS => load_digest (Since0.range hS hch0.1) hl)) hs.below ?_
    simp only [Act.put, List.setIfInBounds_toArray, List.set_cons_zero, List.set_cons_succ]
    refine K_take (i := 2) (oi := ⟨some 27, _, _, _, _, _⟩) rfl (by decide) (by kernel_rfl) (by kernel_rfl) (fun _ _ _ h => h) (v := .pointer (some ⟨g5, 32, none⟩)) (Or.inl ⟨by rfl, fun w' _ => by go_simp⟩) hs.below ?_
    simp only [Act.put, List.setIfInBounds_toArray, List.set_cons_zero, List.set_cons_succ]
    refine K_take (i := 3) (oi := ⟨some 28, _, _, _, _, _⟩) rfl (by decide) (by kernel_rfl) (by kernel_rfl) (fun _ _ _ h => h) (v := .slice B m cb) (Or.inl ⟨by rfl, fun w' hS => by have hc' := Since0.at hS hch0.2; go_simp⟩) hs.below ?_
    simp only [Act.put, List.setIfInBounds_toArray, List.set_cons_zero, List.set_cons_succ]
    refine K_take (i := 6) (oi := ⟨some 31, _, _, _, _, _⟩) rfl (by decide) (by kernel_rfl) (by kernel_rfl) (fun _ _ _ h => h) (v := .pointer (some ⟨g5, 0, none⟩)) (Or.inl ⟨by rfl, fun w' _ => by go_simp⟩) hs.below ?_
    simp only [Act.put, List.setIfInBounds_toArray, List.set_cons_zero, List.set_cons_succ]
    refine K_take (i := 7) (oi := ⟨some 32, _, _, _, _, _⟩) rfl (by decide) (by kernel_rfl) (by kernel_rfl) (fun _ _ _ h => h) (v := .agg (ints .u8 h)) (yields_load (by rfl) 27 _ rfl _ rfl (fun w' hS => load_digest (Since0.range hS hch0.1) hl)) hs.below ?_
    simp only [Act.put, List.setIfInBounds_toArray, List.set_cons_zero, List.set_cons_succ]
    refine K_take (i := 8) (oi := ⟨some 33, _, _, _, _, _⟩) rfl (by decide) (by kernel_rfl) (by kernel_rfl) (fun _ _ _ h => h) (v := .pointer (some ⟨g5, 32, none⟩)) (Or.inl ⟨by rfl, fun w' _ => by go_simp⟩) hs.below ?_
    simp only [Act.put, List.setIfInBounds_toArray, List.set_cons_zero, List.set_cons_succ]
    refine K_take (i := 9) (oi := ⟨some 34, _, _, _, _, _⟩) rfl (by decide) (by kernel_rfl) (by kernel_rfl) (fun _ _ _ h => h) (v := .slice B m cb) (Or.inl ⟨by rfl, fun w' hS => by have hc' := Since0.at hS hch0.2; go_simp⟩) hs.below ?_
    simp only [Act.put, List.setIfInBounds_toArray, List.set_cons_zero, List.set_cons_succ]
    refine K_one (i := 4) (by kernel_rfl) (by decide) ?_
    refine K_op (o := ⟨_, _, _, _, _, _⟩) rfl ?_
    intro KK hKK
    go_wp2_with (go_at_call 17; refine (HC.out _ (hp0.st hs)).mono ?_; rintro e w17 ⟨A20, c20, rfl, hp20, hb17⟩; replace hs := hs.call hb17; clear hb17)
    refine kpost (hKK.out _ _ ⟨hs.below, ?_⟩)
    clear hKK KK
    refine K_one (i := 5) (by kernel_rfl) (by decide) ?_
    refine K_op (o := ⟨_, _, _, _, _, _⟩) rfl ?_
    intro KK hKK
    go_wp2_with (go_at_call 24; refine (HCh.out _ _ _ hp20).mono ?_; clear hp20; rintro e w24 ⟨A7, c7, rfl, ho7, hb24⟩; replace hs := hs.push hb24 ho7; clear hb24 ho7)
    refine kpost (hKK.out _ _ ⟨hs.below, ?_⟩)
    clear hKK KK
    refine K_one (i := 10) (by kernel_rfl) (by decide) ?_
    refine K_op (o := ⟨_, _, _, _, _, _⟩) rfl ?_
    intro KK hKK
    go_wp2_with (go_at_call 25; refine (HCr.out _ (hp0.st hs)).mono ?_; rintro e w25 ⟨A8, c8, rfl, ho8, hb25⟩; replace hs := hs.push hb25 ho8; clear hb25 ho8)
    refine kpost (hKK.out _ _ ⟨hs.below, ?_⟩)
    clear hKK KK
    refine K_done (by kernel_rfl) ?_
    simp only [List.drop_succ_cons, List.drop_zero]
    replace hs := hs0.since hs
    clear hs0
    clear hch0 hp0 hc5
    go_wp2_with fail
    have hl7 := Rd.of_own (hs.has_own (.tail .head))
    have hl8 := Rd.of_own (hs.has_own .head)
    go_loopw [9] (fun t wr => ∃ k : Nat, k ≤ m ∧ t = .int .i64 k ∧ St w wr [rowR A8 m c8 27 32 (cellsI .u8 CL.flatten), rowR A7 m c7 27 32 (cellsI .u8 CL.flatten), .blk g5 39 (chainedC h B m cb)]) (fun t _ => m - (intOf t).toNat)
    case atStart => exact ⟨0, by omega, rfl, hs⟩
    case round =>
      clear hs hl7 hl8
      obtain ⟨k, hk, rfl, hs⟩ := hrel
      by_cases hlt : k < m
      · have d3 : decide ((k : Int) < (m : Int)) = true := by simp; omega
        have i3 : (k : Int) < (m : Int) := by omega
        obtain ⟨g7, rfl, _⟩ := own_some (hs.has_own (.tail .head)) (by omega)
        obtain ⟨g8, rfl, _⟩ := own_some (hs.has_own .head) (by omega)
        obtain ⟨X, hX⟩ : ∃ X, CL[k]? = some X := ⟨_, List.getElem?_eq_getElem (by have := CLL.out; omega)⟩
        have xl := CU.out X (List.mem_of_getElem? hX)
        have xb := CB.out X (List.mem_of_getElem? hX)
        have rg7 := digest_at (Rd.of_own (hs.has_own (.tail .head))) CU.out hX
        have rg8 := digest_at (Rd.of_own (hs.has_own .head)) CU.out hX
        have hne : ∀ w, (binOp .neq 27 (.agg (ints .u8 X)) (.agg (ints .u8 X))).run Try.prog w = .ok (.bool false) w := fun w => by
          rw [run_ne27 w xl xl xb xb]; simp
        clear hX xb
        have tk : ((k : Int)).toNat = k := by omega
        have e0 : 0 ≤ (k : Int) := by omega
        have k32 : k * 32 = 32 * k := Nat.mul_comm _ _
        go_wp2_with fail
        refine reg_K 8 (Since0 wr.drew) (by kernel_rfl) (by kernel_rfl) ?_
        replace hs := hs.drew
        have hs0 := hs
        replace hs := St.nil wr.drew
        have rg7' := Since0.range ((Below.refl _ _).drew : Since0 wr wr.drew) rg7
        have rg8' := Since0.range ((Below.refl _ _).drew : Since0 wr wr.drew) rg8
        refine K_take (i := 0) (oi := ⟨some 47, _, _, _, _, _⟩) rfl (by decide) (by kernel_rfl) (by kernel_rfl) (fun _ _ _ h => h) (v := .slice (some ⟨g7, 0, none⟩) m c7) (Or.inl ⟨by rfl, fun w' _ => by go_simp⟩) hs.below ?_
        simp only [Act.put, List.setIfInBounds_toArray, List.set_cons_zero, List.set_cons_succ]
        refine K_take (i := 1) (oi := ⟨some 48, _, _, _, _, _⟩) rfl (by decide) (by kernel_rfl) (by kernel_rfl) (fun _ _ _ h => h) (v := .int .i64 k) (Or.inl ⟨by rfl, fun w' _ => by go_simp⟩) hs.below ?_
        simp only [Act.put, List.setIfInBounds_toArray, List.set_cons_zero, List.set_cons_succ]
        refine K_take (i := 2) (oi := ⟨some 49, _, _, _, _, _⟩) rfl (by decide) (by kernel_rfl) (by kernel_rfl) (fun _ _ _ h => h) (v := .pointer (some ⟨g7, 32 * k, none⟩)) (Or.inl ⟨by rfl, fun w' _ => by go_simp⟩) hs.below ?_
        simp only [Act.put, List.setIfInBounds_toArray, List.set_cons_zero, List.set_cons_succ]
        refine K_take (i := 3) (oi := ⟨some 50, _, _, _, _, _⟩) rfl (by decide) (by kernel_rfl) (by kernel_rfl) (fun _ _ _ h => h) (v := .agg (ints .u8 X)) (yields_load (by rfl) 27 _ rfl _ rfl (fun w' hS => load_digest (Since0.range hS rg7') xl)) hs.below ?_
        simp only [Act.put, List.setIfInBounds_toArray, List.set_cons_zero, List.set_cons_succ]
        refine K_take (i := 4) (oi := ⟨some 51, _, _, _, _, _⟩) rfl (by decide) (by kernel_rfl) (by kernel_rfl) (fun _ _ _ h => h) (v := .slice (some ⟨g8, 0, none⟩) m c8) (Or.inl ⟨by rfl, fun w' _ => by go_simp⟩) hs.below ?_
        simp only [Act.put, List.setIfInBounds_toArray, List.set_cons_zero, List.set_cons_succ]
        refine K_take (i := 5) (oi := ⟨some 52, _, _, _, _, _⟩) rfl (by decide) (by kernel_rfl) (by kernel_rfl) (fun _ _ _ h => h) (v := .int .i64 k) (Or.inl ⟨by rfl, fun w' _ => by go_simp⟩) hs.below ?_
        simp only [Act.put, List.setIfInBounds_toArray, List.set_cons_zero, List.set_cons_succ]
        refine K_take (i := 6) (oi := ⟨some 53, _, _, _, _, _⟩) rfl (by decide) (by kernel_rfl) (by kernel_rfl) (fun _ _ _ h => h) (v := .pointer (some ⟨g8, 32 * k, none⟩)) (Or.inl ⟨by rfl, fun w' _ => by go_simp⟩) hs.below ?_
        simp only [Act.put, List.setIfInBounds_toArray, List.set_cons_zero, List.set_cons_succ]
        refine K_take (i := 7) (oi := ⟨some 54, _, _, _, _, _⟩) rfl (by decide) (by kernel_rfl) (by kernel_rfl) (fun _ _ _ h => h) (v := .agg (ints .u8 X)) (yields_load (by rfl) 27 _ rfl _ rfl (fun w' hS => load_digest (Since0.range hS rg8') xl)) hs.below ?_
        simp only [Act.put, List.setIfInBounds_toArray, List.set_cons_zero, List.set_cons_succ]
        refine K_done (by kernel_rfl) ?_
        simp only [List.drop_succ_cons, List.drop_zero]
        replace hs := hs0.since hs
        clear hs0
        go_wp2_with fail
        go_roundw
        case rel => exact ⟨k + 1, by omega, by go_num, hs⟩
        case measure => simp [intOf]; omega
      · have d3 : decide ((k : Int) < (m : Int)) = false := by simp; omega
        have i3 : (m : Int) ≤ (k : Int) := by omega
        go_wp2_with fail
        refine reg_K 24 (Since0 wr.drew) (by kernel_rfl) (by kernel_rfl) ?_
        replace hs := hs.drew
        have hs0 := hs
        replace hs := St.nil wr.drew
        have hch0 := hs0.chained (.tail (.tail .head)) hl
        have hp0 := hp.st hs0
        have hr10 := hr1.st hs0
        have hr20 := hr2.st hs0
        refine K_take (i := 0) (oi := ⟨some 56, _, _, _, _, _⟩) rfl (by decide) (by kernel_rfl) (by kernel_rfl) (fun _ _ _ h => h) (v := .slice A1 n1 c1) (Or.inl ⟨by rfl, fun w' _ => by go_simp⟩) hs.below ?_
        simp only [Act.put, List.setIfInBounds_toArray, List.set_cons_zero, List.set_cons_succ]
        refine K_take (i := 1) (oi := ⟨some 57, _, _, _, _, _⟩) rfl (by decide) (by kernel_rfl) (by kernel_rfl) (fun _ _ _ h => h) (v := .slice A2 n2 c2) (Or.inl ⟨by rfl, fun w' _ => by go_simp⟩) hs.below ?_
        simp only [Act.put, List.setIfInBounds_toArray, List.set_cons_zero, List.set_cons_succ]
        refine K_take (i := 3) (oi := ⟨some 59, _, _, _, _, _⟩) rfl (by decide) (by kernel_rfl) (by kernel_rfl) (fun _ _ _ h => h) (v := .slice A1 n1 c1) (Or.inl ⟨by rfl, fun w' _ => by go_simp⟩) hs.below ?_
        simp only [Act.put, List.setIfInBounds_toArray, List.set_cons_zero, List.set_cons_succ]
        refine K_take (i := 4) (oi := ⟨some 60, _, _, _, _, _⟩) rfl (by decide) (by kernel_rfl) (by kernel_rfl) (fun _ _ _ h => h) (v := .slice A2 n2 c2) (Or.inl ⟨by rfl, fun w' _ => by go_simp⟩) hs.below ?_
        simp only [Act.put, List.setIfInBounds_toArray, List.set_cons_zero, List.set_cons_succ]
        refine K_one (i := 2) (by kernel_rfl) (by decide) ?_
        refine K_op (o := ⟨_, _, _, _, _, _⟩) rfl ?_
        intro KK hKK
        go_wp2_with (go_at_call 26; refine (HSame.out _ (hr10.st hs) (hr20.st hs)).mono ?_; rintro e w26 ⟨rfl, hb26⟩; replace hs := hs.call hb26; clear hb26)
        refine kpost (hKK.out _ _ ⟨hs.below, ?_⟩)
        clear hKK KK
        refine K_one (i := 5) (by kernel_rfl) (by decide) ?_
        refine K_op (o := ⟨_, _, _, _, _, _⟩) rfl ?_
        intro KK hKK
        go_wp2_with (go_at_call 21; refine (HBy.out _ (hr10.st hs) (hr20.st hs)).mono ?_; rintro e w21 ⟨rfl, rfl⟩)
        refine kpost (hKK.out _ _ ⟨hs.below, ?_⟩)
        clear hKK KK
        refine K_one (i := 6) (by kernel_rfl) (by decide) ?_
        refine K_op (o := ⟨_, _, _, _, _, _⟩) rfl ?_
        intro KK hKK
        go_wp2_with fail
        refine kpost (hKK.out _ _ ⟨hs.below, ?_⟩)
        clear hKK KK
        refine K_one (i := 7) (by kernel_rfl) (by decide) ?_
        refine K_op (o := ⟨_, _, _, _, _, _⟩) rfl ?_
        intro KK hKK
        go_wp2_with fail
        refine kpost (hKK.out _ _ ⟨hs.below, ?_⟩)
        clear hKK KK
        refine K_take (i := 8) (oi := ⟨some 64, _, _, _, _, _⟩) rfl (by decide) (by kernel_rfl) (by kernel_rfl) (fun _ _ _ h => h) (v := .pointer (some ⟨g5, 0, none⟩)) (Or.inl ⟨by rfl, fun w' _ => by go_simp⟩) hs.below ?_
        simp only [Act.put, List.setIfInBounds_toArray, List.set_cons_zero, List.set_cons_succ]
        refine K_take (i := 9) (oi := ⟨some 65, _, _, _, _, _⟩) rfl (by decide) (by kernel_rfl) (by kernel_rfl) (fun _ _ _ h => h) (v := .agg (ints .u8 h)) (yields_load (by rfl) 27 _ rfl _ rfl (fun w' hS => load_digest (Since0.range hS hch0.1) hl)) hs.below ?_
        simp only [Act.put, List.setIfInBounds_toArray, List.set_cons_zero, List.set_cons_succ]
        refine K_take (i := 10) (oi := ⟨some 66, _, _, _, _, _⟩) rfl (by decide) (by kernel_rfl) (by kernel_rfl) (fun _ _ _ h => h) (v := .pointer (some ⟨g5, 32, none⟩)) (Or.inl ⟨by rfl, fun w' _ => by go_simp⟩) hs.below ?_
        simp only [Act.put, List.setIfInBounds_toArray, List.set_cons_zero, List.set_cons_succ]
        refine K_take (i := 11) (oi := ⟨some 67, _, _, _, _, _⟩) rfl (by decide) (by kernel_rfl) (by kernel_rfl) (fun _ _ _ h => h) (v := .slice B m cb) (Or.inl ⟨by rfl, fun w' hS => by have hc' := Since0.at hS hch0.2; go_simp⟩) hs.below ?_
        simp only [Act.put, List.setIfInBounds_toArray, List.set_cons_zero, List.set_cons_succ]
        refine K_take (i := 14) (oi := ⟨some 70, _, _, _, _, _⟩) rfl (by decide) (by kernel_rfl) (by kernel_rfl) (fun _ _ _ h => h) (v := .pointer (some ⟨g5, 0, none⟩)) (Or.inl ⟨by rfl, fun w' _ => by go_simp⟩) hs.below ?_
        simp only [Act.put, List.setIfInBounds_toArray, List.set_cons_zero, List.set_cons_succ]
        refine K_take (i := 15) (oi := ⟨some 71, _, _, _, _, _⟩) rfl (by decide) (by kernel_rfl) (by kernel_rfl) (fun _ _ _ h => h) (v := .agg (ints .u8 h)) (yields_load (by rfl) 27 _ rfl _ rfl (fun w' hS => load_digest (Since0.range hS hch0.1) hl)) hs.below ?_
        simp only [Act.put, List.setIfInBounds_toArray, List.set_cons_zero, List.set_cons_succ]
        refine K_take (i := 16) (oi := ⟨some 72, _, _, _, _, _⟩) rfl (by decide) (by kernel_rfl) (by kernel_rfl) (fun _ _ _ h => h) (v := .pointer (some ⟨g5, 32, none⟩)) (Or.inl ⟨by rfl, fun w' _ => by go_simp⟩) hs.below ?_
        simp only [Act.put, List.setIfInBounds_toArray, List.set_cons_zero, List.set_cons_succ]
        refine K_take (i := 17) (oi := ⟨some 73, _, _, _, _, _⟩) rfl (by decide) (by kernel_rfl) (by kernel_rfl) (fun _ _ _ h => h) (v := .slice B m cb) (Or.inl ⟨by rfl, fun w' hS => by have hc' := Since0.at hS hch0.2; go_simp⟩) hs.below ?_
        simp only [Act.put, List.setIfInBounds_toArray, List.set_cons_zero, List.set_cons_succ]
        refine K_one (i := 12) (by kernel_rfl) (by decide) ?_
        refine K_op (o := ⟨_, _, _, _, _, _⟩) rfl ?_
        intro KK hKK
        go_wp2_with (go_at_call 17; refine (HC.out _ (hp0.st hs)).mono ?_; rintro e w17 ⟨A20, c20, rfl, hp20, hb17⟩; replace hs := hs.call hb17; clear hb17)
        refine kpost (hKK.out _ _ ⟨hs.below, ?_⟩)
        clear hKK KK
        refine K_one (i := 13) (by kernel_rfl) (by decide) ?_
        refine K_op (o := ⟨_, _, _, _, _, _⟩) rfl ?_
        intro KK hKK
        go_wp2_with (go_at_call 27; refine (HSt.out _ _ _ hp20).mono ?_; clear hp20; rintro e w27 ⟨rfl, hb27⟩; replace hs := hs.call hb27; clear hb27)
        refine kpost (hKK.out _ _ ⟨hs.below, ?_⟩)
        clear hKK KK
        refine K_one (i := 18) (by kernel_rfl) (by decide) ?_
        refine K_op (o := ⟨_, _, _, _, _, _⟩) rfl ?_
        intro KK hKK
        go_wp2_with (go_at_call 28; refine (HSr.out _ (hp0.st hs)).mono ?_; rintro e w28 ⟨rfl, hb28⟩; replace hs := hs.call hb28; clear hb28)
        refine kpost (hKK.out _ _ ⟨hs.below, ?_⟩)
        clear hKK KK
        refine K_one (i := 19) (by kernel_rfl) (by decide) ?_
        refine K_op (o := ⟨_, _, _, _, _, _⟩) rfl ?_
        intro KK hKK
        go_wp2_with fail
        refine kpost (hKK.out _ _ ⟨hs.below, ?_⟩)
        clear hKK KK
        refine K_one (i := 20) (by kernel_rfl) (by decide) ?_
        refine K_op (o := ⟨_, _, _, _, _, _⟩) rfl ?_
        intro KK hKK
        go_wp2_with fail
        refine kpost (hKK.out _ _ ⟨hs.below, ?_⟩)
        clear hKK KK
        refine K_one (i := 21) (by kernel_rfl) (by decide) ?_
        refine K_op (o := ⟨_, _, _, _, _, _⟩) rfl ?_
        intro KK hKK
        go_wp2_with fail
        refine kpost (hKK.out _ _ ⟨hs.below, ?_⟩)
        clear hKK KK
        refine K_one (i := 22) (by kernel_rfl) (by decide) ?_
        refine K_op (o := ⟨_, _, _, _, _, _⟩) rfl ?_
        intro KK hKK
        go_wp2_with (go_at_call 23; refine (wakes03_any _).mono ?_; rintro e w29 ⟨rfl, hb29⟩; replace hs := hs.call hb29; clear hb29)
        refine kpost (hKK.out _ _ ⟨hs.below, ?_⟩)
        clear hKK KK
        refine K_one (i := 23) (by kernel_rfl) (by decide) ?_
        refine K_op (o := ⟨_, _, _, _, _, _⟩) rfl ?_
        intro KK hKK
        go_wp2_with fail
        refine kpost (hKK.out _ _ ⟨hs.below, ?_⟩)
        clear hKK KK
        refine K_done (by kernel_rfl) ?_
        simp only [List.drop_succ_cons, List.drop_zero]
        replace hs := hs0.since hs
        clear hs0
        go_wp2_with fail
        go_ret
        exact ⟨rfl, hs.below⟩
end Go.Proofs.Ytleabipplchbpaa
