/-
  The statement TagGoes, walked where the cut is at the first. (Printed by wip/tools/tagF.py.)
-/
import Derived.Test.YtleabipplchbpaaTagF
namespace Go.Proofs.Ytleabipplchbpaa
open Go.RowKit
set_option maxRecDepth 100000
set_option maxHeartbeats 32000000 in
theorem taggoes_zero (h : List Nat) (hh : ∀ x ∈ h, x < 256) (hl : h.length = 32) (ps : List (List Nat)) (hpb : ∀ x ∈ ps.flatten, x < 256) (B : Option Addr) (m cb : Nat) (hm : m ≤ 9223372036854775807) (hmc : m ≤ cb) (u : Nat) (hu : u < 256) (w : World) (hp : RdP w B m ps) (hf : fairB ps = true)
    (kk : Nat) (hkk : kk = u % (m + 1)) (h0k : kk = 0) :
    Calls Try.prog 7 #[.agg (chainedC h B m cb), .int .u8 u] w fun e w' => e = .returned (.bool true) ∧ Below w.heap.size w w' := by
  have HFair := Lib.hid fun w hp => fair_any ps B m cb hm w hp
  have hpl := hp.1
  obtain ⟨hfl, hm60⟩ := fair_len hf
  rw [hf] at HFair
  rw [hpl] at hm60
  have hkm : kk ≤ m := by rw [hkk]; have := Nat.mod_lt u (show 0 < m + 1 by omega); omega
  have t1 : (u : Int).tmod ((m : Int) + 1) = (kk : Int) := by
    rw [hkk, Int.tmod_eq_emod_of_nonneg (by omega), Int.natCast_emod]
    rfl
  have t2 : (u : Int) % ((m : Int) + 1) = (kk : Int) := by
    rw [hkk, Int.natCast_emod]
    rfl
  have z1 : ¬ ((m : Int) + 1 = 0) := by omega
  obtain ⟨CL, hCL⟩ : ∃ CL, CL = chainL h ps m := ⟨_, rfl⟩
  obtain ⟨CA, hCA⟩ : ∃ CA, CA = chainL h (ps.take kk) kk := ⟨_, rfl⟩
  obtain ⟨HK, hHK⟩ : ∃ HK, HK = linkAt h ps kk := ⟨_, rfl⟩
  obtain ⟨CB, hCB⟩ : ∃ CB, CB = chainL HK (ps.drop kk) (m - kk) := ⟨_, rfl⟩
  have hkl : HK.length = 32 := by rw [hHK]; exact link_len hl ps kk
  have hkb : ∀ x ∈ HK, x < 256 := by rw [hHK]; exact link_lt hh ps kk
  have uni : ∀ (h' : List Nat) (hl' : h'.length = 32) (qs : List (List Nat)) (k : Nat), ∀ l ∈ chainL h' qs k, l.length = 32 := by
    intro h' hl' qs k l hl2
    obtain ⟨i, _, rfl⟩ := List.mem_map.1 hl2
    exact link_len hl' qs (i + 1)
  have uL : ∀ l ∈ CL, l.length = 32 := by rw [hCL]; exact uni h hl _ _
  have uA : ∀ l ∈ CA, l.length = 32 := by rw [hCA]; exact uni h hl _ _
  have uB : ∀ l ∈ CB, l.length = 32 := by rw [hCB]; exact uni HK hkl _ _
  have HgL : Hid (∀ i, i < m → CL[i]? = some (linkAt h ps (i + 1))) := Lib.hid fun i hi => by rw [hCL]; exact chainL_get h ps hi
  have HgA : Hid (∀ i, i < kk → CA[i]? = some (linkAt h ps (i + 1))) := Lib.hid fun i hi => by rw [hCA, chainL_get h _ hi, link_take h ps kk (i + 1) (by omega)]
  have HgB : Hid (∀ i, kk ≤ i → i < m → CB[i - kk]? = some (linkAt h ps (i + 1))) := Lib.hid fun i hi hi2 => by
    rw [hCB, chainL_get HK _ (by omega), hHK, link_drop, show kk + (i - kk + 1) = i + 1 by omega]
  have HCA : Hid (∀ (w : World), RdP w B kk (ps.take kk) → Calls Try.prog 24 #[.agg (ints .u8 h), .slice B kk cb] w fun e w' => ∃ A c, e = .returned (.slice A kk c) ∧ (rowR A kk c 27 32 (cellsI .u8 CA.flatten)).ok w.heap.size w' ∧ Below w.heap.size w w') :=
    Lib.hid fun w hp => by rw [hCA]; exact chain_any h hl hh _ (flat_sub (fun l h => List.mem_of_mem_take h) hpb) (by have := flat_take_len ps kk; omega) B kk cb (by omega) w hp
  have HCB : Hid (∀ (w : World), RdP w (fromA B cb kk) (m - kk) (ps.drop kk) → Calls Try.prog 24 #[.agg (ints .u8 HK), .slice (fromA B cb kk) (m - kk) (cb - kk)] w fun e w' => ∃ A c, e = .returned (.slice A (m - kk) c) ∧ (rowR A (m - kk) c 27 32 (cellsI .u8 CB.flatten)).ok w.heap.size w' ∧ Below w.heap.size w w') :=
    Lib.hid fun w hp => by rw [hCB]; exact chain_any HK hkl hkb _ (flat_sub (fun l h => List.mem_of_mem_drop h) hpb) (by have := flat_drop_len ps kk; omega) _ (m - kk) (cb - kk) (by omega) w hp
  have HCL : Hid (∀ (w : World), RdP w B m ps → Calls Try.prog 24 #[.agg (ints .u8 h), .slice B m cb] w fun e w' => ∃ A c, e = .returned (.slice A m c) ∧ (rowR A m c 27 32 (cellsI .u8 CL.flatten)).ok w.heap.size w' ∧ Below w.heap.size w w') :=
    Lib.hid fun w hp => by rw [hCL]; exact chain_any h hl hh ps hpb (by omega) B m cb (by omega) w hp
  have HTO := Lib.hid (run_to23 B m cb kk (by omega))
  have HFR := Lib.hid (run_from23 B m cb kk hkm)
  have q1 : ((m - kk : Nat) : Int) = (m : Int) - (kk : Int) := by omega
  have HX : Hid (∀ i, ∀ x ∈ linkAt h ps i, x < 256) := Lib.hid fun i => link_lt hh ps i
  have HPB := Lib.hid hpb
  have HL0 := Lib.hid hl
  have m60 : m ≤ 60 := hm60
  have HFL := Lib.hid hfl
  have HPL := Lib.hid hpl
  have UL := Lib.hid uL
  have UA := Lib.hid uA
  have UB := Lib.hid uB
  have HHK := Lib.hid hHK
  have wu : IntKind.i64.wrap (u : Int) = (u : Int) := by rw [IntKind.wrap_i64]; omega
  have dk : decide ((0 : Int) < (kk : Int)) = false := by simp; omega
  have ik : (kk : Int) ≤ 0 := by omega
  have H0K := Lib.hid h0k
  clear h0k
  clear hCL hCA hCB hHK uni uL uA uB hpl hf hkk hpb hm60 hh hkb
  go_enter Try.func7, Try.ntmps7
  have hs := St.nil w
  go_wp2_with (first
    | ((with_reducible refine wpl_boxRow (o := ⟨some 2, _, _, _, _, _⟩) hs rfl 39 _ rfl (chainedC h B m cb) rfl ?_); clear hs; intro g2 w1 hs; have hc5 := (hs.chained .head hl).2)
    | (go_at_call 14; refine (HFair.out _ (hp.st hs)).mono ?_; rintro e w3 ⟨rfl, rfl⟩))
  refine reg_K 7 (Since0 w1.drew) (by kernel_rfl) (by kernel_rfl) ?_
  replace hs := hs.drew
  have hs0 := hs
  replace hs := St.nil w1.drew
  have hch0 := hs0.chained .head hl
  have hp0 := hp.st hs0
  refine K_take (i := 0) (oi := ⟨some 23, _, _, _, _, _⟩) rfl (by decide) (by kernel_rfl) (by kernel_rfl) (fun _ _ _ h => h) (v := .pointer (some ⟨g2, 0, none⟩)) (Or.inl ⟨by rfl, fun w' _ => by go_simp⟩) hs.below ?_
  simp only [Act.put, List.setIfInBounds_toArray, List.set_cons_zero, List.set_cons_succ]
  refine K_take (i := 1) (oi := ⟨some 24, _, _, _, _, _⟩) rfl (by decide) (by kernel_rfl) (by kernel_rfl) (fun _ _ _ h => h) (v := .agg (ints .u8 h)) (yields_load (by rfl) 27 _ rfl _ rfl (fun w' hS => load_digest (Since0.range hS hch0.1) hl)) hs.below ?_
  simp only [Act.put, List.setIfInBounds_toArray, List.set_cons_zero, List.set_cons_succ]
  refine K_take (i := 2) (oi := ⟨some 25, _, _, _, _, _⟩) rfl (by decide) (by kernel_rfl) (by kernel_rfl) (fun _ _ _ h => h) (v := .pointer (some ⟨g2, 32, none⟩)) (Or.inl ⟨by rfl, fun w' _ => by go_simp⟩) hs.below ?_
  simp only [Act.put, List.setIfInBounds_toArray, List.set_cons_zero, List.set_cons_succ]
  refine K_take (i := 3) (oi := ⟨some 26, _, _, _, _, _⟩) rfl (by decide) (by kernel_rfl) (by kernel_rfl) (fun _ _ _ h => h) (v := .slice B m cb) (Or.inl ⟨by rfl, fun w' hS => by have hc' := Since0.at hS hch0.2; go_simp⟩) hs.below ?_
  simp only [Act.put, List.setIfInBounds_toArray, List.set_cons_zero, List.set_cons_succ]
  refine K_take (i := 4) (oi := ⟨some 27, _, _, _, _, _⟩) rfl (by decide) (by kernel_rfl) (by kernel_rfl) (fun _ _ _ h => h) (v := .int .i64 kk) (Or.inl ⟨by rfl, fun w' _ => by go_simp⟩) hs.below ?_
  simp only [Act.put, List.setIfInBounds_toArray, List.set_cons_zero, List.set_cons_succ]
  refine K_take (i := 5) (oi := ⟨some 28, _, _, _, _, _⟩) rfl (by decide) (by kernel_rfl) (by kernel_rfl) (fun _ _ _ h => h) (v := .slice B kk cb) (yields_slice (by rfl) 23 _ _ _ _ rfl HTO.out) hs.below ?_
  simp only [Act.put, List.setIfInBounds_toArray, List.set_cons_zero, List.set_cons_succ]
  refine K_one (i := 6) (by kernel_rfl) (by decide) ?_
  refine K_op (o := ⟨_, _, _, _, _, _⟩) rfl ?_
  intro KK hKK
  go_wp2_with (go_at_call 24; refine (HCA.out _ ((hp0.st hs).to hkm)).mono ?_; rintro e w24 ⟨A6, c6, rfl, ho6, hb24⟩; replace hs := hs.push hb24 ho6; clear hb24 ho6)
  refine kpost (hKK.out _ _ ⟨hs.below, ?_⟩)
  clear hKK KK
  refine K_done (by kernel_rfl) ?_
  simp only [List.drop_succ_cons, List.drop_zero]
  replace hs := hs0.since hs
  clear hs0
  clear hch0 hp0 hc5
  have hld := (hs.chained (.tail .head) hl).1
  go_wp2_with (first
    | ((with_reducible refine wpg_load (o := ⟨some 31, _, _, _, _, _⟩) ?a31 27 _ rfl (.pointer (some ⟨g2, 0, none⟩)) (.agg (ints .u8 h)) rfl (load_digest hld hl) ?_); (case a31 => rfl))
    | ((with_reducible refine wpl_allocRow (o := ⟨some 7, _, _, _, _, _⟩) hs rfl 27 rfl _ (zero27 _) ?_); clear hs hld; intro g7 w5 hs)
    | ((with_reducible refine wpl_storeRow (o := ⟨none, _, _, _, _, _⟩) hs rfl 27 _ _ rfl g7 (ints .u8 h) rfl rfl 27 (ints .u8 (List.replicate 32 0)) .head row27 (sizeI hl) (sizeI List.length_replicate) (ints_oneCell _ _) ?_); clear hs; intro w6 hs; rw [show ints .u8 h = ints .u8 HK by rw [HHK.out, H0K.out]; rfl] at hs))
  refine reg_K 6 (Since0 w6.drew) (by kernel_rfl) (by kernel_rfl) ?_
  replace hs := hs.drew
  have hs0 := hs
  replace hs := St.nil w6.drew
  have hch0 := hs0.chained (.tail (.tail .head)) hl
  have hp0 := hp.st hs0
  refine K_take (i := 0) (oi := ⟨some 43, _, _, _, _, _⟩) rfl (by decide) (by kernel_rfl) (by kernel_rfl) (fun _ _ _ h => h) (v := .agg (ints .u8 HK)) (yields_row (by rfl) 27 _ rfl g7 rfl 27 _ (fun _ hS => Since0.row hS (hs0.row .head)) row27 (sizeI hkl)) hs.below ?_
  simp only [Act.put, List.setIfInBounds_toArray, List.set_cons_zero, List.set_cons_succ]
  refine K_take (i := 1) (oi := ⟨some 44, _, _, _, _, _⟩) rfl (by decide) (by kernel_rfl) (by kernel_rfl) (fun _ _ _ h => h) (v := .pointer (some ⟨g2, 32, none⟩)) (Or.inl ⟨by rfl, fun w' _ => by go_simp⟩) hs.below ?_
  simp only [Act.put, List.setIfInBounds_toArray, List.set_cons_zero, List.set_cons_succ]
  refine K_take (i := 2) (oi := ⟨some 45, _, _, _, _, _⟩) rfl (by decide) (by kernel_rfl) (by kernel_rfl) (fun _ _ _ h => h) (v := .slice B m cb) (Or.inl ⟨by rfl, fun w' hS => by have hc' := Since0.at hS hch0.2; go_simp⟩) hs.below ?_
  simp only [Act.put, List.setIfInBounds_toArray, List.set_cons_zero, List.set_cons_succ]
  refine K_take (i := 3) (oi := ⟨some 46, _, _, _, _, _⟩) rfl (by decide) (by kernel_rfl) (by kernel_rfl) (fun _ _ _ h => h) (v := .int .i64 kk) (Or.inl ⟨by rfl, fun w' _ => by go_simp⟩) hs.below ?_
  simp only [Act.put, List.setIfInBounds_toArray, List.set_cons_zero, List.set_cons_succ]
  refine K_take (i := 4) (oi := ⟨some 47, _, _, _, _, _⟩) rfl (by decide) (by kernel_rfl) (by kernel_rfl) (fun _ _ _ h => h) (v := .slice (fromA B cb kk) (m - kk) (cb - kk)) (yields_slice (by rfl) 23 _ _ _ _ rfl HFR.out) hs.below ?_
  simp only [Act.put, List.setIfInBounds_toArray, List.set_cons_zero, List.set_cons_succ]
  refine K_one (i := 5) (by kernel_rfl) (by decide) ?_
  refine K_op (o := ⟨_, _, _, _, _, _⟩) rfl ?_
  intro KK hKK
  go_wp2_with (go_at_call 24; refine (HCB.out _ ((hp0.st hs).from_ hkm hmc)).mono ?_; rintro e w24 ⟨A8, c8, rfl, ho8, hb24⟩; replace hs := hs.push hb24 ho8; clear hb24 ho8)
  refine kpost (hKK.out _ _ ⟨hs.below, ?_⟩)
  clear hKK KK
  refine K_done (by kernel_rfl) ?_
  simp only [List.drop_succ_cons, List.drop_zero]
  replace hs := hs0.since hs
  clear hs0
  clear hch0 hp0
  have hld := (hs.chained (.tail (.tail (.tail .head))) hl)
  have hc5 := hld.2
  go_wp2_with (first
    | ((with_reducible refine wpg_load (o := ⟨some 50, _, _, _, _, _⟩) ?a50 27 _ rfl (.pointer (some ⟨g2, 0, none⟩)) (.agg (ints .u8 h)) rfl (load_digest hld.1 hl) ?_); (case a50 => rfl))
    | (go_at_call 24; refine (HCL.out _ (hp.st hs)).mono ?_; rintro e w9 ⟨A9, c9, rfl, ho9, hb9⟩; replace hs := hs.push hb9 ho9; clear hb9 ho9 hld hc5; have hld2 := (hs.chained (.tail (.tail (.tail (.tail .head)))) hl); have hc6 := hld2.2)
    | ((with_reducible refine wpg_load (o := ⟨some 71, _, _, _, _, _⟩) ?a71 27 _ rfl (.pointer (some ⟨g2, 0, none⟩)) (.agg (ints .u8 h)) rfl (load_digest hld2.1 hl) ?_); (case a71 => rfl))
    | ((with_reducible refine wpl_storeRow (o := ⟨none, _, _, _, _, _⟩) hs rfl 27 _ _ rfl g7 (ints .u8 h) rfl rfl 27 (ints .u8 HK) (.tail (.tail .head)) row27 (sizeI hl) (sizeI hkl) (ints_oneCell _ _) ?_); clear hs; intro w10 hs))
  clear hc6 hld2
  go_loopw [10] (fun t wr => ∃ i : Nat, i ≤ m ∧ t = .int .i64 i ∧ St w wr [rowR A9 m c9 27 32 (cellsI .u8 CL.flatten), rowR A8 (m - kk) c8 27 32 (cellsI .u8 CB.flatten), .blk g7 27 (ints .u8 (linkAt h ps i)), rowR A6 kk c6 27 32 (cellsI .u8 CA.flatten), .blk g2 39 (chainedC h B m cb)]) (fun t _ => m - (intOf t).toNat)
  case atStart => exact ⟨0, by omega, rfl, hs⟩
  case round =>
    clear hs
    obtain ⟨i, hi, rfl, hs⟩ := hrel
    by_cases hlt : i < m
    · have d3 : decide ((i : Int) < (m : Int)) = true := by simp; omega
      have i3 : (i : Int) < (m : Int) := by omega
      obtain ⟨g9, rfl, _⟩ := own_some (hs.has_own .head) (by omega)
      obtain ⟨X, hX⟩ : ∃ X, X = linkAt h ps (i + 1) := ⟨_, rfl⟩
      have xl : X.length = 32 := by rw [hX]; exact link_len HL0.out ps (i + 1)
      have xb : ∀ x ∈ X, x < 256 := by rw [hX]; exact HX.out (i + 1)
      obtain ⟨D, hD⟩ : ∃ D, D = linkAt h ps i := ⟨_, rfl⟩
      have dl : D.length = 32 := by rw [hD]; exact link_len HL0.out ps i
      have db : ∀ x ∈ D, x < 256 := by rw [hD]; exact HX.out i
      obtain ⟨l, hll⟩ : ∃ l, ps[i]? = some l := ⟨_, List.getElem?_eq_getElem (by have := HPL.out; omega)⟩
      have hmem := List.mem_of_getElem? hll
      have hXD : X = hash (D ++ l) := by rw [hX, hD]; exact link_succ h hll
      have hq0 : l.length ≤ 3000 := by have := flat_part hmem; have := HFL.out; omega
      have hlb : ∀ x ∈ l, x < 256 := fun x hx => HPB.out x (List.mem_flatten.2 ⟨l, hmem, hx⟩)
      have HS : Hid (∀ (A : Option Addr) (c : Nat) (w : World), RdP w A 1 [l] → Calls Try.prog 27 #[.agg (ints .u8 D), .slice A 1 c] w fun e w' => e = .returned (.agg (ints .u8 X)) ∧ Below w.heap.size w w') :=
        Lib.hid fun A c w hp => by
          have hf : [l].flatten = l := by simp
          have := step_any D dl db [l] (by rw [hf]; exact hlb) (by rw [hf]; omega) A 1 c (by omega) w hp
          rwa [hf, ← hXD] at this
      obtain ⟨ad, B2, c2, hA, hc, hr⟩ := hp.2 i l hll
      subst hA
      have rg9 := digest_at (Rd.of_own (hs.has_own .head)) UL.out (HgL.out i hlt)
      rw [← hX] at rg9
      rw [← hD] at hs
      have hne : ∀ w, (binOp .neq 27 (.agg (ints .u8 X)) (.agg (ints .u8 X))).run Try.prog w = .ok (.bool false) w := fun w => by
        rw [run_ne27 w xl xl xb xb]; simp
      have g27 : ∀ (op : BinOp) (x y : Operand) (xs ys : Array Value) (w : World), (eqGuard op 27 x y (.agg xs) (.agg ys)).run Try.prog w = .ok () w := guard27
      obtain ⟨q, hq⟩ : ∃ q, q = l.length := ⟨_, rfl⟩
      rw [← hq] at hc hr
      have HXX := Lib.hid hX
      have tk : ((i : Int)).toNat = i := by omega
      have e0 : 0 ≤ (i : Int) := by omega
      have k32 : i * 32 = 32 * i := Nat.mul_comm _ _
      clear hX hD hXD hll hmem hlb hq hq0 xb db
      have hcw := (hs.below.cell (block_lt_of_cell hc)).trans hc
      have hch := (hs.chained (.tail (.tail (.tail (.tail .head)))) HL0.out)
      have hrow7 := hs.row (.tail (.tail .head))
      by_cases hik : i < kk
      · have d4 : decide ((i : Int) < (kk : Int)) = true := by simp; omega
        have d5 : decide ((kk : Int) ≤ (i : Int)) = false := by simp; omega
        have i4 : (i : Int) < (kk : Int) := by omega
        have := H0K.out
        omega
      · have d4 : decide ((i : Int) < (kk : Int)) = false := by simp; omega
        have d5 : decide ((kk : Int) ≤ (i : Int)) = true := by simp; omega
        have i4 : (kk : Int) ≤ (i : Int) := by omega
        obtain ⟨g8, rfl, _⟩ := own_some (hs.has_own (.tail .head)) (by omega)
        have rg8 := digest_at (Rd.of_own (hs.has_own (.tail .head))) UB.out (HgB.out i (by omega) hlt)
        rw [← HXX.out] at rg8
        have s1 : ((i : Int) - (kk : Int)).toNat = i - kk := by omega
        have s2 : 0 ≤ (i : Int) - (kk : Int) := by omega
        have s3 : (i : Int) - (kk : Int) < (m : Int) - (kk : Int) := by omega
        have s4 : (i - kk) * 32 = 32 * (i - kk) := Nat.mul_comm _ _
        have s5 : IntKind.i64.wrap ((i : Int) - (kk : Int)) = (i : Int) - (kk : Int) := by rw [IntKind.wrap_i64]; omega
        go_wp2_with fail
        refine reg_K 46 (Since0 wr.drew) (by kernel_rfl) (by kernel_rfl) ?_
        replace hs := hs.drew
        have hs0 := hs
        replace hs := St.nil wr.drew
        have rg9' := Since0.range ((Below.refl _ _).drew : Since0 wr wr.drew) rg9
        have rg8' := Since0.range ((Below.refl _ _).drew : Since0 wr wr.drew) rg8
        have hcw' := Since0.at ((Below.refl _ _).drew : Since0 wr wr.drew) hcw
        have hch' : wr.drew.rangeAt g2 0 (cellsI .u8 h) ∧ wr.drew.cell? ⟨g2, 32, none⟩ = some (.slice (some ad) m cb) := ⟨Since0.range ((Below.refl _ _).drew : Since0 wr wr.drew) hch.1, Since0.at ((Below.refl _ _).drew : Since0 wr wr.drew) hch.2⟩
        have hrow7' := Since0.row ((Below.refl _ _).drew : Since0 wr wr.drew) hrow7
        clear rg9 rg8 hcw hch hrow7
        refine K_take (i := 0) (oi := ⟨some 78, _, _, _, _, _⟩) rfl (by decide) (by kernel_rfl) (by kernel_rfl) (fun _ _ _ h => h) (v := .int .i64 i) (Or.inl ⟨by rfl, fun w' _ => by go_simp⟩) hs.below ?_
        simp only [Act.put, List.setIfInBounds_toArray, List.set_cons_zero, List.set_cons_succ]
        refine K_take (i := 1) (oi := ⟨some 79, _, _, _, _, _⟩) rfl (by decide) (by kernel_rfl) (by kernel_rfl) (fun _ _ _ h => h) (v := .int .i64 kk) (Or.inl ⟨by rfl, fun w' _ => by go_simp⟩) hs.below ?_
        simp only [Act.put, List.setIfInBounds_toArray, List.set_cons_zero, List.set_cons_succ]
        refine K_take (i := 2) (oi := ⟨some 80, _, _, _, _, _⟩) rfl (by decide) (by kernel_rfl) (by kernel_rfl) (fun _ _ _ h => h) (v := .bool false) (Or.inl ⟨by rfl, fun w' _ => by go_simp⟩) hs.below ?_
        simp only [Act.put, List.setIfInBounds_toArray, List.set_cons_zero, List.set_cons_succ]
        refine K_take (i := 3) (oi := ⟨some 81, _, _, _, _, _⟩) rfl (by decide) (by kernel_rfl) (by kernel_rfl) (fun _ _ _ h => h) (v := .bool false) (Or.inl ⟨by rfl, fun w' _ => by go_simp⟩) hs.below ?_
        simp only [Act.put, List.setIfInBounds_toArray, List.set_cons_zero, List.set_cons_succ]
        refine K_take (i := 4) (oi := ⟨some 82, _, _, _, _, _⟩) rfl (by decide) (by kernel_rfl) (by kernel_rfl) (fun _ _ _ h => h) (v := undef) (Or.inr ⟨by rfl, rfl⟩) hs.below ?_
        simp only [Act.put, List.setIfInBounds_toArray, List.set_cons_zero, List.set_cons_succ]
        refine K_take (i := 5) (oi := ⟨some 83, _, _, _, _, _⟩) rfl (by decide) (by kernel_rfl) (by kernel_rfl) (fun _ _ _ h => h) (v := undef) (Or.inr ⟨by rfl, rfl⟩) hs.below ?_
        simp only [Act.put, List.setIfInBounds_toArray, List.set_cons_zero, List.set_cons_succ]
        refine K_take (i := 6) (oi := ⟨some 84, _, _, _, _, _⟩) rfl (by decide) (by kernel_rfl) (by kernel_rfl) (fun _ _ _ h => h) (v := undef) (Or.inr ⟨by rfl, rfl⟩) hs.below ?_
        simp only [Act.put, List.setIfInBounds_toArray, List.set_cons_zero, List.set_cons_succ]
        refine K_take (i := 7) (oi := ⟨some 85, _, _, _, _, _⟩) rfl (by decide) (by kernel_rfl) (by kernel_rfl) (fun _ _ _ h => h) (v := undef) (Or.inr ⟨by rfl, rfl⟩) hs.below ?_
        simp only [Act.put, List.setIfInBounds_toArray, List.set_cons_zero, List.set_cons_succ]
        refine K_take (i := 8) (oi := ⟨some 86, _, _, _, _, _⟩) rfl (by decide) (by kernel_rfl) (by kernel_rfl) (fun _ _ _ h => h) (v := undef) (Or.inr ⟨by rfl, rfl⟩) hs.below ?_
        simp only [Act.put, List.setIfInBounds_toArray, List.set_cons_zero, List.set_cons_succ]
        refine K_take (i := 9) (oi := ⟨some 87, _, _, _, _, _⟩) rfl (by decide) (by kernel_rfl) (by kernel_rfl) (fun _ _ _ h => h) (v := undef) (Or.inr ⟨by rfl, rfl⟩) hs.below ?_
        simp only [Act.put, List.setIfInBounds_toArray, List.set_cons_zero, List.set_cons_succ]
        refine K_take (i := 10) (oi := ⟨some 88, _, _, _, _, _⟩) rfl (by decide) (by kernel_rfl) (by kernel_rfl) (fun _ _ _ h => h) (v := undef) (Or.inr ⟨by rfl, rfl⟩) hs.below ?_
        simp only [Act.put, List.setIfInBounds_toArray, List.set_cons_zero, List.set_cons_succ]
        refine K_take (i := 11) (oi := ⟨some 89, _, _, _, _, _⟩) rfl (by decide) (by kernel_rfl) (by kernel_rfl) (fun _ _ _ h => h) (v := undef) (Or.inr ⟨by rfl, rfl⟩) hs.below ?_
        simp only [Act.put, List.setIfInBounds_toArray, List.set_cons_zero, List.set_cons_succ]
        refine K_take (i := 12) (oi := ⟨some 90, _, _, _, _, _⟩) rfl (by decide) (by kernel_rfl) (by kernel_rfl) (fun _ _ _ h => h) (v := undef) (Or.inr ⟨by rfl, rfl⟩) hs.below ?_
        simp only [Act.put, List.setIfInBounds_toArray, List.set_cons_zero, List.set_cons_succ]
        refine K_take (i := 13) (oi := ⟨some 91, _, _, _, _, _⟩) rfl (by decide) (by kernel_rfl) (by kernel_rfl) (fun _ _ _ h => h) (v := .bool false) (Or.inl ⟨by rfl, fun w' _ => by go_simp⟩) hs.below ?_
        simp only [Act.put, List.setIfInBounds_toArray, List.set_cons_zero, List.set_cons_succ]
        refine K_take (i := 14) (oi := ⟨some 92, _, _, _, _, _⟩) rfl (by decide) (by kernel_rfl) (by kernel_rfl) (fun _ _ _ h => h) (v := .bool false) (Or.inl ⟨by rfl, fun w' _ => by go_simp⟩) hs.below ?_
        simp only [Act.put, List.setIfInBounds_toArray, List.set_cons_zero, List.set_cons_succ]
        refine K_take (i := 15) (oi := ⟨some 93, _, _, _, _, _⟩) rfl (by decide) (by kernel_rfl) (by kernel_rfl) (fun _ _ _ h => h) (v := .int .i64 i) (Or.inl ⟨by rfl, fun w' _ => by go_simp⟩) hs.below ?_
        simp only [Act.put, List.setIfInBounds_toArray, List.set_cons_zero, List.set_cons_succ]
        refine K_take (i := 16) (oi := ⟨some 94, _, _, _, _, _⟩) rfl (by decide) (by kernel_rfl) (by kernel_rfl) (fun _ _ _ h => h) (v := .int .i64 kk) (Or.inl ⟨by rfl, fun w' _ => by go_simp⟩) hs.below ?_
        simp only [Act.put, List.setIfInBounds_toArray, List.set_cons_zero, List.set_cons_succ]
        refine K_take (i := 17) (oi := ⟨some 95, _, _, _, _, _⟩) rfl (by decide) (by kernel_rfl) (by kernel_rfl) (fun _ _ _ h => h) (v := .bool true) (Or.inl ⟨by rfl, fun w' _ => by go_simp⟩) hs.below ?_
        simp only [Act.put, List.setIfInBounds_toArray, List.set_cons_zero, List.set_cons_succ]
        refine K_take (i := 18) (oi := ⟨some 96, _, _, _, _, _⟩) rfl (by decide) (by kernel_rfl) (by kernel_rfl) (fun _ _ _ h => h) (v := .bool true) (Or.inl ⟨by rfl, fun w' _ => by go_simp⟩) hs.below ?_
        simp only [Act.put, List.setIfInBounds_toArray, List.set_cons_zero, List.set_cons_succ]
        refine K_take (i := 19) (oi := ⟨some 97, _, _, _, _, _⟩) rfl (by decide) (by kernel_rfl) (by kernel_rfl) (fun _ _ _ h => h) (v := .slice (some ⟨g9, 0, none⟩) m c9) (Or.inl ⟨by rfl, fun w' _ => by go_simp⟩) hs.below ?_
        simp only [Act.put, List.setIfInBounds_toArray, List.set_cons_zero, List.set_cons_succ]
        refine K_take (i := 20) (oi := ⟨some 98, _, _, _, _, _⟩) rfl (by decide) (by kernel_rfl) (by kernel_rfl) (fun _ _ _ h => h) (v := .int .i64 i) (Or.inl ⟨by rfl, fun w' _ => by go_simp⟩) hs.below ?_
        simp only [Act.put, List.setIfInBounds_toArray, List.set_cons_zero, List.set_cons_succ]
        refine K_take (i := 21) (oi := ⟨some 99, _, _, _, _, _⟩) rfl (by decide) (by kernel_rfl) (by kernel_rfl) (fun _ _ _ h => h) (v := .pointer (some ⟨g9, 32 * i, none⟩)) (Or.inl ⟨by rfl, fun w' _ => by go_simp⟩) hs.below ?_
        simp only [Act.put, List.setIfInBounds_toArray, List.set_cons_zero, List.set_cons_succ]
        refine K_take (i := 22) (oi := ⟨some 100, _, _, _, _, _⟩) rfl (by decide) (by kernel_rfl) (by kernel_rfl) (fun _ _ _ h => h) (v := .agg (ints .u8 X)) (yields_load (by rfl) 27 _ rfl _ rfl (fun w' hS => load_digest (Since0.range hS rg9') xl)) hs.below ?_
        simp only [Act.put, List.setIfInBounds_toArray, List.set_cons_zero, List.set_cons_succ]
        refine K_take (i := 23) (oi := ⟨some 101, _, _, _, _, _⟩) rfl (by decide) (by kernel_rfl) (by kernel_rfl) (fun _ _ _ h => h) (v := .slice (some ⟨g8, 0, none⟩) (m - kk) c8) (Or.inl ⟨by rfl, fun w' _ => by go_simp⟩) hs.below ?_
        simp only [Act.put, List.setIfInBounds_toArray, List.set_cons_zero, List.set_cons_succ]
        refine K_take (i := 24) (oi := ⟨some 102, _, _, _, _, _⟩) rfl (by decide) (by kernel_rfl) (by kernel_rfl) (fun _ _ _ h => h) (v := .int .i64 i) (Or.inl ⟨by rfl, fun w' _ => by go_simp⟩) hs.below ?_
        simp only [Act.put, List.setIfInBounds_toArray, List.set_cons_zero, List.set_cons_succ]
        refine K_take (i := 25) (oi := ⟨some 103, _, _, _, _, _⟩) rfl (by decide) (by kernel_rfl) (by kernel_rfl) (fun _ _ _ h => h) (v := .int .i64 kk) (Or.inl ⟨by rfl, fun w' _ => by go_simp⟩) hs.below ?_
        simp only [Act.put, List.setIfInBounds_toArray, List.set_cons_zero, List.set_cons_succ]
        refine K_take (i := 26) (oi := ⟨some 104, _, _, _, _, _⟩) rfl (by decide) (by kernel_rfl) (by kernel_rfl) (fun _ _ _ h => h) (v := .int .i64 ((i : Int) - (kk : Int))) (Or.inl ⟨by rfl, fun w' _ => by go_simp⟩) hs.below ?_
        simp only [Act.put, List.setIfInBounds_toArray, List.set_cons_zero, List.set_cons_succ]
        refine K_take (i := 27) (oi := ⟨some 105, _, _, _, _, _⟩) rfl (by decide) (by kernel_rfl) (by kernel_rfl) (fun _ _ _ h => h) (v := .pointer (some ⟨g8, 32 * (i - kk), none⟩)) (Or.inl ⟨by rfl, fun w' _ => by go_simp⟩) hs.below ?_
        simp only [Act.put, List.setIfInBounds_toArray, List.set_cons_zero, List.set_cons_succ]
        refine K_take (i := 28) (oi := ⟨some 106, _, _, _, _, _⟩) rfl (by decide) (by kernel_rfl) (by kernel_rfl) (fun _ _ _ h => h) (v := .agg (ints .u8 X)) (yields_load (by rfl) 27 _ rfl _ rfl (fun w' hS => load_digest (Since0.range hS rg8') xl)) hs.below ?_
        simp only [Act.put, List.setIfInBounds_toArray, List.set_cons_zero, List.set_cons_succ]
        refine K_take (i := 29) (oi := ⟨some 107, _, _, _, _, _⟩) rfl (by decide) (by kernel_rfl) (by kernel_rfl) (fun _ _ _ h => h) (v := .bool false) (Or.inl ⟨by rfl, fun w' _ => by go_simp⟩) hs.below ?_
        simp only [Act.put, List.setIfInBounds_toArray, List.set_cons_zero, List.set_cons_succ]
        refine K_take (i := 30) (oi := ⟨some 108, _, _, _, _, _⟩) rfl (by decide) (by kernel_rfl) (by kernel_rfl) (fun _ _ _ h => h) (v := .bool false) (Or.inl ⟨by rfl, fun w' _ => by go_simp⟩) hs.below ?_
        simp only [Act.put, List.setIfInBounds_toArray, List.set_cons_zero, List.set_cons_succ]
        refine K_take (i := 31) (oi := ⟨some 109, _, _, _, _, _⟩) rfl (by decide) (by kernel_rfl) (by kernel_rfl) (fun _ _ _ h => h) (v := .bool false) (Or.inl ⟨by rfl, fun w' _ => by go_simp⟩) hs.below ?_
        simp only [Act.put, List.setIfInBounds_toArray, List.set_cons_zero, List.set_cons_succ]
        refine K_take (i := 32) (oi := ⟨some 110, _, _, _, _, _⟩) rfl (by decide) (by kernel_rfl) (by kernel_rfl) (fun _ _ _ h => h) (v := .bool false) (Or.inl ⟨by rfl, fun w' _ => by go_simp⟩) hs.below ?_
        simp only [Act.put, List.setIfInBounds_toArray, List.set_cons_zero, List.set_cons_succ]
        refine K_take (i := 33) (oi := ⟨some 111, _, _, _, _, _⟩) rfl (by decide) (by kernel_rfl) (by kernel_rfl) (fun _ _ _ h => h) (v := .slice (some ⟨g9, 0, none⟩) m c9) (Or.inl ⟨by rfl, fun w' _ => by go_simp⟩) hs.below ?_
        simp only [Act.put, List.setIfInBounds_toArray, List.set_cons_zero, List.set_cons_succ]
        refine K_take (i := 34) (oi := ⟨some 112, _, _, _, _, _⟩) rfl (by decide) (by kernel_rfl) (by kernel_rfl) (fun _ _ _ h => h) (v := .int .i64 i) (Or.inl ⟨by rfl, fun w' _ => by go_simp⟩) hs.below ?_
        simp only [Act.put, List.setIfInBounds_toArray, List.set_cons_zero, List.set_cons_succ]
        refine K_take (i := 35) (oi := ⟨some 113, _, _, _, _, _⟩) rfl (by decide) (by kernel_rfl) (by kernel_rfl) (fun _ _ _ h => h) (v := .pointer (some ⟨g9, 32 * i, none⟩)) (Or.inl ⟨by rfl, fun w' _ => by go_simp⟩) hs.below ?_
        simp only [Act.put, List.setIfInBounds_toArray, List.set_cons_zero, List.set_cons_succ]
        refine K_take (i := 36) (oi := ⟨some 114, _, _, _, _, _⟩) rfl (by decide) (by kernel_rfl) (by kernel_rfl) (fun _ _ _ h => h) (v := .agg (ints .u8 X)) (yields_load (by rfl) 27 _ rfl _ rfl (fun w' hS => load_digest (Since0.range hS rg9') xl)) hs.below ?_
        simp only [Act.put, List.setIfInBounds_toArray, List.set_cons_zero, List.set_cons_succ]
        refine K_take (i := 37) (oi := ⟨some 115, _, _, _, _, _⟩) rfl (by decide) (by kernel_rfl) (by kernel_rfl) (fun _ _ _ h => h) (v := .agg (ints .u8 D)) (yields_row (by rfl) 27 _ rfl g7 rfl 27 _ (fun _ hS => Since0.row hS hrow7') row27 (sizeI dl)) hs.below ?_
        simp only [Act.put, List.setIfInBounds_toArray, List.set_cons_zero, List.set_cons_succ]
        refine K_take (i := 38) (oi := ⟨some 116, _, _, _, _, _⟩) rfl (by decide) (by kernel_rfl) (by kernel_rfl) (fun _ _ _ h => h) (v := .pointer (some ⟨g2, 32, none⟩)) (Or.inl ⟨by rfl, fun w' _ => by go_simp⟩) hs.below ?_
        simp only [Act.put, List.setIfInBounds_toArray, List.set_cons_zero, List.set_cons_succ]
        refine K_take (i := 39) (oi := ⟨some 117, _, _, _, _, _⟩) rfl (by decide) (by kernel_rfl) (by kernel_rfl) (fun _ _ _ h => h) (v := .slice (some ad) m cb) (Or.inl ⟨by rfl, fun w' hS => by have hc' := Since0.at hS hch'.2; go_simp⟩) hs.below ?_
        simp only [Act.put, List.setIfInBounds_toArray, List.set_cons_zero, List.set_cons_succ]
        refine K_take (i := 40) (oi := ⟨some 118, _, _, _, _, _⟩) rfl (by decide) (by kernel_rfl) (by kernel_rfl) (fun _ _ _ h => h) (v := .int .i64 i) (Or.inl ⟨by rfl, fun w' _ => by go_simp⟩) hs.below ?_
        simp only [Act.put, List.setIfInBounds_toArray, List.set_cons_zero, List.set_cons_succ]
        refine K_take (i := 41) (oi := ⟨some 119, _, _, _, _, _⟩) rfl (by decide) (by kernel_rfl) (by kernel_rfl) (fun _ _ _ h => h) (v := .pointer (some (ad.add i))) (Or.inl ⟨by rfl, fun w' _ => by go_simp⟩) hs.below ?_
        simp only [Act.put, List.setIfInBounds_toArray, List.set_cons_zero, List.set_cons_succ]
        refine K_take (i := 42) (oi := ⟨some 120, _, _, _, _, _⟩) rfl (by decide) (by kernel_rfl) (by kernel_rfl) (fun _ _ _ h => h) (v := .slice B2 q c2) (Or.inl ⟨by rfl, fun w' hS => by have hc' := Since0.at hS hcw'; go_simp⟩) hs.below ?_
        simp only [Act.put, List.setIfInBounds_toArray, List.set_cons_zero, List.set_cons_succ]
        refine K_one (i := 43) (by kernel_rfl) (by decide) ?_
        refine K_op (o := ⟨_, _, _, _, _, _⟩) rfl ?_
        intro KK hKK
        refine wpg_slice (o := ⟨_, _, _, _, _, _⟩) hs (by rfl) 23 1 _ rfl 22 ((Value.slice B2 q c2).cells) (fun w => by simp only [List.map_toArray, List.map_cons, List.map_nil]; exact lit1s _ _ _ w) ?_
        clear hs
        intro g121 w12 hs
        go_wp2_with fail
        refine kpost (hKK.out _ _ ⟨hs.below, ?_⟩)
        clear hKK KK
        refine K_one (i := 44) (by kernel_rfl) (by decide) ?_
        refine K_op (o := ⟨_, _, _, _, _, _⟩) rfl ?_
        intro KK hKK
        have hp1 := RdP.of_blk1 hs .head ((hr.st hs0).st hs)
        go_wp2_with (go_at_call 27; refine (HS.out _ _ _ hp1).mono ?_; clear hp1; rintro e w13 ⟨rfl, hb13⟩; replace hs := hs.call hb13; clear hb13)
        refine kpost (hKK.out _ _ ⟨hs.below, ?_⟩)
        clear hKK KK
        refine K_one (i := 45) (by kernel_rfl) (by decide) ?_
        refine K_op (o := ⟨_, _, _, _, _, _⟩) rfl ?_
        intro KK hKK
        go_wp2_with fail
        refine kpost (hKK.out _ _ ⟨hs.below, ?_⟩)
        clear hKK KK
        refine K_done (by kernel_rfl) ?_
        simp only [List.drop_succ_cons, List.drop_zero]
        replace hs := hs0.since hs
        clear hs0
        have rgz := digest_at (Rd.of_own (hs.has_own (.tail .head))) UL.out (HgL.out i hlt)
        rw [← HXX.out] at rgz
        go_wp2_with (first
          | ((with_reducible refine wpg_load (o := ⟨some 128, _, _, _, _, _⟩) ?a128 27 _ rfl (.pointer (some ⟨g9, 32 * i, none⟩)) (.agg (ints .u8 X)) rfl (load_digest rgz xl) ?_); (case a128 => rfl))
          | ((with_reducible refine wpl_storeRow (o := ⟨none, _, _, _, _, _⟩) hs rfl 27 _ _ rfl g7 (ints .u8 X) rfl rfl 27 (ints .u8 D) (.tail (.tail (.tail .head))) row27 (sizeI xl) (sizeI dl) (ints_oneCell _ _) ?_); clear hs; intro w14 hs))
        rw [HXX.out] at hs
        have HSS := Lib.hid hs.pop
        clear hs
        go_roundw
        case rel => exact ⟨i + 1, by omega, by go_num, HSS.out⟩
        case measure => simp [intOf]; omega
    · have d3 : decide ((i : Int) < (m : Int)) = false := by simp; omega
      have i3 : (m : Int) ≤ (i : Int) := by omega
      go_wp2_with (go_at_call 23; refine (wakes03_any _).mono ?_; rintro e w15 ⟨rfl, hb15⟩; replace hs := hs.call hb15; clear hb15)
      go_ret
      exact ⟨rfl, hs.below⟩
end Go.Proofs.Ytleabipplchbpaa
