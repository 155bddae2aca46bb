/-
  Walks over what the statements themselves use: Fair, Copy.
-/
import Derived.Test.YtleabipplchbpaaDrawn
namespace Go.Proofs.Ytleabipplchbpaa
open Go.RowKit
set_option maxRecDepth 100000
/-! ### Fair -/
def fairSum (ps : List (List Nat)) (k : Nat) : Nat := ((ps.take k).map fun l => min l.length 3001).sum
def fairB (ps : List (List Nat)) : Bool := decide (fairSum ps ps.length ≤ 3000) && decide (ps.length ≤ 60)
theorem fairSum_succ {ps : List (List Nat)} {k : Nat} {l : List Nat} (h : ps[k]? = some l) : fairSum ps (k + 1) = fairSum ps k + min l.length 3001 := by
  rw [fairSum, List.take_add_one, h]; simp [fairSum]
theorem fairSum_le (ps : List (List Nat)) (k : Nat) : fairSum ps k ≤ fairSum ps ps.length := by
  unfold fairSum
  rw [List.take_length]
  conv => rhs; rw [← List.take_append_drop k ps]
  rw [List.map_append, List.sum_append]
  omega
theorem sum_flat : ∀ ps : List (List Nat), (ps.map fun l => min l.length 3001).sum ≤ 3000 → ps.flatten.length ≤ (ps.map fun l => min l.length 3001).sum
  | [], _ => by simp
  | l :: ps, h => by
    simp only [List.map_cons, List.sum_cons] at h
    have := sum_flat ps (by omega)
    simp only [List.flatten_cons, List.length_append, List.map_cons, List.sum_cons]
    omega
theorem fair_len {ps : List (List Nat)} (h : fairB ps = true) : ps.flatten.length ≤ 3000 ∧ ps.length ≤ 60 := by
  simp only [fairB, Bool.and_eq_true, decide_eq_true_eq] at h
  obtain ⟨h1, h2⟩ := h
  unfold fairSum at h1
  rw [List.take_length] at h1
  exact ⟨Nat.le_trans (sum_flat ps h1) h1, h2⟩
theorem fair_over {ps : List (List Nat)} {k : Nat} (h : 3000 < fairSum ps k) : fairB ps = false := by
  have := fairSum_le ps k
  simp only [fairB, Bool.and_eq_false_iff, decide_eq_false_iff_not]
  left; omega
theorem fair_end {ps : List (List Nat)} {k : Nat} (hk : ps.length ≤ k) (h : fairSum ps k ≤ 3000) : fairB ps = decide ((ps.length : Int) ≤ 60) := by
  have e : fairSum ps k = fairSum ps ps.length := by unfold fairSum; rw [List.take_of_length_le hk, List.take_length]
  rw [e] at h
  simp only [fairB, decide_eq_true h, Bool.true_and]
  exact decide_eq_decide.2 (by omega)
set_option maxHeartbeats 1000000 in
theorem fair_any (ps : List (List Nat)) (B : Option Addr) (m cb : Nat) (hm : m ≤ 9223372036854775807) (w : World) (hp : RdP w B m ps) :
    Calls Try.prog 14 #[.slice B m cb] w fun e w' => e = .returned (.bool (fairB ps)) ∧ w = w' := by
  have HP := Lib.hid hp.1
  go_enter Try.func14, Try.ntmps14
  go_wp2_with fail
  go_loop [3, 4] (fun n i => ∃ k F : Nat, k ≤ m ∧ i = .int .i64 k ∧ F ≤ 3000 ∧ F = fairSum ps k ∧ n = .int .i64 F) (fun _ i => m - (intOf i).toNat)
  case atStart => exact ⟨0, 0, Nat.zero_le _, rfl, by omega, rfl, rfl⟩
  case round =>
    obtain ⟨k, F, hk, rfl, hF3, hF, rfl⟩ := hrel
    have HF := Lib.hid hF
    clear hF
    by_cases hlt : k < m
    · have d1 : decide ((k : Int) < (m : Int)) = true := by simp; omega
      have i1 : (k : Int) < (m : Int) := by omega
      obtain ⟨l, hl⟩ : ∃ l, ps[k]? = some l := ⟨_, List.getElem?_eq_getElem (by have := HP.out; omega)⟩
      obtain ⟨ad, B2, c2, hA, hc, hr⟩ := hp.2 k l hl
      subst hA
      have hs := fairSum_succ hl
      obtain ⟨q, hq⟩ : ∃ q, q = l.length := ⟨_, rfl⟩
      rw [← hq, ← HF.out] at hs
      rw [← hq] at hc
      have HS := Lib.hid hs
      clear hs hq hl hr
      by_cases h3 : 3001 < q
      · have d2 : decide ((3001 : Int) < (q : Int)) = true := by simp; omega
        have i2 : (3001 : Int) < (q : Int) := by omega
        have d3 : decide ((3000 : Int) < (F : Int) + 3001) = true := by simp; omega
        have i3 : (3000 : Int) < (F : Int) + 3001 := by omega
        go_wp2_with fail
        go_ret
        exact ⟨by rw [fair_over (ps := ps) (k := k + 1) (by have := HS.out; omega)]; rfl, rfl⟩
      · have d2 : decide ((3001 : Int) < (q : Int)) = false := by simp; omega
        have i2 : (q : Int) ≤ 3001 := by omega
        by_cases h4 : 3000 < F + q
        · have d3 : decide ((3000 : Int) < (F : Int) + (q : Int)) = true := by simp; omega
          have i3 : (3000 : Int) < (F : Int) + (q : Int) := by omega
          go_wp2_with fail
          go_ret
          exact ⟨by rw [fair_over (ps := ps) (k := k + 1) (by have := HS.out; omega)]; rfl, rfl⟩
        · have d3 : decide ((3000 : Int) < (F : Int) + (q : Int)) = false := by simp; omega
          have i3 : (F : Int) + (q : Int) ≤ 3000 := by omega
          go_wp2_with fail
          go_round
          case rel => exact ⟨k + 1, F + q, by omega, by go_num, by omega, by have := HS.out; omega, by go_num⟩
          case measure => simp [intOf]; omega
    · have d1 : decide ((k : Int) < (m : Int)) = false := by simp; omega
      have i1 : (m : Int) ≤ (k : Int) := by omega
      have HE := Lib.hid (fair_end (ps := ps) (k := k) (by have := HP.out; omega) (by have := HF.out; omega))
      go_wp2_with fail
      go_ret
      exact ⟨by rw [HE.out, HP.out]; rfl, rfl⟩
/-! ### Copy -/
theorem lit0b (w : World) : (Instr.buildSlice 22 0 #[]).run Try.prog w = .ok (.slice (some ⟨w.heap.size, 0, none⟩) 0 0) (w.alloc (.cells #[] 5)) := by
  simp [go_sem, Instr.buildSlice, Instr.fill, newRow]
/-- The values xs are slices of the call's own, each beside the others, that hold what ps says. -/
def ElsOf (xs : List Value) (els : List Res) (ps : List (List Nat)) : Prop :=
  xs.length = ps.length ∧ ∀ (i : Nat) (l : List Nat), ps[i]? = some l → ∃ B c, xs[i]? = some (.slice B l.length c) ∧ numsR B l.length c 5 .u8 l ∈ els
theorem ElsOf.values {w0 w : World} {L els : List Res} {xs : List Value} {ps : List (List Nat)} (h : ElsOf xs els ps) (hs : St w0 w L) (hsub : ∀ r ∈ els, r ∈ L) : RdV w xs ps :=
  ⟨h.1, fun i l hl => by
    obtain ⟨B, c, e, hm⟩ := h.2 i l hl
    have : w.ownsRow w0.heap.size 5 1 (.slice B l.length c) l.length (cellsI .u8 l) := hs.ok _ (hsub _ hm)
    exact ⟨B, c, e, Rd.of_own this⟩⟩
theorem ElsOf.snoc {els : List Res} {xs : List Value} {ps : List (List Nat)} (h : ElsOf xs els ps) (B : Option Addr) (c : Nat) (l : List Nat) : ElsOf (xs ++ [.slice B l.length c]) (numsR B l.length c 5 .u8 l :: els) (ps ++ [l]) := by
  refine ⟨by simp [h.1], fun i l' hl => ?_⟩
  rcases Nat.lt_or_ge i ps.length with hi | hi
  · rw [List.getElem?_append_left hi] at hl
    obtain ⟨B', c', e, hm⟩ := h.2 i l' hl
    exact ⟨B', c', by rw [List.getElem?_append_left (by rw [h.1]; exact hi)]; exact e, List.mem_cons_of_mem _ hm⟩
  · rw [List.getElem?_append_right hi] at hl
    have h0 : i - ps.length = 0 := by
      have := (List.getElem?_eq_some_iff.1 hl).1
      simp at this; omega
    rw [h0] at hl
    have : l' = l := by simpa using hl.symm
    subst this
    exact ⟨B, c, by rw [List.getElem?_append_right (by rw [h.1]; exact hi), h.1, h0]; rfl, List.mem_cons_self ..⟩
theorem take_snocL {ps : List (List Nat)} {k : Nat} {l : List Nat} (h : ps[k]? = some l) : ps.take (k + 1) = ps.take k ++ [l] := by
  rw [List.take_add_one, h]; rfl
set_option maxHeartbeats 1000000 in
theorem copy_any (ps : List (List Nat)) (hpl : ∀ l ∈ ps, l.length ≤ 100000) (B : Option Addr) (m cb : Nat) (hm : m ≤ 100000) (w : World) (hp : RdP w B m ps) :
    Calls Try.prog 17 #[.slice B m cb] w fun e w' => ∃ A' c', e = .returned (.slice A' m c') ∧ RdP w' A' m ps ∧ Below w.heap.size w w' := by
  have HP := Lib.hid hp.1
  go_enter Try.func17, Try.ntmps17
  have hs := St.nil w
  go_wp2_with fail
  replace hs := hs.nilRow 22 1
  go_loopw [3, 4] (fun v t wr => ∃ (k : Nat) (A : Option Addr) (c : Nat) (xs : List Value) (els : List Res), k ≤ m ∧ t = .int .i64 k ∧ v = .slice A k c ∧ ElsOf xs els (ps.take k) ∧ St w wr (rowR A k c 22 1 xs :: els)) (fun _ t _ => m - (intOf t).toNat)
  case atStart => exact ⟨0, none, 0, [], [], by omega, rfl, rfl, ⟨rfl, fun i l h => by simp at h⟩, hs⟩
  case round =>
    clear hs
    obtain ⟨k, A, c, xs, els, hk, rfl, rfl, he, hs⟩ := hrel
    have HE := Lib.hid he
    clear he
    by_cases hlt : k < m
    · have d1 : decide ((k : Int) < (m : Int)) = true := by simp; omega
      have i1 : (k : Int) < (m : Int) := by omega
      obtain ⟨l, hl⟩ : ∃ l, ps[k]? = some l := ⟨_, List.getElem?_eq_getElem (by have := HP.out; omega)⟩
      have hq0 : l.length ≤ 100000 := hpl l (List.mem_of_getElem? hl)
      obtain ⟨ad, B2, c2, hA, hc, hr⟩ := hp.2 k l hl
      subst hA
      have HL := Lib.hid hl
      clear hl
      obtain ⟨q, hq⟩ : ∃ q, q = l.length := ⟨_, rfl⟩
      rw [← hq] at hc hr hq0
      have HQ := Lib.hid hq
      clear hq
      go_wp2_with (first
        | ((with_reducible refine wpl_slice0 (o := ⟨some 12, _, _, _, _, _⟩) hs rfl 22 rfl 5 1 lit0b ?_); clear hs; intro g w2 hs; replace hs : St w w2 (numsR (some ⟨g, 0, none⟩) 0 0 5 .u8 [] :: _) := hs; have hr2 := hr.st hs; have hc2 := (hs.below.cell (block_lt_of_cell hc)).trans hc)
        | ((with_reducible refine wpl_appendI (o := ⟨some 17, _, _, _, _, _⟩) (m := q) hs rfl _ _ 22 rfl rfl rfl (fun _ _ => .head) hr2 Try.underlying22 el5 (by unfold maxLen; omega) (by omega) ?_); clear hs hr2; intro A' c' w3 _ hs; rw [Nat.zero_add, List.nil_append] at hs)
        | ((with_reducible refine wpl_slice1 (o := ⟨some 18, _, _, _, _, _⟩) hs rfl 23 _ rfl 22 (.slice A' (0 + q) c') rfl (lit1s _ _ _) ?_); clear hs; intro g18 w5 hs; have hr1 := Rd.one hs .head; have h1 := one_one A' (0 + q) c')
        | ((with_reducible refine wpl_append (o := ⟨some 19, _, _, _, _, _⟩) (news := [.slice A' (0 + q) c']) hs rfl _ _ 23 rfl rfl rfl (fun _ _ => .tail (.tail .head)) hr1 h1 Try.underlying23 el22 (by unfold maxLen; omega) (by omega) ?_); clear hs hr1; intro A3 c3 w6 _ hs))
      have hs2 := (hs.pop).pick (.tail .head)
      have e0 : 0 + q = l.length := by rw [Nat.zero_add, HQ.out]
      have hq' := HQ.out
      have he := HE.out.snoc A' c' l
      rw [← take_snocL HL.out] at he
      rw [e0] at hs2
      rw [hq'] at hs2
      have HE2 := Lib.hid he
      have HS2 := Lib.hid hs2
      clear hs hs2 he e0 hq'
      go_roundw
      case rel => exact ⟨k + 1, A3, c3, _, _, by omega, by go_num, rfl, HE2.out, HS2.out⟩
      case measure => simp [intOf]; omega
    · have d1 : decide ((k : Int) < (m : Int)) = false := by simp; omega
      obtain rfl : k = m := by omega
      have hv := HE.out.values hs (fun r hr => List.mem_cons_of_mem _ hr)
      rw [List.take_of_length_le (by rw [HP.out]; exact Nat.le_refl _)] at hv
      have hf := hv.parts (Rd.of_own (hs.has_own .head))
      clear hv
      go_wp2_with fail
      go_ret
      exact ⟨A, c, rfl, hf, hs.below⟩
end Go.Proofs.Ytleabipplchbpaa
