/-
  What comes in, opened, part 3: what a chain begins with, and its records.
-/
import Derived.Test.YtleabipplchbpaaPostB
namespace Go.Proofs.Ytleabipplchbpaa
open Go.ChangeShapes Go.WideShapes Go.ChangeAt Go.RowKit
set_option maxRecDepth 100000
theorem cellsOf27 : Try.prog.cellsOf 27 = 32 := by kernel_rfl
theorem cellsOf23 : Try.prog.cellsOf 23 = 1 := by kernel_rfl
theorem cellsOf39 : Try.prog.cellsOf 39 = 33 := by kernel_rfl
section
variable {H : Type} {enc : TypeId × Value → H} {W : World}
theorem trod_parts {fuel : Nat} {cs : List Value} {x : DataW H × List MemPlace} (hf : DataW.trod enc Try.prog W 0 (fun _ => true) true fuel 23 cs = some x) :
    ∃ A n c ls, cs = [.slice A n c] ∧ RdP W A n ls ∧ (∀ x ∈ ls.flatten, x < 256) ∧ n ≤ 9223372036854775807 ∧ n ≤ c := by
  rcases Deep.open_int_rows Try.underlying23 Try.underlying22 Try.underlying5 cellsOf22 cellsOf5 hf with ⟨hcs, _⟩ | ⟨a, n, c, AA, L, C, Z, hcs, _, hl, hm, _, hr⟩
  · exact ⟨none, 0, 0, [], hcs, ⟨rfl, fun i l h => by simp at h⟩, by simp, by omega, by omega⟩
  · unfold maxLen at hm
    refine ⟨some a, n, c, (List.range n).map fun i => nats ((Z i).take (L i)), hcs, ⟨by simp, fun i l hl2 => ?_⟩, ?_, by omega, hl⟩
    · have hi : i < n := by
        have := (List.getElem?_eq_some_iff.1 hl2).1
        simpa using this
      have hl3 : l = nats ((Z i).take (L i)) := by
        rw [List.getElem?_map, List.getElem?_range hi] at hl2
        exact (Option.some.inj hl2).symm
      obtain ⟨h1, h2, h3, h4, h5, h6, h7⟩ := hr i (by omega)
      have hlen : l.length = L i := by rw [hl3, nats, List.length_map, List.length_take]; omega
      refine ⟨a, AA i, C i, rfl, by rw [hlen]; exact h1, ?_⟩
      rw [hlen, hl3]
      cases hA : AA i with
      | none =>
        have h0 : L i = 0 := by have := h6 hA; omega
        rw [h0]
        exact Rd.nil _ _ _
      | some a' => exact rdI_of_cells (by omega) h5 (fun j hj => (h7 a' hA).2 j (by omega))
    · intro x hx
      obtain ⟨l, hl2, hx⟩ := List.mem_flatten.1 hx
      obtain ⟨i, hi, rfl⟩ := List.mem_map.1 hl2
      obtain ⟨_, _, _, _, h5, _⟩ := hr i (by have := List.mem_range.1 hi; omega)
      exact nats_lt (fun m hm => h5 m (List.mem_of_mem_take hm)) x hx
theorem open_chained {r : Reach} {base : Nat} {v : Value} {d : DataW H} {ps : List MemPlace} (hval : Value.okWide Try.prog W r base 39 v) (h : DataW.Trod enc Try.prog W 0 (fun _ => true) true 39 v d ps) :
    ∃ h0 B m cb ls, v = .agg (ints .u8 h0 ++ #[.slice B m cb]) ∧ h0.length = 32 ∧ (∀ x ∈ h0, x < 256) ∧ RdP W B m ls ∧ (∀ x ∈ ls.flatten, x < 256) ∧ m ≤ 9223372036854775807 ∧ m ≤ cb := by
  obtain ⟨fuel, hf⟩ := h
  unfold Value.okWide at hval
  rw [Try.underlying39] at hval
  obtain ⟨cs, rfl, _, _⟩ := hval
  obtain ⟨y0, y1, n, _, hlen, h0, h1⟩ := trod_struct2 Try.underlying39 hf
  rw [cellsOf39] at hlen
  have h0' : DataW.trod enc Try.prog W 0 (fun _ => true) true n 27 (cs.toList.take 32) = some y0 := by
    have := h0
    simp only [Value.cells, cellsOf27, List.drop_zero] at this
    exact this
  have h1' : DataW.trod enc Try.prog W 0 (fun _ => true) true n 23 (cs.toList.drop 32) = some y1 := by
    have e : (cs.toList.drop 32).take 1 = cs.toList.drop 32 := List.take_of_length_le (by rw [List.length_drop]; have : cs.toList.length = 33 := hlen; omega)
    have := h1
    simp only [Value.cells, cellsOf23] at this
    rw [← e]
    exact this
  obtain ⟨l, e1, hl, hb⟩ := trod_row Try.underlying27 cellsOf27 h0'
  obtain ⟨B, m, cb, ls, e2, hp, hpb, hm, hmc⟩ := trod_parts h1'
  refine ⟨l, B, m, cb, ls, ?_, hl, hb, hp, hpb, hm, hmc⟩
  congr 1
  apply Array.toList_inj.1
  rw [← List.take_append_drop 32 cs.toList, e1, e2]
  simp [ints_toList]
end
theorem read39 : ReadT Try.prog 39 := ⟨by kernel_rfl, of_decide_eq_true (by kernel_rfl)⟩
theorem read5 : ReadT Try.prog 5 := ⟨by kernel_rfl, of_decide_eq_true (by kernel_rfl)⟩
end Go.Proofs.Ytleabipplchbpaa
