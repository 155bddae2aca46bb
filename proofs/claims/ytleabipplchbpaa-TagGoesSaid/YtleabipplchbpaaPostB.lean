/-
  What comes in, opened, part 2: arrays of bytes; bytes with their capacity.
-/
import Derived.Test.YtleabipplchbpaaPost
namespace Go.Proofs.Ytleabipplchbpaa
open Go.ChangeShapes Go.WideShapes Go.ChangeAt Go.RowKit
set_option maxRecDepth 100000
def natOf : Value → Nat
  | .int _ n => n.toNat
  | _ => 0
section
variable {H : Type} {enc : TypeId × Value → H} {W : World}
theorem trod_row {N fuel : Nat} {t : TypeId} {sp : Nat → Bool} {held : Bool} (ht : Try.prog.underlying t = some (.array N 5)) (hc : Try.prog.cellsOf t = N) {cs : List Value} {x : DataW H × List MemPlace}
    (h : DataW.trod enc Try.prog W 0 sp held fuel t cs = some x) : ∃ l : List Nat, cs = cellsI .u8 l ∧ l.length = N ∧ ∀ x ∈ l, x < 256 := by
  obtain ⟨xs, m, _, _, hlen, hxl, hel⟩ := DataW.trod_array ht h
  rw [hc] at hlen
  have each : ∀ i (hi : i < cs.length), ∃ n : Int, cs[i] = .int .u8 n ∧ (Lit.int .u8 n).wf = true := by
    intro i hi
    have h1 := hel i (by omega)
    rw [cellsOf5, Nat.mul_one, List.getElem?_eq_getElem (by omega)] at h1
    obtain ⟨n, e1, _, hw⟩ := DataW.trod_int Try.underlying5 h1
    refine ⟨n, ?_, hw⟩
    have h2 : ((cs.drop i).take 1)[0]? = some cs[i] := by simp
    rw [e1] at h2
    simpa using h2.symm
  refine ⟨cs.map natOf, ?_, by rw [List.length_map, hlen], ?_⟩
  · apply List.ext_getElem
    · simp [cellsI]
    · intro i h1 h2
      obtain ⟨n, e, hw⟩ := each i h1
      have := wf_u8 hw
      simp only [cellsI, List.getElem_map, e, natOf]
      rw [Int.toNat_of_nonneg this.1]
  · intro y hy
    obtain ⟨v, hv, rfl⟩ := List.mem_map.1 hy
    obtain ⟨i, hi, rfl⟩ := List.mem_iff_getElem.1 hv
    obtain ⟨n, e, hw⟩ := each i hi
    have := wf_u8 hw
    rw [e, natOf]
    omega
theorem open_row {N : Nat} {t : TypeId} (ht : Try.prog.underlying t = some (.array N 5)) (hc : Try.prog.cellsOf t = N) {r : Reach} {base : Nat} {v : Value} {d : DataW H} {ps : List MemPlace} (hval : Value.okWide Try.prog W r base t v)
    (h : DataW.Trod enc Try.prog W 0 (fun _ => true) true t v d ps) : ∃ l : List Nat, v = .agg (ints .u8 l) ∧ l.length = N ∧ ∀ x ∈ l, x < 256 := by
  obtain ⟨fuel, hf⟩ := h
  unfold Value.okWide at hval
  rw [ht] at hval
  obtain ⟨cs, rfl, _, _⟩ := hval
  obtain ⟨l, e, hl, hb⟩ := trod_row ht hc hf
  refine ⟨l, ?_, hl, hb⟩
  have e2 : cs.toList = cellsI .u8 l := e
  rw [ints, ← cellsI, ← e2]
theorem open_bytesC {r : Reach} {base : Nat} {v : Value} {d : DataW H} {ps : List MemPlace} (hval : Value.okWide Try.prog W r base 22 v) (h : DataW.Trod enc Try.prog W 0 (fun _ => true) true 22 v d ps) :
    ∃ A n c l, v = .slice A n c ∧ RdI W .u8 A n l ∧ (∀ x ∈ l, x < 256) ∧ n ≤ 9223372036854775807 ∧ n ≤ c := by
  obtain ⟨A, n, c, l, rfl, hr, hb, hn⟩ := open_bytes hval h
  refine ⟨A, n, c, l, rfl, hr, hb, hn, ?_⟩
  obtain ⟨fuel, hf⟩ := h
  rcases open_ints Try.underlying22 Try.underlying5 cellsOf5 hf with ⟨hcs, _⟩ | ⟨a, len, cap, zs, hcs, _, hl, _⟩
  · have : Value.slice A n c = .slice none 0 0 := by simpa [Value.cells] using hcs
    injection this with e1 e2 e3
    omega
  · have : Value.slice A n c = .slice (some a) len cap := by simpa [Value.cells] using hcs
    injection this with e1 e2 e3
    omega
end
theorem read35 : ReadT Try.prog 35 := ⟨by kernel_rfl, of_decide_eq_true (by kernel_rfl)⟩
theorem cellsOf35 : Try.prog.cellsOf 35 = 2 := by kernel_rfl
theorem list_two {l : List Nat} (h : l.length = 2) : ∃ a b, l = [a, b] := by
  match l, h with
  | [a, b], _ => exact ⟨a, b, rfl⟩
end Go.Proofs.Ytleabipplchbpaa
