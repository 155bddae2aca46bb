/-
  Slices of slices, cut; chains of two lists; what a walk of TagGoes asks of them. (Printed by wip/tools/tagF.py.)
-/
import Derived.Test.YtleabipplchbpaaTagE
import Derived.Test.YtleabipplchbpaaLawG
namespace Go.Proofs.Ytleabipplchbpaa
open Go.RowKit
set_option maxRecDepth 100000
theorem elem23 : Try.prog.underlying 23 = some (.slice (Try.prog.elem 23)) := by kernel_rfl
theorem sizeE23 (w : World) : (Go.sizeOf (Try.prog.elem 23)).run Try.prog w = .ok 1 w := by kernel_rfl
theorem run_to23 (B : Option Addr) (m cb k : Nat) (hk : k ≤ cb) (w : World) : (Instr.sliceAt 23 (.slice B m cb) none (some (.int .i64 k)) none).run Try.prog w = .ok (.slice B k cb) w := by
  rw [run_sliceAt_slice w 23 _ _ _ _ elem23, run_slice_h w 23 B m cb elem23 .i64 k (by omega) (by omega), sizeE23]
  simp only [Result.andThen_ok, sliced, Int.toNat_natCast, Nat.zero_mul, Nat.sub_zero]
  split
  · rfl
  · cases B <;> rfl
theorem run_from23 (B : Option Addr) (m cb k : Nat) (hk : k ≤ m) (w : World) : (Instr.sliceAt 23 (.slice B m cb) (some (.int .i64 k)) none none).run Try.prog w = .ok (.slice (fromA B cb k) (m - k) (cb - k)) w := by
  rw [run_sliceAt_slice w 23 _ _ _ _ elem23, run_slice_l w 23 B m cb elem23 .i64 k (by omega) (by omega), sizeE23]
  simp only [Result.andThen_ok, sliced, Int.toNat_natCast, fromA]
theorem RdP.to {w : World} {B : Option Addr} {m k : Nat} {ps : List (List Nat)} (h : RdP w B m ps) (hk : k ≤ m) : RdP w B k (ps.take k) := by
  refine ⟨by have := h.1; rw [List.length_take]; omega, fun i l hl => h.2 i l ?_⟩
  rw [List.getElem?_take] at hl
  split at hl
  · exact hl
  · cases hl
theorem RdP.from_ {w : World} {B : Option Addr} {m cb k : Nat} {ps : List (List Nat)} (h : RdP w B m ps) (hk : k ≤ m) (hc : m ≤ cb) : RdP w (fromA B cb k) (m - k) (ps.drop k) := by
  refine ⟨by have := h.1; rw [List.length_drop]; omega, fun i l hl => ?_⟩
  rw [List.getElem?_drop] at hl
  have hi : k + i < m := by
    have := (List.getElem?_eq_some_iff.1 hl).1
    have := h.1
    omega
  obtain ⟨ad, B2, c2, e, hc2, hr⟩ := h.2 (k + i) l hl
  subst e
  refine ⟨ad.add k, B2, c2, by rw [fromA, if_neg (by omega), Nat.mul_one]; rfl, ?_, hr⟩
  rw [Addr.add_add]
  exact hc2
theorem link_take (h : List Nat) (ps : List (List Nat)) (k : Nat) : ∀ i, i ≤ k → linkAt h (ps.take k) i = linkAt h ps i
  | 0, _ => rfl
  | i + 1, hi => by
    rw [linkAt, linkAt, link_take h ps k i (by omega), List.getD_eq_getElem?_getD, List.getD_eq_getElem?_getD, List.getElem?_take, if_pos (by omega)]
theorem link_drop (h : List Nat) (ps : List (List Nat)) (k : Nat) : ∀ j, linkAt (linkAt h ps k) (ps.drop k) j = linkAt h ps (k + j)
  | 0 => rfl
  | j + 1 => by
    rw [linkAt, link_drop h ps k j, List.getD_eq_getElem?_getD, List.getElem?_drop, show k + (j + 1) = (k + j) + 1 from rfl, linkAt, List.getD_eq_getElem?_getD]
section
variable {P : Program} {ops : Array Oper} {rest : List Oper} {o : Oper} {a : Act} {w : World} {Q : Exit → Act → World → Prop}
/-- A load whose run is known; guarded or not. -/
theorem wpg_load (hw : Region.wanted o (yielded ops a.tmps) = true) (ty : TypeId) (x : Operand) (ho : o.op = .load ty x) (p v : Value) (hx : a.eval x = p) (hr : (Instr.loadAt ty p).run P w = .ok v w) (h : wpList P ops Q rest (a.put o.dst v) w) : wpList P ops Q (o :: rest) a w :=
  BigFrame.wpList_want hw fun _ hK => by
    unfold Oper.wp execOp
    simp only [ho, hx, Sem.run_bind, hr, Result.andThen_ok]
    exact hK _ _ h
end
theorem flat_sub {ps qs : List (List Nat)} (h : ∀ l ∈ qs, l ∈ ps) (hb : ∀ x ∈ ps.flatten, x < 256) : ∀ x ∈ qs.flatten, x < 256 := fun x hx => by
  obtain ⟨l, hl, hx⟩ := List.mem_flatten.1 hx
  exact hb x (List.mem_flatten.2 ⟨l, h l hl, hx⟩)
theorem flat_take_len (ps : List (List Nat)) (k : Nat) : (ps.take k).flatten.length ≤ ps.flatten.length := flat_take_le ps k
theorem flat_drop_len (ps : List (List Nat)) (k : Nat) : (ps.drop k).flatten.length ≤ ps.flatten.length := by
  conv => rhs; rw [← List.take_append_drop k ps, List.flatten_append, List.length_append]
  omega
end Go.Proofs.Ytleabipplchbpaa
