/-
  Walks over what the statements themselves use: equality of arrays of bytes, Fair, Copy, Bytes.
-/
import Derived.Test.YtleabipplchbpaaMacD
import Derived.Stop.BytesEq
import Derived.Laws.BytesArg
namespace Go.Proofs.Ytleabipplchbpaa
open Go.RowKit
set_option maxRecDepth 100000
/-! ### equality of arrays of bytes -/
theorem ints_cells {l : List Nat} (h : ∀ x ∈ l, x < 256) : ints .u8 l = ((l.map UInt8.ofNat).map Extern.Stop.cell).toArray := by
  unfold ints
  rw [List.map_map]
  congr 1
  refine List.map_congr_left fun x hx => ?_
  have := h x hx
  simp only [Function.comp_def, Extern.Stop.cell, UInt8.toNat_ofNat']
  rw [Nat.mod_eq_of_lt (by omega)]
  rfl
theorem map_ofNat_back {l : List Nat} (h : ∀ x ∈ l, x < 256) : (l.map UInt8.ofNat).map UInt8.toNat = l := by
  rw [List.map_map]
  conv => rhs; rw [← List.map_id l]
  refine List.map_congr_left fun x hx => ?_
  have := h x hx
  simp only [Function.comp_def, UInt8.toNat_ofNat', id_eq]
  exact Nat.mod_eq_of_lt (by omega)
theorem map_ofNat_eq {l m : List Nat} (hl : ∀ x ∈ l, x < 256) (hm : ∀ x ∈ m, x < 256) : (l.map UInt8.ofNat == m.map UInt8.ofNat) = decide (l = m) := by
  rw [Bool.eq_iff_iff, beq_iff_eq, decide_eq_true_iff]
  constructor
  · intro h
    rw [← map_ofNat_back hl, ← map_ofNat_back hm, h]
  · intro h; rw [h]
theorem size5 (w : World) : (Go.sizeOf 5).run Try.prog w = .ok 1 w := by kernel_rfl
theorem run_eq27 (w : World) {l m : List Nat} (hl : l.length = 32) (hm : m.length = 32) (bl : ∀ x ∈ l, x < 256) (bm : ∀ x ∈ m, x < 256) :
    (binOp .eql 27 (.agg (ints .u8 l)) (.agg (ints .u8 m))).run Try.prog w = .ok (.bool (decide (l = m))) w := by
  rw [ints_cells bl, ints_cells bm, run_eql_bytes w 27 5 32 Try.underlying27 Try.underlying5 size5 _ _ (by simpa using hl) (by simpa using hm), map_ofNat_eq bl bm]
theorem run_eq31 (w : World) {l m : List Nat} (hl : l.length = 64) (hm : m.length = 64) (bl : ∀ x ∈ l, x < 256) (bm : ∀ x ∈ m, x < 256) :
    (binOp .eql 31 (.agg (ints .u8 l)) (.agg (ints .u8 m))).run Try.prog w = .ok (.bool (decide (l = m))) w := by
  rw [ints_cells bl, ints_cells bm, run_eql_bytes w 31 5 64 Try.underlying31 Try.underlying5 size5 _ _ (by simpa using hl) (by simpa using hm), map_ofNat_eq bl bm]
theorem run_ne27 (w : World) {l m : List Nat} (hl : l.length = 32) (hm : m.length = 32) (bl : ∀ x ∈ l, x < 256) (bm : ∀ x ∈ m, x < 256) :
    (binOp .neq 27 (.agg (ints .u8 l)) (.agg (ints .u8 m))).run Try.prog w = .ok (.bool (!decide (l = m))) w := by
  have h := run_eq27 w hl hm bl bm
  rw [run_eql_struct] at h
  rw [run_neq_struct]
  revert h
  generalize (Op.equalIn 10000 27 (.agg (ints .u8 l)) (.agg (ints .u8 m))).run Try.prog w = r
  cases r with
  | ok b w' => intro h; simp [Result.andThen] at h ⊢; exact ⟨by rw [h.1], h.2⟩
  | halt x w' => intro h; simp [Result.andThen] at h
section
variable {ops : Array Oper} {rest : List Oper} {o : Oper} {a : Act} {w : World} {Q : Exit → Act → World → Prop}
theorem guard27 (op : BinOp) (x y : Operand) (xs ys : Array Value) (w : World) : (eqGuard op 27 x y (.agg xs) (.agg ys)).run Try.prog w = .ok () w := run_eqGuard_agg w op 27 x y xs ys (by kernel_rfl)
theorem guard31 (op : BinOp) (x y : Operand) (xs ys : Array Value) (w : World) : (eqGuard op 31 x y (.agg xs) (.agg ys)).run Try.prog w = .ok () w := run_eqGuard_agg w op 31 x y xs ys (by kernel_rfl)
/-- An operation, guarded or not, whose run is known. -/
theorem wpl_run (hw : Region.wanted o (yielded ops a.tmps) = true) (v : Value) (hr : (execOp a.eval o).run Try.prog w = .ok (.value v) w) (h : wpList Try.prog ops Q rest (a.put o.dst v) w) : wpList Try.prog ops Q (o :: rest) a w :=
  BigFrame.wpList_want hw fun _ hK => by
    unfold Oper.wp
    rw [hr]
    exact hK _ _ h
theorem exec_eq27 (x y : Operand) (r : TypeId) (ho : o.op = .binOp .eql 27 x y r) {l m : List Nat} (hx : a.eval x = .agg (ints .u8 l)) (hy : a.eval y = .agg (ints .u8 m)) (hl : l.length = 32) (hm : m.length = 32) (bl : ∀ x ∈ l, x < 256) (bm : ∀ x ∈ m, x < 256) :
    (execOp a.eval o).run Try.prog w = .ok (.value (.bool (decide (l = m)))) w := by
  unfold execOp
  simp only [ho, hx, hy, Sem.run_bind, guard27, run_eq27 w hl hm bl bm, Result.andThen_ok, Sem.run_pure]
theorem exec_ne27 (x y : Operand) (r : TypeId) (ho : o.op = .binOp .neq 27 x y r) {l m : List Nat} (hx : a.eval x = .agg (ints .u8 l)) (hy : a.eval y = .agg (ints .u8 m)) (hl : l.length = 32) (hm : m.length = 32) (bl : ∀ x ∈ l, x < 256) (bm : ∀ x ∈ m, x < 256) :
    (execOp a.eval o).run Try.prog w = .ok (.value (.bool (!decide (l = m)))) w := by
  unfold execOp
  simp only [ho, hx, hy, Sem.run_bind, guard27, run_ne27 w hl hm bl bm, Result.andThen_ok, Sem.run_pure]
theorem exec_eq31 (x y : Operand) (r : TypeId) (ho : o.op = .binOp .eql 31 x y r) {l m : List Nat} (hx : a.eval x = .agg (ints .u8 l)) (hy : a.eval y = .agg (ints .u8 m)) (hl : l.length = 64) (hm : m.length = 64) (bl : ∀ x ∈ l, x < 256) (bm : ∀ x ∈ m, x < 256) :
    (execOp a.eval o).run Try.prog w = .ok (.value (.bool (decide (l = m)))) w := by
  unfold execOp
  simp only [ho, hx, hy, Sem.run_bind, guard31, run_eq31 w hl hm bl bm, Result.andThen_ok, Sem.run_pure]
end
/-! ### Bytes -/
def strOf (l : List Nat) : ByteArray := ⟨(l.map UInt8.ofNat).toArray⟩
theorem strOf_eq {l m : List Nat} (hl : ∀ x ∈ l, x < 256) (hm : ∀ x ∈ m, x < 256) : (strOf l = strOf m) ↔ l = m := by
  constructor
  · intro h
    have h2 : l.map UInt8.ofNat = m.map UInt8.ofNat := by
      have := congrArg (fun b : ByteArray => b.data.toList) h
      simpa [strOf] using this
    rw [← map_ofNat_back hl, ← map_ofNat_back hm, h2]
  · intro h; rw [h]
theorem conv_rd (w : World) {A : Option Addr} {n c : Nat} {l : List Nat} (h : RdI w .u8 A n l) : (convert 22 9 (.slice A n c)).run Try.prog w = .ok (.string (strOf l)) w := by
  have hlen := h.len
  rcases A with _ | ad
  · have h0 : l = [] := by
      cases l with
      | nil => rfl
      | cons x xs => obtain ⟨ad, e, _⟩ := h.2 0 _ rfl; cases e
    subst h0
    rw [run_convert_bytes_nil w 22 5 Try.underlying22 Try.underlying5 n c 9 Try.underlying9]
    rfl
  · rw [run_convert_bytes_string w 22 9 5 _ n c Try.underlying22 Try.underlying5 Try.underlying9]
    have hl : (loadCells ad n).run Try.prog w = .ok ((l.map Int.ofNat).map (Value.int .u8)).toArray w := by
      have := run_loadCells_list (P := Try.prog) w ad (cellsI .u8 l) (fun j v hj => by
        obtain ⟨ad', e, hc⟩ := h.2 j v hj
        injection e with e
        subst e
        exact hc)
      rw [cellsI_len, hlen] at this
      rw [this, cellsI, List.map_map]
      rfl
    rw [run_bytesToString w ad n c _ hl, foldl_push_bytes]
    simp [strOf, ByteArray.empty, ByteArray.emptyWithCapacity]
    rfl
def sameB (l m : List Nat) : Bool := decide (l = m)
set_option maxHeartbeats 400000 in
theorem bytes_any (l m : List Nat) (hl : ∀ x ∈ l, x < 256) (hm : ∀ x ∈ m, x < 256) (A B : Option Addr) (n c k d : Nat) (w : World) (hA : RdI w .u8 A n l) (hB : RdI w .u8 B k m) :
    Calls Try.prog 21 #[.slice A n c, .slice B k d] w fun e w' => e = .returned (.bool (sameB l m)) ∧ w = w' := by
  have c1 := conv_rd w (c := c) hA
  have c2 := conv_rd w (c := d) hB
  have he : ((strOf l).toList == (strOf m).toList) = sameB l m := by
    rw [Bool.eq_iff_iff, beq_iff_eq, sameB, decide_eq_true_iff, ← strOf_eq hl hm, ByteArray.toList_eq, ByteArray.toList_eq]
    exact ⟨fun h => by
      generalize strOf l = x at h ⊢
      generalize strOf m = y at h ⊢
      obtain ⟨⟨x⟩⟩ := x
      obtain ⟨⟨y⟩⟩ := y
      simp only at h
      rw [h], fun h => by rw [h]⟩
  have HE := Lib.hid he
  clear hA hB he
  go_enter Try.func21, Try.ntmps21
  go_wp2_with fail
  go_ret
  exact ⟨by rw [← HE.out]; rfl, rfl⟩
end Go.Proofs.Ytleabipplchbpaa
