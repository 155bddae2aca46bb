/-
  'append(s, make([]byte, k)...)' onto a slice of the call's own.
-/
import Derived.Test.YtleabipplchbpaaLawE
namespace Go.Proofs.Ytleabipplchbpaa
open Go.RowKit
set_option maxRecDepth 100000
theorem info5z : (Try.prog.info? 5).map (fun i => (i.zero, i.size, i.bytes)) = some (some (.int .u8 0), 1, 1) := by kernel_rfl
theorem zeros5 (k : Nat) : Builtin.zeroCells #[.int .u8 0] k = ints .u8 (List.replicate k 0) := by
  apply Array.ext
  · simp [Builtin.zeroCells, ints]
  · intro i h1 h2
    simp [Builtin.zeroCells, ints, Nat.mod_one]
theorem zeros5L (k : Nat) : (Builtin.zeroCells #[.int .u8 0] k).toList = cellsI .u8 (List.replicate k 0) := by rw [zeros5, ints_toList]
theorem run_append_zeros (w : World) (base : Nat) (A : Option Addr) (n c : Nat) (l : List Nat) (hown : w.ownsRow base 5 1 (.slice A n c) n (cellsI .u8 l)) (k : Nat) (hk : n + k ≤ 1000000) (kq : IntKind) (hbase : base ≤ w.heap.size) :
    ∃ v' w', (Builtin.append_ #[22, 3] 22 #[.slice A n c, .int kq k]).run Try.prog w = .ok v' w' ∧ w'.ownsRow base 5 1 v' (n + k) (cellsI .u8 (l ++ List.replicate k 0)) ∧ w.grownBy w' (Value.ownBlock (.slice A n c)) ∧
      (v'.ownBlock = (Value.slice A n c).ownBlock ∨ v'.ownBlock = some w.heap.size) := by
  obtain ⟨i, hi, hz, hsz, hby⟩ := info_parts info5z
  have hl : l.length = n := by have := hown.1; rw [cellsI_len] at this; omega
  have hw : IntKind.i64.wrap (k : Int) = k := by rw [IntKind.wrap_i64]; omega
  have hneg : ¬ ((k : Int) < 0) := by omega
  have h48i : ¬ (281474976710656 < (k : Int)) := by omega
  have hlen : (cellsI .u8 (l ++ List.replicate k 0)).length = (n + k) * 1 := by rw [cellsI_len, List.length_append, List.length_replicate, hl, Nat.mul_one]
  rcases Nat.eq_zero_or_pos k with h0 | h0
  · subst h0
    obtain ⟨A', c', hv, hnil, hnc⟩ := own_form hown
    injection hv with e1 _ e3
    subst e1 e3
    refine ⟨.slice A n c, w, ?_, by simpa using hown, World.grownBy.refl w _, .inl rfl⟩
    have hw0 : IntKind.i64.wrap 0 = 0 := by rw [IntKind.wrap_i64]; rfl
    cases A <;> simp [Builtin.append_, run_underlying Try.underlying22, run_underlying Try.underlying3, sizeOf, typeInfo, hi, hby, asInt, asIntOf, hw0, hnc, storeCells]
  · rcases hown.2 with ⟨hv, hn⟩ | ⟨g, cap, cur, hv, hbg, hg, hnc, hcm, hcs, htake⟩
    · injection hv with e1 _ e3
      subst e1 e3 hn
      have hl0 : l = [] := List.eq_nil_of_length_eq_zero hl
      subst hl0
      have hrun := Lib.run_append_nil_zeros (P := Try.prog) w 22 3 22 5 i (.int .u8 0) kq .i64 Try.underlying22 Try.underlying3 hi hz k h0 (by omega) (by omega) (by rw [hby]; omega)
      refine ⟨_, _, hrun, ?_, ⟨rfl, rfl, rfl, by simp, fun j hj _ => heap_alloc_old w.drew _ hj⟩, .inr rfl⟩
      refine ⟨hlen, .inr ⟨w.heap.size, _, _, by rw [Nat.zero_add], hbase, heap_alloc_new w.drew _, ?_, grownCap_le_maxLen w k 0 5 (by unfold maxLen; omega), ?_, ?_⟩⟩
      · rw [Nat.zero_add]; exact grownCap_ge w k 0 5
      · have := grownCap_ge w k 0 5
        simp only [Value.cells, Array.size_append]
        rw [zeroCells_size _ _ rfl, zeroCells_size _ _ rfl]
        omega
      · simp only [Value.cells, Array.toList_append, zeros5L, Nat.zero_add, Nat.mul_one, List.nil_append]
        rw [List.take_append_of_le_length (by rw [cellsI_len, List.length_replicate]; omega), List.take_of_length_le (by rw [cellsI_len, List.length_replicate]; omega)]
    · injection hv with e1 _ e3
      subst e1 e3
      by_cases hroom : n + k ≤ c
      · have hst := run_storeCells_at (P := Try.prog) g n 5 (cellsI .u8 (List.replicate k 0)) 0 cur w hg (by rw [cellsI_len, List.length_replicate]; omega) (cellsI_one _ _)
        have hrun : (Builtin.append_ #[22, 3] 22 #[.slice (some ⟨g, 0, none⟩) n c, .int kq k]).run Try.prog w = .ok (.slice (some ⟨g, 0, none⟩) (n + k) c) (w.setRow g (cur.toList.take (n + 0) ++ cellsI .u8 (List.replicate k 0) ++ cur.toList.drop (n + 0 + (cellsI .u8 (List.replicate k 0)).length)).toArray) := by
          have hadd : (⟨g, 0, none⟩ : Addr).add n = ⟨g, n, none⟩ := by unfold Addr.add; split <;> simp_all
          have hk0 : ¬ k = 0 := by omega
          simp [Builtin.append_, run_underlying Try.underlying22, run_underlying Try.underlying3, sizeOf, typeInfo, zeroValue, hi, hz, hsz, hby, asInt, asIntOf, hw, hneg, h48i, hroom, hk0, Value.cells, zeros5L, hadd]
          rw [Nat.add_zero, List.append_assoc] at hst
          rw [hst]
          simp
        refine ⟨_, _, hrun, ⟨hlen, .inr ⟨g, c, _, rfl, hbg, setRow_heap w g cur _ 5 _ hg, hroom, hcm, ?_, ?_⟩⟩, grownBy_setRow w g _, .inl rfl⟩
        · simp only [List.size_toArray, List.length_append, List.length_take, List.length_drop, Array.length_toList, cellsI_len, List.length_replicate]
          omega
        · have h1 : cur.toList.take (n + 0) = cellsI .u8 l := by rw [← htake, Nat.mul_one, Nat.add_zero]
          rw [h1, ← cellsI_append, List.toList_toArray, List.take_append_of_le_length (by omega), List.take_of_length_le (by omega)]
      · have hold : (Builtin.firstCells i.size n (.slice (some ⟨g, 0, none⟩) n c)).run Try.prog w.drew = .ok (cellsI .u8 l).toArray w.drew := by
          have := run_loadCells_list (P := Try.prog) w.drew ⟨g, 0, none⟩ (cellsI .u8 l) (hown.cells (g := g) rfl)
          rw [cellsI_len, hl] at this
          simpa [Builtin.firstCells, hsz] using this
        have hrun := Lib.run_append_grow_zeros (P := Try.prog) w 22 3 22 5 i (.int .u8 0) kq .i64 Try.underlying22 Try.underlying3 hi hz (some ⟨g, 0, none⟩) n c (cellsI .u8 l) hold k h0 (by omega) (by omega) (by omega) (by rw [hby]; omega) (by rw [hby]; exact growslice_fits (by omega) (by omega))
        have hge := grownCap_ge w (n + k) c 5
        refine ⟨_, _, hrun, ⟨hlen, .inr ⟨w.heap.size, _, _, rfl, hbase, heap_alloc_new w.drew _, hge, grownCap_le_maxLen w (n + k) c 5 (by unfold maxLen; omega), ?_, ?_⟩⟩, ⟨rfl, rfl, rfl, by simp, fun j hj _ => heap_alloc_old w.drew _ hj⟩, .inr rfl⟩
        · simp only [Value.cells, Array.size_append]
          rw [zeroCells_size _ _ rfl, zeroCells_size _ _ rfl, List.size_toArray, cellsI_len]
          omega
        · simp only [Value.cells, Array.toList_append, zeros5L]
          rw [← cellsI_append, List.take_append_of_le_length (by omega), List.take_of_length_le (by omega)]
section
variable {ops : Array Oper} {rest : List Oper} {o : Oper} {a : Act} {w w0 : World} {Q : Exit → Act → World → Prop} {L : List Res}
theorem wpl_zeros (hs : St w0 w L) (hgd : o.guard = none) (s x : Operand) (ho : o.op = .call { callee := .builtin .append, args := #[s, x], argTypes := #[22, 3] }) (hty : o.type = 22)
    {A : Option Addr} {n c k : Nat} {kq : IntKind} {l : List Nat} {L' : Option Addr → Nat → List Res} (hsv : a.eval s = .slice A n c) (hxv : a.eval x = .int kq (k : Nat)) (hk : n + k ≤ 1000000)
    (hu : ∀ A' c', Upd (numsR A n c 5 .u8 l) (numsR A' (n + k) c' 5 .u8 (l ++ List.replicate k 0)) L (L' A' c'))
    (h : ∀ A' c' w', St w0 w' (L' A' c') → wpList Try.prog ops Q rest (a.put o.dst (.slice A' (n + k) c')) w') : wpList Try.prog ops Q (o :: rest) a w :=
  wpList_plain hgd fun _ hK => by
    obtain ⟨v', w', hrun, h2, h3, h4⟩ := run_append_zeros w w0.heap.size A n c l (hs.has_nums (hu none 0).has) k hk kq hs.size
    obtain ⟨A', c', rfl, _, _⟩ := own_form h2
    refine Lib.wp_append_run w s x 22 3 ho _ _ hsv hxv (.slice A' (n + k) c') w' (by rw [hty]; exact hrun) (hK _ _ (h A' c' w' (hs.upd (hu A' c') h3 h2 (h4.imp id fun e g hg => ?_))))
    have hg' : (Value.slice A' (n + k) c').ownBlock = some g := hg
    rw [e] at hg'
    injection hg' with hg'
    omega
end
end Go.Proofs.Ytleabipplchbpaa
