/-
  Own words for a region that draws its order and holds calls: one operation at a time, by the laws on lists.
-/
import Derived.Test.YtleabipplchbpaaMacD
import Derived.OrdersHeld
namespace Go.Proofs.Ytleabipplchbpaa
open Go.RowKit
set_option maxRecDepth 100000
/-- The post of a single operation of a region. -/
def Kpost (K : Act → World → Prop) (Q : Exit → Act → World → Prop) : Exit → Act → World → Prop
  | .normal, a, w => K a w
  | .panic c, a, w => Q (.panic c) a w
  | _, _, _ => False
theorem kpost {K : Act → World → Prop} {Q : Exit → Act → World → Prop} {a : Act} {w : World} (h : K a w) : Kpost K Q .normal a w := h
section
variable {P : Program} {ops : Array Oper} {Q : Exit → Act → World → Prop} {K : Act → World → Prop}
theorem upon_kpost {o : Oper} {a : Act} {next : Act → World → Prop} (hn : ∀ a w, next a w → K a w) : ∀ r, o.upon P a next (Kpost K Q) r → o.upon P a K Q r := by
  intro r h
  cases r with
  | ok nx w' =>
    cases nx with
    | enter f args =>
      refine Calls.mono h ?_
      rintro e w2 h2
      cases e with
      | returned v => exact hn _ _ h2
      | panicked c => exact h2
      | outgrown => obtain ⟨_, _, h3⟩ := h2; exact h3.elim
    | row r args =>
      intro c cs
      obtain ⟨v, w2, hr, hst⟩ := h c cs
      exact ⟨v, w2, hn _ _ hr, hst⟩
    | value v => exact hn _ _ h
    | skip => exact hn _ _ h
    | defer d => exact hn _ _ h
    | _ => exact h.elim
  | halt x w' => cases x <;> first | exact h | exact h.elim
theorem wpOp_of_list {i : Nat} {o : Oper} {a : Act} {w : World} (hi : ops[i]? = some o) (h : wpList P ops (Kpost K Q) [o] a w) : wpOp P ops Q i K a w := by
  unfold wpOp
  simp only [hi]
  simp only [wpList] at h
  split
  · rename_i hw
    rw [if_pos hw] at h
    rcases h with h | ⟨_, _, _, h⟩
    · exact .inl (upon_kpost (fun _ _ h => h) _ h)
    · exact h.elim
  · rename_i hw
    rw [if_neg hw] at h
    exact h
theorem yields_row {S : World → Prop} {o : Oper} {a : Act} (hw : Region.wanted o (yielded ops a.tmps) = true) (ty : TypeId) (x : Operand) (ho : o.op = .load ty x) (g : Nat) (hx : a.eval x = .pointer (some ⟨g, 0, none⟩))
    (t : TypeId) (cs : Array Value) (hS : ∀ w, S w → w.heap[g]? = some (.cells cs t (0, 0))) {n : Nat} (hr : RowTy P ty n) (hn : cs.size = n) : YieldsIf P ops S o (.agg cs) a := by
  obtain ⟨⟨d, hu, hd⟩, hi⟩ := hr
  refine .inl ⟨hw, fun w hw' => ?_⟩
  unfold execOp
  simp only [ho, hx, Instr.loadAt, Instr.sureAddr, Sem.run_bind, Sem.run_pure, Result.andThen_ok]
  rw [run_loadVar_row w g t ty cs (0, 0) d (hS w hw') hu (by cases d <;> simp_all) (by rw [hi, hn])]
  rfl
end
inductive Pick (r : Res) : List Res → List Res → Prop
  | head {L : List Res} : Pick r (r :: L) L
  | tail {s : Res} {L L' : List Res} : Pick r L L' → Pick r (s :: L) (s :: L')
theorem Pick.perm {r : Res} {L L' : List Res} (h : Pick r L L') : L.Perm (r :: L') := by
  induction h with
  | head => exact List.Perm.refl _
  | tail _ ih => exact (List.Perm.cons _ ih).trans (List.Perm.swap ..)
/-- A resource brought to the front. -/
theorem St.pick {w0 w : World} {L L' : List Res} {r : Res} (hs : St w0 w L) (h : Pick r L L') : St w0 w (r :: L') := by
  refine ⟨hs.below, fun s hm => hs.ok s (h.perm.mem_iff.2 hm), (h.perm.pairwise_iff ?_).1 hs.apart⟩
  intro r s hrs g hg hr
  exact hrs g hr hg
end Go.Proofs.Ytleabipplchbpaa
