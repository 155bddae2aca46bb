/-
  Own words: constant texts (a literal that is marked), digests in a slice, a meeting place in a drawn region.
-/
import Derived.Test.YtleabipplchbpaaTagC
namespace Go.Proofs.Ytleabipplchbpaa
open Go.RowKit
set_option maxRecDepth 100000
section
variable {P : Program} {ops : Array Oper} {rest : List Oper} {o : Oper} {a : Act} {w w0 : World} {Q : Exit → Act → World → Prop} {L : List Res}
/-- A literal of a slice that is read alone; guarded or not. -/
theorem wpg_lit (hs : St w0 w L) (hw : Region.wanted o (yielded ops a.tmps) = true) (t : TypeId) (n : Nat) (parts : Array (Nat × Operand)) (ho : o.op = .buildSlice t n parts) (e : TypeId) (cs : Array Value)
    (hb : ∀ w, (Instr.buildSlice t n (parts.map fun (i, x) => (i, a.eval x))).run P w = .ok (.slice (some ⟨w.heap.size, 0, none⟩) n n) (w.alloc (.cells cs e)))
    (h : ∀ g w', St w0 w' (.lit g e cs :: L) → wpList P ops Q rest (a.put o.dst (.slice (some ⟨g, 0, none⟩) n n)) w') : wpList P ops Q (o :: rest) a w :=
  BigFrame.wpList_want hw fun _ hK => by
    unfold Oper.wp execOp
    simp only [ho, Sem.run_bind, hb, Result.andThen_ok]
    exact hK _ _ (h w.heap.size _ (hs.push ((Below.refl _ _).alloc (Nat.le_refl _) _) ⟨Nat.le_refl _, (0, 0), heap_alloc_new w _⟩))
theorem Rd.of_lit (hs : St w0 w L) {g n : Nat} {t : TypeId} {k : IntKind} {l : List Nat} (hm : Has (Res.lit g t (ints k l)) L) (hn : l.length = n) : RdI w k (some ⟨g, 0, none⟩) n l := by
  obtain ⟨_, fr, hg⟩ := hs.ok _ hm.mem
  refine ⟨by rw [cellsI_len, hn, Nat.mul_one], fun j u hu => ⟨_, rfl, ?_⟩⟩
  rw [show (⟨g, 0, none⟩ : Addr).add j = ⟨g, j, none⟩ from by unfold Addr.add; split <;> simp_all, cell_of_row w g j _ t fr hg, ← hu, ← ints_toList]
  simp
end
theorem freeze_heap (w : World) {g n : Nat} {cs : Array Value} {t : TypeId} {fr : Nat × Nat} (hg : w.heap[g]? = some (.cells cs t fr)) : ∃ fr', (w.freeze ⟨g, n, none⟩ 1).heap[g]? = some (.cells cs t fr') := by
  unfold World.freeze
  rw [if_neg (by decide)]
  simp only [Array.getElem?_modify, if_true, hg, Option.map_some]
  exact ⟨_, rfl⟩
theorem freeze_grown (w : World) (g n : Nat) : w.grownBy (w.freeze ⟨g, n, none⟩ 1) (some g) := by
  unfold World.freeze
  rw [if_neg (by decide)]
  refine ⟨rfl, rfl, rfl, by simp, fun k hk hne => ?_⟩
  simp only [Array.getElem?_modify]
  rw [if_neg (fun e => hne (by rw [e]))]
theorem St.mark {w0 w : World} {L : List Res} (hs : St w0 w L) {g n : Nat} {t : TypeId} {cs : Array Value} (hm : Upd (Res.lit g t cs) (Res.lit g t cs) L L) : St w0 (w.freeze ⟨g, n, none⟩ 1) L := by
  obtain ⟨hB, fr, hg⟩ := hs.ok _ hm.mem
  exact hs.upd hm (freeze_grown w g n) ⟨hB, freeze_heap w hg⟩ (.inl rfl)
theorem Has.upd {r : Res} {L : List Res} (h : Has r L) : Upd r r L L := by
  induction h with
  | head => exact .head
  | tail _ ih => exact .tail ih
theorem run_mark {w0 w : World} {L : List Res} (hs : St w0 w L) {g n c : Nat} {cs : Array Value} (hm : Has (Res.lit g 5 cs) L) :
    (convert 22 22 (.slice (some ⟨g, 0, none⟩) n c)).run Try.prog w = .ok (.slice (some ⟨g, 0, none⟩) n c) (w.freeze ⟨g, cs.size, none⟩ 1) := by
  obtain ⟨_, fr, hg⟩ := hs.ok _ hm.mem
  have hsh : w.shape? g = some (5, cs.size) := by unfold World.shape?; rw [hg]
  simp [convert, run_underlying Try.underlying22, run_underlying Try.underlying5, markStringish, hsh]
section
variable {ops : Array Oper} {rest : List Oper} {o : Oper} {a : Act} {w w0 : World} {Q : Exit → Act → World → Prop} {L : List Res}
theorem wpg_mark (hs : St w0 w L) (hw : Region.wanted o (yielded ops a.tmps) = true) (x : Operand) (ho : o.op = .convert 22 22 x) {g n c : Nat} {cs : Array Value} (hx : a.eval x = .slice (some ⟨g, 0, none⟩) n c) (hm : Has (Res.lit g 5 cs) L)
    (h : ∀ w', St w0 w' L → wpList Try.prog ops Q rest (a.put o.dst (.slice (some ⟨g, 0, none⟩) n c)) w') : wpList Try.prog ops Q (o :: rest) a w :=
  BigFrame.wpList_want hw fun _ hK => by
    unfold Oper.wp execOp
    simp only [ho, hx, Sem.run_bind, run_mark hs hm, Result.andThen_ok]
    exact hK _ _ (h _ (hs.mark hm.upd))
end
/-! ### digests in a slice -/
theorem flat_at : ∀ (ls : List (List Nat)), (∀ l ∈ ls, l.length = 32) → ∀ (i : Nat) (l : List Nat), ls[i]? = some l → ∀ j, j < 32 → ls.flatten[32 * i + j]? = l[j]?
  | [], _, i, l, h, _, _ => by simp at h
  | x :: ls, hu, 0, l, h, j, hj => by
    obtain rfl : x = l := by simpa using h
    have := hu x (List.mem_cons_self ..)
    rw [List.flatten_cons, Nat.mul_zero, Nat.zero_add, List.getElem?_append_left (by omega)]
  | x :: ls, hu, i + 1, l, h, j, hj => by
    have hx := hu x (List.mem_cons_self ..)
    rw [List.flatten_cons, List.getElem?_append_right (by omega), ← flat_at ls (fun l hl => hu l (List.mem_cons_of_mem _ hl)) i l (by simpa using h) j hj]
    congr 1
    omega
theorem digest_at {w : World} {g n : Nat} {ls : List (List Nat)} (h : Rd w 32 (some ⟨g, 0, none⟩) n (cellsI .u8 ls.flatten)) (hu : ∀ l ∈ ls, l.length = 32) {i : Nat} {l : List Nat} (hi : ls[i]? = some l) : w.rangeAt g (32 * i) (cellsI .u8 l) := by
  intro j v hv
  have hll := hu l (List.mem_of_getElem? hi)
  have hj : j < 32 := by
    have := (List.getElem?_eq_some_iff.1 hv).1
    rw [cellsI_len] at this
    omega
  obtain ⟨ad, e, hc⟩ := h.2 (32 * i + j) v (by rw [← hv, cellsI, List.getElem?_map, flat_at ls hu i l hi j hj, cellsI, List.getElem?_map])
  injection e with e
  subst e
  rw [Addr.add_mid, Nat.zero_add] at hc
  exact hc
theorem load_digest {w : World} {g o : Nat} {l : List Nat} (h : w.rangeAt g o (cellsI .u8 l)) (hl : l.length = 32) : (Instr.loadAt 27 (.pointer (some ⟨g, o, none⟩))).run Try.prog w = .ok (.agg (ints .u8 l)) w := by
  rw [run_loadAt_mid (P := Try.prog) w g o 27 (cellsI .u8 l) _ h Try.underlying27 rfl (by rw [info27, cellsI_len, hl])]
  rfl
theorem Since0.range {w1 W : World} (h : Since0 w1 W) {g o : Nat} {cs : List Value} (hc : w1.rangeAt g o cs) : W.rangeAt g o cs := fun j v hv => Since0.at h (hc j v hv)
section
variable {P : Program} {ops : Array Oper} {S : World → Prop} {o : Oper} {a : Act} {v : Value}
theorem yields_load (hw : Region.wanted o (yielded ops a.tmps) = true) (ty : TypeId) (x : Operand) (ho : o.op = .load ty x) (p : Value) (hx : a.eval x = p) (h : ∀ w, S w → (Instr.loadAt ty p).run P w = .ok v w) : YieldsIf P ops S o v a :=
  .inl ⟨hw, fun w hS => by
    unfold execOp
    simp only [ho, hx, Sem.run_bind, h w hS, Result.andThen_ok, Sem.run_pure]⟩
end
/-! ### a meeting place -/
/-- Like 'K', but that it ends where the f operations are done: at this listing, in M. -/
def KM (P : Program) (os : List Oper) (Q : Exit → Act → World → Prop) (S : World → Prop) (n : Nat) (L1 : Array Bool) (M : Act → World → Prop) (f : Nat) (listed : Array Bool) (a : Act) (w : World) : Prop :=
  wpK P .any os.toArray Q S n (fun l a w => l = L1 ∧ M a w) f listed a w
section
variable {P : Program} {os : List Oper} {Q : Exit → Act → World → Prop} {S : World → Prop} {n : Nat} {L1 : Array Bool} {M : Act → World → Prop}
theorem KM_all {f : Nat} {rs : List Nat} {listed : Array Bool} {a : Act} {w : World} (hr : Region.ready .any os.toArray listed = rs) (hne : rs ≠ []) (hlt : ∀ i ∈ rs, i < n)
    (h : ∀ i ∈ rs, wpOp P os.toArray Q i (fun a' w' => S w' ∧ KM P os Q S n L1 M f (listed.setIfInBounds i true) a' w') a w) : KM P os Q S n L1 M (f + 1) listed a w :=
  ⟨fun h0 => absurd (hr ▸ h0) hne, fun i hi => ⟨hlt i (hr ▸ hi), h i (hr ▸ hi)⟩⟩
theorem KM_one {f i : Nat} {listed : Array Bool} {a : Act} {w : World} (hr : Region.ready .any os.toArray listed = [i]) (hin : i < n)
    (h : wpOp P os.toArray Q i (fun a' w' => S w' ∧ KM P os Q S n L1 M f (listed.setIfInBounds i true) a' w') a w) : KM P os Q S n L1 M (f + 1) listed a w :=
  KM_all hr (by simp) (fun j hj => by rw [List.mem_singleton.1 hj]; exact hin) fun j hj => by rw [List.mem_singleton.1 hj]; exact h
theorem KM_done {listed : Array Bool} {a : Act} {w : World} (e : listed = L1) (h : M a w) : KM P os Q S n L1 M 0 listed a w := ⟨e, h⟩
theorem wpK_trans {T T' : Array Bool → Act → World → Prop} {f2 : Nat} (hn : Region.sinkB .any os.toArray n = true) (hc : Region.chainB .any os.toArray n = true)
    (hT : ∀ l a w, HeadInv .any os.toArray n l → T l a w → wpK P .any os.toArray Q S n T' f2 l a w) : ∀ (f1 : Nat) (listed : Array Bool) (a : Act) (w : World), HeadInv .any os.toArray n listed → wpK P .any os.toArray Q S n T f1 listed a w → wpK P .any os.toArray Q S n T' (f1 + f2) listed a w
  | 0, listed, a, w, inv, h => by rw [Nat.zero_add]; exact hT _ _ _ inv h
  | f1 + 1, listed, a, w, inv, h => by
    rw [show f1 + 1 + f2 = (f1 + f2) + 1 by omega]
    exact ⟨h.1, fun i hi => ⟨(h.2 i hi).1, wpOp_mono (fun a' w' h' => ⟨h'.1, wpK_trans hn hc hT f1 _ a' w' (inv.set hi (h.2 i hi).1) h'.2⟩) (h.2 i hi).2⟩⟩
/-- All ways meet in M; from there on. -/
theorem K_meet {f : Nat} (f1 f2 : Nat) (L1 : Array Bool) (M : Act → World → Prop) (hf : f = f1 + f2) {listed : Array Bool} {a : Act} {w : World} (h1 : KM P os Q S n L1 M f1 listed a w) (h2 : ∀ a w, M a w → K P os Q S n f2 L1 a w) : K P os Q S n f listed a w := fun k1 k2 k3 k4 inv => by
  subst hf
  exact wpK_trans k3 k4 (fun l a w inv' ⟨e, hM⟩ => by subst e; exact h2 a w hM k1 k2 k3 k4 inv') f1 listed a w inv h1
end
end Go.Proofs.Ytleabipplchbpaa
