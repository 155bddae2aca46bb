/-
  Own words for a region that draws its order: the first n operations in whatever order, behind each of which S holds; the others a row behind them, of which S is not asked.
-/
import Derived.Test.YtleabipplchbpaaLawF
namespace Go.Proofs.Ytleabipplchbpaa
open Go.RowKit
set_option maxRecDepth 100000
section
variable {P : Program} {md : Region.Mode} {ops : Array Oper} {Q : Exit → Act → World → Prop} {S : World → Prop} {n : Nat} {T : Array Bool → Act → World → Prop}
/-- Whatever order is picked among the first n, S behind each; then T. -/
def wpK (P : Program) (md : Region.Mode) (ops : Array Oper) (Q : Exit → Act → World → Prop) (S : World → Prop) (n : Nat) (T : Array Bool → Act → World → Prop) : Nat → Array Bool → Act → World → Prop
  | 0, listed, a, w => T listed a w
  | f + 1, listed, a, w => Region.ready md ops listed ≠ [] ∧ ∀ i ∈ Region.ready md ops listed, i < n ∧ wpOp P ops Q i (fun a' w' => S w' ∧ wpK P md ops Q S n T f (listed.setIfInBounds i true) a' w') a w
theorem wpAny_of_K {g : Nat} (hT : ∀ listed a w, T listed a w → wpAny P md ops Q g listed a w) : ∀ (f : Nat) (listed : Array Bool) (a : Act) (w : World), wpK P md ops Q S n T f listed a w → wpAny P md ops Q (f + g) listed a w
  | 0, listed, a, w, h => by rw [Nat.zero_add]; exact hT _ _ _ h
  | f + 1, listed, a, w, h => by
    rw [show f + 1 + g = (f + g) + 1 by omega]
    exact ⟨fun h0 => absurd h0 h.1, fun i hi => wpOp_mono (fun a' w' h' => wpAny_of_K hT f _ a' w' h'.2) (h.2 i hi).2⟩
theorem wpK_first {i : Nat} {oi : Oper} {v : Value} (hi : ops[i]? = some oi) (hsel : ∀ (j : Nat) (o : Oper) cs b, ops[j]? = some o → o.op ≠ .select cs b)
    (hs : Region.sinkB md ops n = true) (hc : Region.chainB md ops n = true) (hn : n < ops.size) (hin : i < n)
    (hQ : ∀ c a w, Q (.panic c) (a.put oi.dst v) w → Q (.panic c) a w) (hdone : ∀ listed a w, T listed a w → ∀ j ∈ Region.ready md ops listed, n ≤ j) :
    ∀ (f : Nat) (listed : Array Bool) (a : Act) (w : World), HeadInv md ops n listed →
      (∀ j oj, ops[j]? = some oj → j ≠ i → listed.getD j true = false → (∀ e ∈ oj.after, Region.binds md e = true → e.on ≠ i) → oi.apart ops oj = true) →
      i ∈ Region.ready md ops listed → YieldsIf P ops S oi v a → S w →
      wpK P md ops Q S n T f (listed.setIfInBounds i true) (a.put oi.dst v) w → wpK P md ops Q S n T (f + 1) listed a w := by
  intro f
  induction f with
  | zero =>
    intro listed a w inv _ hr hy hS H
    have hun := (mem_ready.1 hr).1
    refine ⟨fun h => (by rw [h] at hr; cases hr), fun j hj => ?_⟩
    have hjn : j < n := by
      rcases Nat.lt_or_ge j n with h | h
      · exact h
      · exact absurd hj (tail_waits hs hc hn inv _ i rfl hin hun j h)
    refine ⟨hjn, ?_⟩
    by_cases hji : j = i
    · subst hji; exact hy.wpOp hi hS ⟨hS, H⟩
    · have := hdone _ _ _ H j (ready_mono hj hji)
      omega
  | succ f ih =>
    intro listed a w inv hfree hr hy hS H
    have hun := (mem_ready.1 hr).1
    refine ⟨fun h => (by rw [h] at hr; cases hr), fun j hj => ?_⟩
    have hjn : j < n := by
      rcases Nat.lt_or_ge j n with h | h
      · exact h
      · exact absurd hj (tail_waits hs hc hn inv _ i rfl hin hun j h)
    refine ⟨hjn, ?_⟩
    by_cases hji : j = i
    · subst hji; exact hy.wpOp hi hS ⟨hS, H⟩
    · have h1 := (H.2 j (ready_mono hj hji)).2
      obtain ⟨hjun, oj, hoj, hall⟩ := mem_ready.1 hj
      have hnot : ∀ e ∈ oj.after, Region.binds md e = true → e.on ≠ i := fun e he hb heq => by
        have h1 := hall e he hb
        rw [heq, getD_both hun] at h1
        cases h1
      have h2 := wpOp_putIf hoj (hfree j oj hoj hji hjun hnot) (fun cs b => hsel i oi cs b hi) (fun cs b => hsel j oj cs b hoj) hQ hy h1
      have hfree' : ∀ k ok, ops[k]? = some ok → k ≠ i → (listed.setIfInBounds j true).getD k true = false →
          (∀ e ∈ ok.after, Region.binds md e = true → e.on ≠ i) → oi.apart ops ok = true := fun k ok hk hki hun hno => by
        refine hfree k ok hk hki ?_ hno
        by_cases hjk : j = k
        · subst hjk; exact hjun
        · rw [getD_set_ne true hjk] at hun; exact hun
      refine wpOp_mono (fun a' w' h3 => ⟨h3.2.1, ih (listed.setIfInBounds j true) a' w' (inv.set hj hjn) hfree' (ready_mono hr (Ne.symm hji)) h3.1 h3.2.1 ?_⟩) h2
      rw [Array.setIfInBounds_comm _ _ hji]
      exact h3.2.2
/-- Where the first n are done: the others are a row. -/
def tailK (P : Program) (md : Region.Mode) (os : List Oper) (Q : Exit → Act → World → Prop) (n : Nat) (listed : Array Bool) (a : Act) (w : World) : Prop :=
  Region.seqB md os.toArray (os.drop n).length n listed = true ∧ wpList P os.toArray Q (os.drop n) a w
/-- The goal of a walk: what is asked of the region's own text is known once. -/
def K (P : Program) (os : List Oper) (Q : Exit → Act → World → Prop) (S : World → Prop) (n : Nat) (f : Nat) (listed : Array Bool) (a : Act) (w : World) : Prop :=
  Region.noSelect os.toArray = true → n < os.toArray.size → Region.sinkB .any os.toArray n = true → Region.chainB .any os.toArray n = true → HeadInv .any os.toArray n listed → wpK P .any os.toArray Q S n (tailK P .any os Q n) f listed a w
end
section
variable {P : Program} {os : List Oper} {Q : Exit → Act → World → Prop} {S : World → Prop} {n : Nat}
theorem K_take {f i : Nat} {oi : Oper} {v : Value} {listed : Array Bool} {a : Act} {w : World} (hi : os.toArray[i]? = some oi) (hin : i < n) (hf : Region.free .any os.toArray listed i = true) (hr : (Region.ready .any os.toArray listed).contains i = true)
    (hQ : ∀ c a w, Q (.panic c) (a.put oi.dst v) w → Q (.panic c) a w) (hy : YieldsIf P os.toArray S oi v a) (hS : S w) (h : K P os Q S n f (listed.setIfInBounds i true) (a.put oi.dst v) w) : K P os Q S n (f + 1) listed a w := fun h1 h2 h3 h4 inv =>
  wpK_first hi (Region.noSelect_spec h1) h3 h4 h2 hin hQ (fun _ _ _ hT => seqB_ready hT.1) f listed a w inv (Region.free_spec hi hf) (by simpa using hr) hy hS (h h1 h2 h3 h4 (inv.set (by simpa using hr) hin))
theorem K_all {f : Nat} {rs : List Nat} {listed : Array Bool} {a : Act} {w : World} (hr : Region.ready .any os.toArray listed = rs) (hne : rs ≠ []) (hlt : ∀ i ∈ rs, i < n)
    (h : ∀ i ∈ rs, wpOp P os.toArray Q i (fun a' w' => S w' ∧ K P os Q S n f (listed.setIfInBounds i true) a' w') a w) : K P os Q S n (f + 1) listed a w := fun h1 h2 h3 h4 inv =>
  ⟨fun h0 => absurd (hr ▸ h0) hne, fun i hi => ⟨hlt i (hr ▸ hi), wpOp_mono (fun _ _ h' => ⟨h'.1, h'.2 h1 h2 h3 h4 (inv.set hi (hlt i (hr ▸ hi)))⟩) (h i (hr ▸ hi))⟩⟩
theorem K_one {f i : Nat} {listed : Array Bool} {a : Act} {w : World} (hr : Region.ready .any os.toArray listed = [i]) (hin : i < n)
    (h : wpOp P os.toArray Q i (fun a' w' => S w' ∧ K P os Q S n f (listed.setIfInBounds i true) a' w') a w) : K P os Q S n (f + 1) listed a w :=
  K_all hr (by simp) (fun j hj => by rw [List.mem_singleton.1 hj]; exact hin) fun j hj => by rw [List.mem_singleton.1 hj]; exact h
theorem K_done {listed : Array Bool} {a : Act} {w : World} (hB : Region.seqB .any os.toArray (os.drop n).length n listed = true) (h : wpList P os.toArray Q (os.drop n) a w) : K P os Q S n 0 listed a w := fun _ _ _ _ _ => ⟨hB, h⟩
/-- The same from another listing that is as this one. -/
theorem K_as {f : Nat} {listed listed' : Array Bool} {a : Act} {w : World} (e : listed = listed') (h : K P os Q S n f listed' a w) : K P os Q S n f listed a w := by rw [e]; exact h
/-- The beginning. -/
theorem reg_K {id : Nat} {a : Act} {w : World} (n : Nat) (S : World → Prop) (hm : P.follows .mixedOrders = true) (hB : (Region.noSelect os.toArray && decide (n < os.length) && Region.sinkB .any os.toArray n && Region.chainB .any os.toArray n) = true)
    (h : K P os Q S n n (Array.replicate os.length false) a w.drew) : (Code.region id os.toArray true).wp P Q a w := by
  simp only [Bool.and_eq_true, decide_eq_true_eq] at hB
  obtain ⟨⟨⟨h1, h2⟩, h3⟩, h4⟩ := hB
  have inv0 : HeadInv .any os.toArray n (Array.replicate os.length false) :=
    ⟨by simp, fun j oj _ hl => (by rw [getD_replicate_false] at hl; cases hl), fun t _ ht => getD_in (by simpa using ht) (getD_replicate_false _ _)⟩
  refine wp_region_any hm ?_
  have := wpAny_of_K (g := (os.drop n).length) (fun listed a w (hT : tailK P .any os Q n listed a w) => wpAny_of_seq (md := .any) (os.drop n) n listed a w (fun j => by simp [List.getElem?_drop]) hT.1 hT.2) n _ _ _ (h h1 (by simpa using h2) h3 h4 inv0)
  rw [List.length_drop, show n + (os.length - n) = os.length by omega] at this
  simpa using this
/-- One operation, what comes behind it behind a letter. -/
theorem K_op {i : Nat} {o : Oper} {K0 : Act → World → Prop} {a : Act} {w : World} (hi : os.toArray[i]? = some o) (h : ∀ K' : Act → World → Prop, Hid (∀ a w, K0 a w → K' a w) → wpList P os.toArray (Kpost K' Q) [o] a w) : wpOp P os.toArray Q i K0 a w := wpOp_hid hi h
end
/-- What reads memory that lay there when the region began reads on. -/
abbrev Since0 (w1 : World) (W : World) : Prop := Below w1.heap.size w1 W
theorem St.since {w0 w1 w : World} {L0 L : List Res} (h0 : St w0 w1 L0) (h : St w1 w L) : St w0 w (L ++ L0) := h0.join h
theorem Since0.row {w1 W : World} (h : Since0 w1 W) {g : Nat} {o : Obj} (hg : w1.heap[g]? = some o) : W.heap[g]? = some o := (h.block g (Array.getElem?_eq_some_iff.1 hg).1).trans hg
theorem Since0.at {w1 W : World} (h : Since0 w1 W) {ad : Addr} {v : Value} (hc : w1.cell? ad = some v) : W.cell? ad = some v := (h.cell (block_lt_of_cell hc)).trans hc
end Go.Proofs.Ytleabipplchbpaa
