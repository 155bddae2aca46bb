/-
  Own words for memory: a state of the call's own blocks beside all that lay before the call ('St'), and laws on operations that hand it on.
-/
import Derived.Test.YtleabipplchbpaaPlain
import Derived.WalkKit
import Derived.WalkSpells
import Derived.WalkLawsBesides
import Derived.Lib.Hide
import Derived.Deep.MidRow
import Derived.Laws.CopyOwn
import Derived.Deep.AppendLies
import Derived.Deep.Draws
import Derived.Maps.AppendAt
import Derived.OwnWalk
import Derived.KernelRfl
import Derived.StillTailTactics
namespace Go.Proofs.Ytleabipplchbpaa
open Go.RowKit

/-- What the call owns: a block known whole; a slice that is appended to; a block that is read alone (it may be marked). -/
inductive Res where
  | blk (g : Nat) (t : TypeId) (cs : Array Value)
  | own (v : Value) (e : TypeId) (size n : Nat) (xs : List Value)
  | lit (g : Nat) (t : TypeId) (cs : Array Value)
def Res.block : Res → Option Nat
  | .blk g _ _ => some g
  | .own v _ _ _ _ => v.ownBlock
  | .lit g _ _ => some g
def Res.ok (B : Nat) (w : World) : Res → Prop
  | .blk g t cs => B ≤ g ∧ w.heap[g]? = some (.cells cs t (0, 0))
  | .own v e size n xs => w.ownsRow B e size v n xs
  | .lit g t cs => B ≤ g ∧ ∃ fr, w.heap[g]? = some (.cells cs t fr)
/-- Nothing that lay in w0 has turned; the resources of L are there, and no two share a block. -/
structure St (w0 w : World) (L : List Res) : Prop where
  below : Below w0.heap.size w0 w
  ok : ∀ r ∈ L, r.ok w0.heap.size w
  apart : L.Pairwise fun r s => ∀ g, r.block = some g → s.block ≠ some g

theorem Res.ok_lt {B : Nat} {w : World} {r : Res} (h : r.ok B w) {g : Nat} (hg : r.block = some g) : B ≤ g ∧ g < w.heap.size := by
  cases r with
  | blk g' t cs =>
    obtain rfl : g' = g := by simpa [Res.block] using hg
    exact ⟨h.1, (Array.getElem?_eq_some_iff.1 h.2).1⟩
  | own v e size n xs => exact World.ownsRow.lt h g hg
  | lit g' t cs =>
    obtain rfl : g' = g := by simpa [Res.block] using hg
    obtain ⟨fr, h2⟩ := h.2
    exact ⟨h.1, (Array.getElem?_eq_some_iff.1 h2).1⟩
theorem Res.ok_keep {B : Nat} {w w' : World} {r : Res} (h : r.ok B w) (hk : ∀ g, r.block = some g → w'.heap[g]? = w.heap[g]?) : r.ok B w' := by
  cases r with
  | blk g' t cs => exact ⟨h.1, (hk g' rfl).trans h.2⟩
  | own v e size n xs =>
    refine ⟨h.1, ?_⟩
    rcases h.2 with hn | ⟨g, cap, cur, rfl, hb, hgg, rest⟩
    · exact .inl hn
    · exact .inr ⟨g, cap, cur, rfl, hb, (hk g rfl).trans hgg, rest⟩
  | lit g' t cs => exact ⟨h.1, h.2.imp fun _ e => (hk g' rfl).trans e⟩
theorem Res.ok_mono {B B' : Nat} {w : World} {r : Res} (h : r.ok B w) (hB : B' ≤ B) : r.ok B' w := by
  cases r with
  | blk g' t cs => exact ⟨Nat.le_trans hB h.1, h.2⟩
  | own v e size n xs =>
    refine ⟨h.1, ?_⟩
    rcases h.2 with hn | ⟨g, cap, cur, rfl, hb, rest⟩
    · exact .inl hn
    · exact .inr ⟨g, cap, cur, rfl, Nat.le_trans hB hb, rest⟩
  | lit g' t cs => exact ⟨Nat.le_trans hB h.1, h.2⟩

inductive Upd (r r' : Res) : List Res → List Res → Prop
  | head {L : List Res} : Upd r r' (r :: L) (r' :: L)
  | tail {s : Res} {L L' : List Res} : Upd r r' L L' → Upd r r' (s :: L) (s :: L')
theorem Upd.mem {r r' : Res} {L L' : List Res} (h : Upd r r' L L') : r ∈ L := by
  induction h with
  | head => exact List.mem_cons_self ..
  | tail _ ih => exact List.mem_cons_of_mem _ ih
inductive Has (r : Res) : List Res → Prop
  | head {L : List Res} : Has r (r :: L)
  | tail {s : Res} {L : List Res} : Has r L → Has r (s :: L)
theorem Has.mem {r : Res} {L : List Res} (h : Has r L) : r ∈ L := by
  induction h with
  | head => exact List.mem_cons_self ..
  | tail _ ih => exact List.mem_cons_of_mem _ ih
theorem Upd.has {r r' : Res} {L L' : List Res} (h : Upd r r' L L') : Has r L := by
  induction h with
  | head => exact .head
  | tail _ ih => exact .tail ih
theorem Upd.cases_mem {r r' : Res} {L L' : List Res} (h : Upd r r' L L') {s : Res} (hs : s ∈ L') : s = r' ∨ s ∈ L := by
  induction h with
  | head => rcases List.mem_cons.1 hs with h | h; exact .inl h; exact .inr (List.mem_cons_of_mem _ h)
  | tail _ ih =>
    rcases List.mem_cons.1 hs with h | h
    · exact .inr (by rw [h]; exact List.mem_cons_self ..)
    · rcases ih h with h | h
      · exact .inl h
      · exact .inr (List.mem_cons_of_mem _ h)

section
variable {w0 w w' : World} {L L' : List Res}
theorem St.nil (w : World) : St w w [] := ⟨Below.refl _ _, (fun _ h => by cases h), List.Pairwise.nil⟩
theorem St.size (hs : St w0 w L) : w0.heap.size ≤ w.heap.size := hs.below.size
theorem St.lt (hs : St w0 w L) {r : Res} (hr : r ∈ L) {g : Nat} (hg : r.block = some g) : g < w.heap.size := (Res.ok_lt (hs.ok r hr) hg).2
/-- Behind whatever leaves all blocks that there are as they are: a call, a draw. -/
theorem St.call (hs : St w0 w L) (hb : Below w.heap.size w w') : St w0 w' L :=
  ⟨hs.below.trans (hb.mono hs.size), fun r hr => Res.ok_keep (hs.ok r hr) fun g hg => hb.block g (hs.lt hr hg), hs.apart⟩
theorem St.drew (hs : St w0 w L) : St w0 w.drew L := hs.call (Below.refl _ _).drew
theorem St.drewN (hs : St w0 w L) (n : Nat) : St w0 (w.drewN n) L := hs.call ⟨rfl, rfl, rfl, Nat.le_refl _, fun _ _ => rfl⟩
/-- One resource more, which lies in new blocks. -/
theorem St.push (hs : St w0 w L) (hb : Below w.heap.size w w') {r : Res} (hr : r.ok w.heap.size w') : St w0 w' (r :: L) := by
  have h1 := hs.call hb
  refine ⟨h1.below, fun s hs' => ?_, List.Pairwise.cons (fun s hs' g hg hsg => ?_) h1.apart⟩
  · rcases List.mem_cons.1 hs' with rfl | h
    · exact Res.ok_mono hr hs.size
    · exact h1.ok s h
  · have := (Res.ok_lt hr hg).1
    have := hs.lt hs' hsg
    omega
theorem St.alloc (hs : St w0 w L) (t : TypeId) (cs : Array Value) : St w0 (w.alloc (.cells cs t)) (.blk w.heap.size t cs :: L) :=
  hs.push ((Below.refl _ _).alloc (Nat.le_refl _) _) ⟨Nat.le_refl _, heap_alloc_new w _⟩
theorem St.pop {r : Res} (hs : St w0 w (r :: L)) : St w0 w L :=
  ⟨hs.below, fun s h => hs.ok s (List.mem_cons_of_mem _ h), (List.pairwise_cons.1 hs.apart).2⟩
theorem St.sub (hs : St w0 w L) (h : List.Sublist L' L) : St w0 w L' :=
  ⟨hs.below, fun s hm => hs.ok s (h.subset hm), hs.apart.sublist h⟩
theorem upd_aux {B : Nat} {r r' : Res} (hu : Upd r r' L L') (hok : ∀ s ∈ L, s.ok B w) (hap : L.Pairwise fun r s => ∀ g, r.block = some g → s.block ≠ some g)
    (hg : w.grownBy w' r.block) (hr : r'.ok B w') (hb : r'.block = r.block ∨ ∀ g, r'.block = some g → w.heap.size ≤ g) :
    (∀ s ∈ L', s.ok B w') ∧ (L'.Pairwise fun r s => ∀ g, r.block = some g → s.block ≠ some g) ∧
      ∀ s : Res, s.ok B w → (∀ x ∈ L, ∀ g, s.block = some g → x.block ≠ some g) → ∀ x ∈ L', ∀ g, s.block = some g → x.block ≠ some g := by
  have hnew : ∀ s : Res, s.ok B w → (∀ g, s.block = some g → r.block ≠ some g) → ∀ g, s.block = some g → r'.block ≠ some g := by
    intro s hs hd g hg' hr'
    rcases hb with h | h
    · exact hd g hg' (by rw [← h]; exact hr')
    · have h1 := h g hr'
      have h2 := (Res.ok_lt hs hg').2
      omega
  have hkeep : ∀ s : Res, s.ok B w → (∀ g, s.block = some g → r.block ≠ some g) → s.ok B w' := fun s hs hd =>
    Res.ok_keep hs fun g hg' => hg.block g (Res.ok_lt hs hg').2 (fun e => hd g hg' e.symm)
  induction hu with
  | head =>
    obtain ⟨h1, h2⟩ := List.pairwise_cons.1 hap
    refine ⟨fun s hs => ?_, List.Pairwise.cons (fun s hs g hg' => ?_) h2, fun s hs hd x hx g hg' => ?_⟩
    · rcases List.mem_cons.1 hs with rfl | h
      · exact hr
      · exact hkeep s (hok s (List.mem_cons_of_mem _ h)) fun g hg' hr' => h1 s h g hr' hg'
    · intro hs'
      exact hnew s (hok s (List.mem_cons_of_mem _ hs)) (fun g hg' hr' => h1 s hs g hr' hg') g hs' hg'
    · rcases List.mem_cons.1 hx with rfl | h
      · exact hnew s hs (fun g hg' => hd r (List.mem_cons_self ..) g hg') g hg'
      · exact hd x (List.mem_cons_of_mem _ h) g hg'
  | @tail t L L' hu ih =>
    obtain ⟨h1, h2⟩ := List.pairwise_cons.1 hap
    obtain ⟨a, b, c⟩ := ih (fun s hs => hok s (List.mem_cons_of_mem _ hs)) h2
    have ht := hok t (List.mem_cons_self ..)
    refine ⟨fun s hs => ?_, List.Pairwise.cons (fun s hs g hg' => c t ht h1 s hs g hg') b, fun s hs hd x hx g hg' => ?_⟩
    · rcases List.mem_cons.1 hs with rfl | h
      · exact hkeep s ht fun g hg' => h1 r hu.mem g hg'
      · exact a s h
    · rcases List.mem_cons.1 hx with rfl | h
      · exact hd x (List.mem_cons_self ..) g hg'
      · exact c s hs (fun y hy => hd y (List.mem_cons_of_mem _ hy)) x h g hg'
/-- One resource turned. -/
theorem St.upd (hs : St w0 w L) {r r' : Res} (hu : Upd r r' L L') (hg : w.grownBy w' r.block) (hr : r'.ok w0.heap.size w')
    (hb : r'.block = r.block ∨ ∀ g, r'.block = some g → w.heap.size ≤ g) : St w0 w' L' := by
  obtain ⟨a, b, _⟩ := upd_aux hu hs.ok hs.apart hg hr hb
  exact ⟨hs.below.grown hg hs.size fun k hk => (Res.ok_lt (hs.ok r hu.mem) hk).1, a, b⟩
theorem grownBy_setRow (w : World) (g : Nat) (cs : Array Value) : w.grownBy (w.setRow g cs) (some g) :=
  ⟨rfl, rfl, rfl, by simp, fun k _ hk => setRow_other w g k _ (fun e => hk (by simp [e]))⟩
theorem St.row (hs : St w0 w L) {g : Nat} {t : TypeId} {cs : Array Value} (hm : Has (Res.blk g t cs) L) : w.heap[g]? = some (.cells cs t (0, 0)) := (hs.ok _ hm.mem).2
theorem St.setRow (hs : St w0 w L) {g : Nat} {t : TypeId} {cs cs' : Array Value} (hu : Upd (.blk g t cs) (.blk g t cs') L L') : St w0 (w.setRow g cs') L' :=
  hs.upd hu (grownBy_setRow w g cs') ⟨(hs.ok _ hu.mem).1, setRow_heap w g cs cs' t _ (hs.row hu.has)⟩ (.inl rfl)
theorem St.setCell (hs : St w0 w L) {g i : Nat} {t : TypeId} {cs : Array Value} {v : Value} (hu : Upd (.blk g t cs) (.blk g t (cs.setIfInBounds i v)) L L') : St w0 (w.setCell ⟨g, i, none⟩ v) L' := by
  rw [setCell_eq_setRow w g i cs t (0, 0) v (hs.row hu.has)]
  exact hs.setRow hu
/-- A cell of a block of the call's own. -/
theorem St.cell (hs : St w0 w L) {g : Nat} {t : TypeId} {cs : Array Value} (hm : Has (Res.blk g t cs) L) (i : Nat) : w.cell? ⟨g, i, none⟩ = cs[i]? := cell_of_row w g i cs t _ (hs.row hm)
theorem St.free (hs : St w0 w L) {g : Nat} {t : TypeId} {cs : Array Value} (hm : Has (Res.blk g t cs) L) (i : Nat) : w.frozen? ⟨g, i, none⟩ = false := frozen_of_row w g i cs t (hs.row hm)
end

/-- The numbers l as cells of kind k. -/
def ints (k : IntKind) (l : List Nat) : Array Value := (l.map fun n : Nat => Value.int k n).toArray
theorem ints_size (k : IntKind) (l : List Nat) : (ints k l).size = l.length := by simp [ints]
theorem ints_get {k : IntKind} {l : List Nat} {i : Nat} (hi : i < l.length) : (ints k l)[i]? = some (.int k (at_ l i : Nat)) := by
  simp [ints, at_, List.getD, List.getElem?_eq_getElem hi]
theorem ints_set (k : IntKind) (l : List Nat) (i n : Nat) : (ints k l).setIfInBounds i (.int k n) = ints k (l.set i n) := by
  simp [ints]
theorem ints_oneCell (k : IntKind) (l : List Nat) : (ints k l).all (·.oneCell') = true := by
  simp [ints, Value.oneCell']
theorem St.num {w0 w : World} {L : List Res} (hs : St w0 w L) {g : Nat} {t : TypeId} {k : IntKind} {l : List Nat} (hm : Has (Res.blk g t (ints k l)) L) {i : Nat} (hi : i < l.length) : w.cell? ⟨g, i, none⟩ = some (.int k (at_ l i : Nat)) :=
  (hs.cell hm i).trans (ints_get hi)

/-- A type whose values are rows of n cells: an array, a struct. -/
def RowTy (P : Program) (ty : TypeId) (n : Nat) : Prop :=
  (∃ d, P.underlying ty = some d ∧ (match d with | .struct _ | .array _ _ => true | _ => false) = true) ∧ (P.info? ty).map (·.size) = some n
section
variable {P : Program} {ops : Array Oper} {rest : List Oper} {o : Oper} {a : Act} {w w0 : World} {Q : Exit → Act → World → Prop} {L L' : List Res}
theorem wpl_alloc (hs : St w0 w L) (hgd : o.guard = none) (ty : TypeId) (ho : o.op = .alloc ty) (z : Value) (hz : (zeroValue ty).run P w = .ok z w)
    (h : ∀ g w', St w0 w' (.blk g ty z.cells :: L) → wpList P ops Q rest (a.put o.dst (.pointer (some ⟨g, 0, none⟩))) w') : wpList P ops Q (o :: rest) a w :=
  wpList_plain hgd fun _ hK => by
    unfold Oper.wp execOp
    simp only [ho, Instr.alloc, Sem.run_bind, Sem.run_pure, hz, Result.andThen_ok, newVar, newRow]
    exact hK _ _ (h w.heap.size _ (hs.alloc ty z.cells))
theorem wpl_box (hs : St w0 w L) (hgd : o.guard = none) (ty : TypeId) (x : Operand) (ho : o.op = .box ty x) (v : Value) (hx : a.eval x = v)
    (h : ∀ g w', St w0 w' (.blk g ty v.cells :: L) → wpList P ops Q rest (a.put o.dst (.pointer (some ⟨g, 0, none⟩))) w') : wpList P ops Q (o :: rest) a w :=
  wpList_plain hgd fun _ hK => by
    unfold Oper.wp execOp
    simp only [ho, hx, Instr.box, Sem.run_bind, Sem.run_pure, newVar, newRow]
    exact hK _ _ (h w.heap.size _ (hs.alloc ty v.cells))
/-- A region that draws and only reads. -/
theorem reg_still {id : Nat} {l : List Oper} (hs : St w0 w L) (hm : P.follows .mixedOrders = true) (hB : Region.lexB .any l.toArray = true)
    (h : ∀ w', St w0 w' L → wpStill P l.toArray w' (fun a' => Q .normal a' w') l a) : (Code.region id l.toArray true).wp P Q a w :=
  wp_region_still_lit hm hB (h w.drew hs.drew)
/-- A region that draws, whose first n operations only read; the others come behind them, one by one. -/
theorem reg_tail {id : Nat} {l : List Oper} (hs : St w0 w L) (n : Nat) (hm : P.follows .mixedOrders = true) (hB : Region.lexTailB .any l.toArray n = true)
    (h : ∀ w', St w0 w' L → wpStill P l.toArray w' (fun a' => wpList P l.toArray Q (l.drop n) a' w') (l.take n) a) : (Code.region id l.toArray true).wp P Q a w :=
  wp_region_still_tail n hm hB (h w.drew hs.drew)
theorem wpl_allocRow (hs : St w0 w L) (hgd : o.guard = none) (ty : TypeId) (ho : o.op = .alloc ty) (zs : Array Value) (hz : (zeroValue ty).run P w = .ok (.agg zs) w)
    (h : ∀ g w', St w0 w' (.blk g ty zs :: L) → wpList P ops Q rest (a.put o.dst (.pointer (some ⟨g, 0, none⟩))) w') : wpList P ops Q (o :: rest) a w := wpl_alloc hs hgd ty ho (.agg zs) hz h
theorem wpl_boxRow (hs : St w0 w L) (hgd : o.guard = none) (ty : TypeId) (x : Operand) (ho : o.op = .box ty x) (cs : Array Value) (hx : a.eval x = .agg cs)
    (h : ∀ g w', St w0 w' (.blk g ty cs :: L) → wpList P ops Q rest (a.put o.dst (.pointer (some ⟨g, 0, none⟩))) w') : wpList P ops Q (o :: rest) a w := wpl_box hs hgd ty x ho (.agg cs) hx h
theorem wpl_loadRow (hs : St w0 w L) (hgd : o.guard = none) (ty : TypeId) (x : Operand) (ho : o.op = .load ty x) (g : Nat) (hx : a.eval x = .pointer (some ⟨g, 0, none⟩))
    (t : TypeId) (cs : Array Value) (hm : Has (Res.blk g t cs) L) {n : Nat} (hr : RowTy P ty n) (hn : cs.size = n) (h : wpList P ops Q rest (a.put o.dst (.agg cs)) w) : wpList P ops Q (o :: rest) a w := by
  obtain ⟨⟨d, hu, hd⟩, hi⟩ := hr
  exact wpList_load_row hgd ty x ho g hx t cs (0, 0) d (hs.row hm) hu (by cases d <;> simp_all) (by rw [hi, hn]) h
theorem wpl_storeRow (hs : St w0 w L) (hgd : o.guard = none) (ty : TypeId) (x y : Operand) (ho : o.op = .store ty x y) (g : Nat) (cs' : Array Value) (hx : a.eval x = .pointer (some ⟨g, 0, none⟩)) (hy : a.eval y = .agg cs')
    (t : TypeId) (cs : Array Value) (hu : Upd (.blk g t cs) (.blk g t cs') L L') {n : Nat} (hr : RowTy P ty n) (hn : cs'.size = n) (hsz : cs.size = n) (h1 : cs'.all (·.oneCell') = true)
    (h : ∀ w', St w0 w' L' → wpList P ops Q rest (a.put o.dst undef) w') : wpList P ops Q (o :: rest) a w :=
  wpList_store_row hgd ty x y ho g cs' hx hy t cs (hs.row hu.has) (by rw [hr.2, hn]) (by rw [hsz, hn]) h1 (h _ (hs.setRow hu))
theorem wpl_store1 (hs : St w0 w L) (hgd : o.guard = none) (ty : TypeId) (x y : Operand) (ho : o.op = .store ty x y) (g i : Nat) (v : Value) (hx : a.eval x = .pointer (some ⟨g, i, none⟩)) (hy : a.eval y = v)
    (h1 : v.oneCell' = true) (t : TypeId) (cs : Array Value) (hu : Upd (.blk g t cs) (.blk g t (cs.setIfInBounds i v)) L L') (hi : i < cs.size) (hz : (P.info? ty).map (·.size) = some 1)
    (h : ∀ w', St w0 w' L' → wpList P ops Q rest (a.put o.dst undef) w') : wpList P ops Q (o :: rest) a w :=
  wpList_plain hgd fun _ hK => by
    have hc := hs.cell hu.has i
    have hf := hs.free hu.has i
    have hcells : v.cells = #[v] := by cases v <;> first | rfl | simp [Value.oneCell'] at h1
    have hrun : (Instr.storeAt ty (.pointer (some ⟨g, i, none⟩)) v).run P w = .ok () (w.setCell ⟨g, i, none⟩ v) := by
      cases hq : P.info? ty with
      | none => simp [hq] at hz
      | some inf =>
        have hsz : inf.size = 1 := by simpa [hq] using hz
        have hst : (store ⟨g, i, none⟩ v).run P w = .ok () (w.setCell ⟨g, i, none⟩ v) := by
          rw [run_store P w _ v _ h1, hc, Array.getElem?_eq_getElem hi]
          simp [hf]
        simp only [Instr.storeAt, Instr.sureAddr, storeVar, Sem.run_bind, Sem.run_pure, Result.andThen_ok, sizeOf, typeInfo, hcells]
        simp [hq, hsz, storeCells, Addr.add, hst]
    unfold Oper.wp execOp
    simp only [ho, hx, hy, Sem.run_bind, hrun, Result.andThen_ok]
    exact hK _ _ (h _ (hs.setCell hu))
theorem wpl_storeInt (hs : St w0 w L) (hgd : o.guard = none) (ty : TypeId) (x y : Operand) (ho : o.op = .store ty x y) (g i : Nat) (k : IntKind) (n : Nat) (hx : a.eval x = .pointer (some ⟨g, i, none⟩)) (hy : a.eval y = .int k (n : Nat))
    (t : TypeId) (l : List Nat) (hu : Upd (.blk g t (ints k l)) (.blk g t (ints k (l.set i n))) L L') (hi : i < l.length) (hz : (P.info? ty).map (·.size) = some 1)
    (h : ∀ w', St w0 w' L' → wpList P ops Q rest (a.put o.dst undef) w') : wpList P ops Q (o :: rest) a w :=
  wpl_store1 hs hgd ty x y ho g i (.int k n) hx hy rfl t (ints k l) (by rw [ints_set]; exact hu) (by rw [ints_size]; exact hi) hz h
theorem wpl_indexInt (hgd : o.guard = none) (ty : TypeId) (x ix : Operand) (ho : o.op = .index ty x ix) (k ki : IntKind) (l : List Nat) (i : Nat) (hx : a.eval x = .agg (ints k l)) (hi : a.eval ix = .int ki (i : Nat))
    {e n : Nat} (hu : P.underlying ty = some (.array n e)) (he : P.underlying e = some (.int k)) (hz : (P.info? e).map (·.size) = some 1) (hn : l.length = n) (hin : i < n)
    (h : wpList P ops Q rest (a.put o.dst (.int k (at_ l i : Nat))) w) : wpList P ops Q (o :: rest) a w :=
  wpList_plain hgd fun _ hK => by
    have hlt : ((i : Int)) < ((n : Nat) : Int) := by omega
    have hrun : (Instr.index ty (.agg (ints k l)) (.int ki (i : Nat))).run P w = .ok (.int k (at_ l i : Nat)) w := by
      cases hq : P.info? e with
      | none => simp [hq] at hz
      | some inf =>
        have hsz : inf.size = 1 := by simpa [hq] using hz
        have hg := ints_get (k := k) (l := l) (i := i) (by omega)
        simp [Instr.index, asIntOf, run_underlying hu, run_underlying he, part, isAgg, sizeOf, typeInfo, hq, hsz, hg]
        intro hh
        omega
    unfold Oper.wp execOp
    simp only [ho, hx, hi, Sem.run_bind, hrun, Result.andThen_ok]
    exact hK _ _ h
theorem wpl_build (hgd : o.guard = none) (t : TypeId) (parts : Array (Nat × Operand)) (ho : o.op = .build t parts) (cs : Array Value)
    (hb : P.built t (parts.map fun (i, x) => (i, a.eval x)).toList = some cs) (h : wpList P ops Q rest (a.put o.dst (.agg cs)) w) : wpList P ops Q (o :: rest) a w :=
  wpList_build hgd t parts ho (by rw [hb]; rfl) (by rw [hb]; exact h)
theorem ret_row {fn : Func} {R : Ending → World → Prop} (hs : St w0 w L) {p : Tmp} {ty : TypeId} (h : fn.results = #[.cell p ty]) (g : Nat) (t : TypeId) (cs : Array Value) (hp : a.tmps.getD p undef = .pointer (some ⟨g, 0, none⟩))
    (hm : Has (Res.blk g t cs) L) {n : Nat} (hr : RowTy P ty n) (hn : cs.size = n) (hdf : a.defers = []) (hR : R (.returned (.agg cs)) w) : bodyPost P fn R .ret a w := by
  obtain ⟨⟨d, hu, hd⟩, hi⟩ := hr
  exact bodyPost_ret (results_cell_row h _ _ g t cs (0, 0) d hp (hs.row hm) hu (by cases d <;> simp_all) (by rw [hi, hn])) hdf hR
end
theorem sizeI {k : IntKind} {l : List Nat} {n : Nat} (hl : l.length = n) : (ints k l).size = n := by rw [ints_size, hl]
end Go.Proofs.Ytleabipplchbpaa
