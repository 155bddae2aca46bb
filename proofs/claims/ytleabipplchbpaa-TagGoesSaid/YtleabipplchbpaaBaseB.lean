/-
  Own words for memory, part 2: slices that are read ('Rd'), slices that are appended to, literals of slices.
-/
import Derived.Test.YtleabipplchbpaaBase
namespace Go.Proofs.Ytleabipplchbpaa
open Go.RowKit

/-- The slice (address A, n elements of 'size' cells) reads as the cells xs. -/
def Rd (w : World) (size : Nat) (A : Option Addr) (n : Nat) (xs : List Value) : Prop :=
  xs.length = n * size ∧ ∀ j u, xs[j]? = some u → ∃ ad, A = some ad ∧ w.cell? (ad.add j) = some u
def cellsI (k : IntKind) (l : List Nat) : List Value := l.map fun n : Nat => Value.int k n
theorem cellsI_len (k : IntKind) (l : List Nat) : (cellsI k l).length = l.length := by simp [cellsI]
theorem cellsI_append (k : IntKind) (l m : List Nat) : cellsI k (l ++ m) = cellsI k l ++ cellsI k m := by simp [cellsI]
theorem cellsI_one (k : IntKind) (l : List Nat) : ∀ u ∈ cellsI k l, u.oneCell' = true := by
  intro u hu; obtain ⟨n, _, rfl⟩ := List.mem_map.1 hu; rfl
theorem cellsI_get {k : IntKind} {l : List Nat} {i : Nat} (hi : i < l.length) : (cellsI k l)[i]? = some (.int k (at_ l i : Nat)) := by
  simp [cellsI, at_, List.getD, List.getElem?_eq_getElem hi]
theorem ints_toList (k : IntKind) (l : List Nat) : (ints k l).toList = cellsI k l := by simp [ints, cellsI]
abbrev RdI (w : World) (k : IntKind) (A : Option Addr) (n : Nat) (l : List Nat) : Prop := Rd w 1 A n (cellsI k l)
section
variable {w w' w0 : World} {size n : Nat} {A : Option Addr} {xs : List Value} {L L' : List Res}
theorem Rd.call (h : Rd w size A n xs) (hb : Below w.heap.size w w') : Rd w' size A n xs :=
  ⟨h.1, fun j u hu => by
    obtain ⟨ad, e, hc⟩ := h.2 j u hu
    exact ⟨ad, e, (hb.cell (block_lt_of_cell hc)).trans hc⟩⟩
theorem Rd.st (h : Rd w0 size A n xs) (hs : St w0 w L) : Rd w size A n xs := h.call hs.below
theorem Rd.nil (w : World) (size : Nat) (A : Option Addr) : Rd w size A 0 [] := ⟨by simp, fun _ _ h => by simp at h⟩
theorem Rd.of_own {base : Nat} {e : TypeId} {c : Nat} (h : w.ownsRow base e size (.slice A n c) n xs) : Rd w size A n xs := by
  refine ⟨h.1, fun j u hu => ?_⟩
  rcases h.2 with ⟨hv, hn⟩ | ⟨g, cap, cur, hv, hb, hh, hnc, hcm, hcs, ht⟩
  · have : xs = [] := List.eq_nil_of_length_eq_zero (by rw [h.1, hn, Nat.zero_mul])
    subst this; simp at hu
  · have hA : A = some ⟨g, 0, none⟩ := by injection hv
    exact ⟨_, hA, World.ownsRow.cells h (by rw [hv]; rfl) j u hu⟩
/-- A part of a block of the call's own. -/
theorem Rd.of_blk (hs : St w0 w L) {g o : Nat} {t : TypeId} {cs : Array Value} (hm : Has (Res.blk g t cs) L) (hx : xs.length = n * size) (h : ∀ j u, xs[j]? = some u → cs[o + j]? = some u) : Rd w size (some ⟨g, o, none⟩) n xs :=
  ⟨hx, fun j u hu => ⟨_, rfl, by
    rw [show (⟨g, o, none⟩ : Addr).add j = ⟨g, o + j, none⟩ from by unfold Addr.add; split <;> simp_all, hs.cell hm]
    exact h j u hu⟩⟩
theorem Rd.of_ints (hs : St w0 w L) {g : Nat} {t : TypeId} {k : IntKind} {l : List Nat} (hm : Has (Res.blk g t (ints k l)) L) (hn : l.length = n) : RdI w k (some ⟨g, 0, none⟩) n l :=
  Rd.of_blk hs hm (by rw [cellsI_len, hn, Nat.mul_one]) fun j u hu => by
    rw [Nat.zero_add, ← hu, ← ints_toList]; simp
end

/-- A slice of the call's own, of numbers. -/
def numsR (A : Option Addr) (n c : Nat) (e : TypeId) (k : IntKind) (l : List Nat) : Res := .own (.slice A n c) e 1 n (cellsI k l)
/-- A slice of the call's own, of elements of 'size' cells. -/
def rowR (A : Option Addr) (n c : Nat) (e : TypeId) (size : Nat) (xs : List Value) : Res := .own (.slice A n c) e size n xs
/-- An element type: so many cells, so many bytes. -/
def ElTy (P : Program) (e : TypeId) (size bytes : Nat) : Prop :=
  ∃ i z, P.info? e = some i ∧ i.zero = some z ∧ i.size = size ∧ i.bytes = bytes ∧ z.cells.size = size ∧ 0 < size
section
variable {P : Program} {ops : Array Oper} {rest : List Oper} {o : Oper} {a : Act} {w w0 : World} {Q : Exit → Act → World → Prop} {L : List Res}
theorem St.has_own (hs : St w0 w L) {A : Option Addr} {n c : Nat} {e : TypeId} {size : Nat} {xs : List Value} (hm : Has (rowR A n c e size xs) L) : w.ownsRow w0.heap.size e size (.slice A n c) n xs := hs.ok _ hm.mem
theorem St.has_nums (hs : St w0 w L) {A : Option Addr} {n c : Nat} {e : TypeId} {k : IntKind} {l : List Nat} (hm : Has (numsR A n c e k l) L) : w.ownsRow w0.heap.size e 1 (.slice A n c) n (cellsI k l) := hs.ok _ hm.mem
theorem St.len_nums (hs : St w0 w L) {A : Option Addr} {n c : Nat} {e : TypeId} {k : IntKind} {l : List Nat} (hm : Has (numsR A n c e k l) L) : l.length = n := by
  have := (hs.has_nums hm).1; rw [cellsI_len] at this; omega
theorem St.nilNums (hs : St w0 w L) (e : TypeId) (k : IntKind) : St w0 w (numsR none 0 0 e k [] :: L) :=
  ⟨hs.below, fun r hr => by
    rcases List.mem_cons.1 hr with rfl | h
    · exact World.ownsRow_nil _ _ _ _
    · exact hs.ok r h, List.Pairwise.cons (fun s _ g hg => by simp [numsR, Res.block, Value.ownBlock] at hg) hs.apart⟩
theorem St.nilRow (hs : St w0 w L) (e : TypeId) (size : Nat) : St w0 w (rowR none 0 0 e size [] :: L) :=
  ⟨hs.below, fun r hr => by
    rcases List.mem_cons.1 hr with rfl | h
    · exact World.ownsRow_nil _ _ _ _
    · exact hs.ok r h, List.Pairwise.cons (fun s _ g hg => by simp [rowR, Res.block, Value.ownBlock] at hg) hs.apart⟩
theorem run_append_none (w : World) (base : Nat) (t ty e : TypeId) (i : TypeInfo) (size : Nat) (ht : P.underlying t = some (.slice e)) (hi : P.info? e = some i)
    (v : Value) (n : Nat) (xs : List Value) (hown : w.ownsRow base e size v n xs) (c : Nat) : (Builtin.append_ #[t, t] ty #[v, .slice none 0 c]).run P w = .ok v w := by
  rcases hown.2 with ⟨rfl, rfl⟩ | ⟨g, cap, cur, rfl, _, _, hnc, _⟩
  · simp [Builtin.append_, run_underlying ht, sizeOf, typeInfo, hi, Builtin.lenOf, Builtin.firstCells]
  · simp [Builtin.append_, run_underlying ht, sizeOf, typeInfo, hi, Builtin.lenOf, Builtin.firstCells, hnc, storeCells]
theorem own_form {base : Nat} {e : TypeId} {size n : Nat} {v : Value} {xs : List Value} (h : w.ownsRow base e size v n xs) : ∃ A c, v = .slice A n c ∧ (A = none → n = 0 ∧ c = 0) ∧ n ≤ c := by
  rcases h.2 with ⟨rfl, rfl⟩ | ⟨g, cap, cur, rfl, _, _, hnc, _⟩
  · exact ⟨none, 0, rfl, fun _ => ⟨rfl, rfl⟩, Nat.le_refl _⟩
  · exact ⟨_, cap, rfl, (fun h => by cases h), hnc⟩
theorem run_append_rd (w : World) (base : Nat) (t ty e : TypeId) {size bytes : Nat} (ht : P.underlying t = some (.slice e)) (he : ElTy P e size bytes)
    (v : Value) (n : Nat) (xs : List Value) (hown : w.ownsRow base e size v n xs) (B : Option Addr) (m c : Nat) (news : List Value) (hr : Rd w size B m news) (h1 : ∀ u ∈ news, u.oneCell' = true)
    (h63 : n + m ≤ maxLen) (hbytes : (n + m) * bytes ≤ 140737488355328) (hbase : base ≤ w.heap.size) :
    ∃ v' w', (Builtin.append_ #[t, t] ty #[v, .slice B m c]).run P w = .ok v' w' ∧ w'.ownsRow base e size v' (n + m) (xs ++ news) ∧ w.grownBy w' v.ownBlock ∧
      (v'.ownBlock = v.ownBlock ∨ v'.ownBlock = some w.heap.size) := by
  obtain ⟨i, z, hi, hz, hsize, hby, hzs, hsz⟩ := he
  rcases B with _ | ad
  · have hn : news = [] := by
      cases news with
      | nil => rfl
      | cons u us => obtain ⟨_, h, _⟩ := hr.2 0 u rfl; cases h
    subst hn
    have hm : m = 0 := by
      have h0 : m * size = 0 := by simpa using hr.1.symm
      rcases Nat.mul_eq_zero.1 h0 with h | h
      · exact h
      · omega
    subst hm
    exact ⟨v, w, run_append_none w base t ty e i size ht hi v n xs hown c, by simpa using hown, World.grownBy.refl w _, .inl rfl⟩
  · obtain ⟨v', w', hrun, h2, h3, _, h5⟩ := run_append_own_at (P := P) w base t ty e i z size bytes ht hi hz hsize hby hzs hsz v n xs hown ad m c news hr.1
      (fun j u hu => by obtain ⟨_, h, hc⟩ := hr.2 j u hu; injection h with h; subst h; exact hc) h1 h63 hbytes hbase
    exact ⟨v', w', hrun, h2, h3, h5⟩
theorem wpl_append (hs : St w0 w L) (hgd : o.guard = none) (s x : Operand) (t : TypeId) (ho : o.op = .call { callee := .builtin .append, args := #[s, x], argTypes := #[t, t] })
    {A B : Option Addr} {n c m cb e size bytes : Nat} {xs news : List Value} {L' : Option Addr → Nat → List Res} (hsv : a.eval s = .slice A n c) (hxv : a.eval x = .slice B m cb)
    (hu : ∀ A' c', Upd (rowR A n c e size xs) (rowR A' (n + m) c' e size (xs ++ news)) L (L' A' c')) (hr : Rd w size B m news) (h1 : ∀ u ∈ news, u.oneCell' = true)
    (ht : P.underlying t = some (.slice e)) (he : ElTy P e size bytes) (h63 : n + m ≤ maxLen) (hbytes : (n + m) * bytes ≤ 140737488355328)
    (h : ∀ A' c' w', n + m ≤ c' → St w0 w' (L' A' c') → wpList P ops Q rest (a.put o.dst (.slice A' (n + m) c')) w') : wpList P ops Q (o :: rest) a w :=
  wpList_plain hgd fun _ hK => by
    have hown := hs.has_own (hu none 0).has
    obtain ⟨v', w', hrun, h2, h3, h4⟩ := run_append_rd (P := P) w w0.heap.size t o.type e ht he (.slice A n c) n xs hown B m cb news hr h1 h63 hbytes hs.size
    obtain ⟨A', c', rfl, _, hc'⟩ := own_form h2
    unfold Oper.wp execOp
    simp only [ho, resolve, invoke, builtin, Sem.run_bind, Sem.run_pure, Result.andThen_ok, List.map_toArray, List.map_cons, List.map_nil, hsv, hxv, hrun]
    exact hK _ _ (h A' c' w' hc' (hs.upd (hu A' c') h3 h2 (h4.imp id fun e g hg => by
      have hg' : (Value.slice A' (n + m) c').ownBlock = some g := hg
      rw [e] at hg'; injection hg' with hg'; omega)))
theorem wpl_appendI (hs : St w0 w L) (hgd : o.guard = none) (s x : Operand) (t : TypeId) (ho : o.op = .call { callee := .builtin .append, args := #[s, x], argTypes := #[t, t] })
    {A B : Option Addr} {n c m cb e bytes : Nat} {k : IntKind} {l l' : List Nat} {L' : Option Addr → Nat → List Res} (hsv : a.eval s = .slice A n c) (hxv : a.eval x = .slice B m cb)
    (hu : ∀ A' c', Upd (numsR A n c e k l) (numsR A' (n + m) c' e k (l ++ l')) L (L' A' c')) (hr : RdI w k B m l')
    (ht : P.underlying t = some (.slice e)) (he : ElTy P e 1 bytes) (h63 : n + m ≤ maxLen) (hbytes : (n + m) * bytes ≤ 140737488355328)
    (h : ∀ A' c' w', n + m ≤ c' → St w0 w' (L' A' c') → wpList P ops Q rest (a.put o.dst (.slice A' (n + m) c')) w') : wpList P ops Q (o :: rest) a w :=
  wpl_append hs hgd s x t ho hsv hxv (fun A' c' => by have := hu A' c'; rwa [numsR, numsR, cellsI_append] at this) hr (cellsI_one _ _) ht he h63 hbytes h
/-- A literal of a slice. -/
theorem wpl_slice (hs : St w0 w L) (hgd : o.guard = none) (t : TypeId) (n : Nat) (parts : Array (Nat × Operand)) (ho : o.op = .buildSlice t n parts) (e : TypeId) (cs : Array Value)
    (hb : ∀ w, (Instr.buildSlice t n (parts.map fun (i, x) => (i, a.eval x))).run P w = .ok (.slice (some ⟨w.heap.size, 0, none⟩) n n) (w.alloc (.cells cs e)))
    (h : ∀ g w', St w0 w' (.blk g e cs :: L) → wpList P ops Q rest (a.put o.dst (.slice (some ⟨g, 0, none⟩) n n)) w') : wpList P ops Q (o :: rest) a w :=
  wpList_plain hgd fun _ hK => by
    unfold Oper.wp execOp
    simp only [ho, Sem.run_bind, hb, Result.andThen_ok]
    exact hK _ _ (h w.heap.size _ (hs.alloc e cs))
/-- A literal of one element. -/
theorem wpl_slice1 (hs : St w0 w L) (hgd : o.guard = none) (t : TypeId) (x : Operand) (ho : o.op = .buildSlice t 1 #[(0, x)]) (e : TypeId) (v : Value) (hx : a.eval x = v)
    (hb : ∀ w, (Instr.buildSlice t 1 #[(0, v)]).run P w = .ok (.slice (some ⟨w.heap.size, 0, none⟩) 1 1) (w.alloc (.cells v.cells e)))
    (h : ∀ g w', St w0 w' (.blk g e v.cells :: L) → wpList P ops Q rest (a.put o.dst (.slice (some ⟨g, 0, none⟩) 1 1)) w') : wpList P ops Q (o :: rest) a w :=
  wpList_plain hgd fun _ hK => by
    unfold Oper.wp execOp
    simp only [ho, Sem.run_bind, List.map_toArray, List.map_cons, List.map_nil, hx, hb, Result.andThen_ok]
    exact hK _ _ (h w.heap.size _ (hs.alloc e v.cells))
/-- The same, as a slice of the call's own that may be appended to. -/
theorem wpl_sliceOwn1 (hs : St w0 w L) (hgd : o.guard = none) (t : TypeId) (x : Operand) (ho : o.op = .buildSlice t 1 #[(0, x)]) (e : TypeId) (v : Value) (hx : a.eval x = v)
    (hb : ∀ w, (Instr.buildSlice t 1 #[(0, v)]).run P w = .ok (.slice (some ⟨w.heap.size, 0, none⟩) 1 1) (w.alloc (.cells v.cells e)))
    (h : ∀ g w', St w0 w' (rowR (some ⟨g, 0, none⟩) 1 1 e v.cells.size v.cells.toList :: L) → wpList P ops Q rest (a.put o.dst (.slice (some ⟨g, 0, none⟩) 1 1)) w') : wpList P ops Q (o :: rest) a w :=
  wpList_plain hgd fun _ hK => by
    unfold Oper.wp execOp
    simp only [ho, Sem.run_bind, List.map_toArray, List.map_cons, List.map_nil, hx, hb, Result.andThen_ok]
    exact hK _ _ (h w.heap.size _ (hs.push ((Below.refl _ _).alloc (Nat.le_refl _) _) (World.ownsRow_lit w v.cells 1 (Nat.le_refl _) (by decide) (by omega))))
/-- The same, as a slice of the call's own that may be appended to. -/
theorem wpl_sliceOwn (hs : St w0 w L) (hgd : o.guard = none) (t : TypeId) (n : Nat) (parts : Array (Nat × Operand)) (ho : o.op = .buildSlice t n parts) (e : TypeId) (size : Nat) (cs : Array Value) (hsz : cs.size = n * size) (hm : n ≤ maxLen)
    (hb : ∀ w, (Instr.buildSlice t n (parts.map fun (i, x) => (i, a.eval x))).run P w = .ok (.slice (some ⟨w.heap.size, 0, none⟩) n n) (w.alloc (.cells cs e)))
    (h : ∀ g w', St w0 w' (rowR (some ⟨g, 0, none⟩) n n e size cs.toList :: L) → wpList P ops Q rest (a.put o.dst (.slice (some ⟨g, 0, none⟩) n n)) w') : wpList P ops Q (o :: rest) a w :=
  wpList_plain hgd fun _ hK => by
    unfold Oper.wp execOp
    simp only [ho, Sem.run_bind, hb, Result.andThen_ok]
    exact hK _ _ (h w.heap.size _ (hs.push ((Below.refl _ _).alloc (Nat.le_refl _) _) (World.ownsRow_lit w cs n (Nat.le_refl _) hm hsz)))
/-- copy into a block of the call's own. -/
theorem wpl_copyI (hs : St w0 w L) (hgd : o.guard = none) (d s : Operand) (dT sT : TypeId) (ho : o.op = .call { callee := .builtin .copy, args := #[d, s], argTypes := #[dT, sT] })
    {g off N cap m cb e : Nat} {t : TypeId} {B : Option Addr} {k : IntKind} {l l' : List Nat} {L' : List Res} (hdv : a.eval d = .slice (some ⟨g, off, none⟩) N cap) (hsv : a.eval s = .slice B m cb)
    (hu : Upd (.blk g t (ints k l)) (.blk g t (ints k (l.take off ++ (l' ++ l.drop (off + m))))) L L') (hr : RdI w k B m l') (hmN : m ≤ N) (hfit : off + m ≤ l.length)
    (ht : P.underlying dT = some (.slice e)) (hz : (P.info? e).map (·.size) = some 1)
    (h : ∀ w', St w0 w' L' → wpList P ops Q rest (a.put o.dst (goInt m)) w') : wpList P ops Q (o :: rest) a w := by
  have hl : l'.length = m := by have := hr.1; rw [cellsI_len] at this; omega
  have hg := hs.row hu.has
  rcases Nat.eq_zero_or_pos m with h0 | h0
  · subst h0
    obtain rfl : l' = [] := List.eq_nil_of_length_eq_zero hl
    refine wpList_copy_nothing hgd d s dT sT ho e ht hz _ _ _ _ _ _ hdv hsv (by simp) ?_
    have e1 : l.take off ++ ([] ++ l.drop (off + 0)) = l := by simp
    rw [e1] at hu
    have hs' := hs.setRow hu
    have : w.setRow g (ints k l) = w := by
      cases hw : w with
      | mk heap tape drawn os output =>
        subst hw
        unfold World.setRow
        congr 1
        apply Array.ext
        · simp
        · intro i h1 h2
          simp only [Array.getElem_modify]
          split
          · rename_i hgi; subst hgi
            have := (Array.getElem?_eq_some_iff.1 hg).2
            simp only at this
            rw [this]
          · rfl
    rw [this] at hs'
    exact h w hs'
  · obtain ⟨ad, rfl⟩ : ∃ ad, B = some ad := by
      obtain ⟨ad, e, _⟩ := hr.2 0 _ (cellsI_get (by omega))
      exact ⟨ad, e⟩
    refine wpList_copy_own hgd d s dT sT ho e ht hz g off N cap ad m cb hdv hsv (ints k l) t hg (cellsI k l') (by rw [cellsI_len, hl]; exact (Nat.min_eq_left hmN).symm)
      (fun j u hu => by obtain ⟨ad', e, hc⟩ := hr.2 j u hu; injection e with e; subst e; exact hc) (by rw [cellsI_len, hl, ints_size]; exact hfit) (cellsI_one _ _) ?_
    have e2 : ((ints k l).toList.take off ++ (cellsI k l' ++ (ints k l).toList.drop (off + (cellsI k l').length))).toArray = ints k (l.take off ++ (l' ++ l.drop (off + m))) := by
      rw [ints_toList, cellsI_len, hl]
      simp [ints, cellsI]
    rw [e2, cellsI_len, hl]
    exact h _ (hs.setRow hu)
/-- copy over a whole block of the call's own. -/
theorem wpl_copyAll (hs : St w0 w L) (hgd : o.guard = none) (d s : Operand) (dT sT : TypeId) (ho : o.op = .call { callee := .builtin .copy, args := #[d, s], argTypes := #[dT, sT] })
    {g cap m cb e : Nat} {t : TypeId} {B : Option Addr} {k : IntKind} {l l' : List Nat} {L' : List Res} (hdv : a.eval d = .slice (some ⟨g, 0, none⟩) m cap) (hsv : a.eval s = .slice B m cb)
    (hu : Upd (.blk g t (ints k l)) (.blk g t (ints k l')) L L') (hr : RdI w k B m l') (hl : l.length = m)
    (ht : P.underlying dT = some (.slice e)) (hz : (P.info? e).map (·.size) = some 1)
    (h : ∀ w', St w0 w' L' → wpList P ops Q rest (a.put o.dst (goInt m)) w') : wpList P ops Q (o :: rest) a w :=
  wpl_copyI (l := l) (l' := l') hs hgd d s dT sT ho hdv hsv (by
    rw [Nat.zero_add, List.drop_of_length_le (by omega), List.append_nil, List.take_zero, List.nil_append]; exact hu) hr (Nat.le_refl _) (by omega) ht hz h
end
theorem own_some {w : World} {base : Nat} {e : TypeId} {size n c : Nat} {A : Option Addr} {xs : List Value} (h : w.ownsRow base e size (.slice A n c) n xs) (h0 : 0 < n) : ∃ g, A = some ⟨g, 0, none⟩ ∧ n ≤ c := by
  rcases h.2 with ⟨_, hn⟩ | ⟨g, cap, cur, hv, _, _, hnc, _⟩
  · omega
  · injection hv with h1 _ h3
    exact ⟨g, h1, by omega⟩
/-- A part of what is read. -/
theorem Rd.part {w : World} {k : IntKind} {g off n lo m : Nat} {l : List Nat} (h : RdI w k (some ⟨g, off, none⟩) n l) (hm : lo + m ≤ n) : RdI w k (some ⟨g, off + lo, none⟩) m ((l.drop lo).take m) := by
  have hl : l.length = n := by have := h.1; rw [cellsI_len] at this; omega
  refine ⟨by rw [cellsI_len, List.length_take, List.length_drop]; omega, fun j u hu => ⟨_, rfl, ?_⟩⟩
  have hj : j < m := by
    have := (List.getElem?_eq_some_iff.1 hu).1
    rw [cellsI_len, List.length_take] at this; omega
  have hu' : (cellsI k l)[lo + j]? = some u := by
    rw [← hu, cellsI, cellsI, List.getElem?_map, List.getElem?_map, List.getElem?_take, if_pos hj, List.getElem?_drop]
  obtain ⟨ad, e, hc⟩ := h.2 (lo + j) u hu'
  injection e with e
  subst e
  have e1 : (⟨g, off, none⟩ : Addr).add (lo + j) = ⟨g, off + (lo + j), none⟩ := by unfold Addr.add; split <;> simp_all
  have e2 : (⟨g, off + lo, none⟩ : Addr).add j = ⟨g, off + lo + j, none⟩ := by unfold Addr.add; split <;> simp_all
  rw [e1] at hc
  rw [e2, Nat.add_assoc]
  exact hc
/-- A slice of slices of bytes: what the lists ps say. -/
def RdP (w : World) (A : Option Addr) (n : Nat) (ps : List (List Nat)) : Prop :=
  ps.length = n ∧ ∀ i l, ps[i]? = some l → ∃ ad B c, A = some ad ∧ w.cell? (ad.add i) = some (.slice B l.length c) ∧ RdI w .u8 B l.length l
theorem RdP.call {w w' : World} {A : Option Addr} {n : Nat} {ps : List (List Nat)} (h : RdP w A n ps) (hb : Below w.heap.size w w') : RdP w' A n ps :=
  ⟨h.1, fun i l hl => by
    obtain ⟨ad, B, c, e, hc, hr⟩ := h.2 i l hl
    exact ⟨ad, B, c, e, (hb.cell (block_lt_of_cell hc)).trans hc, hr.call hb⟩⟩
theorem RdP.st {w0 w : World} {L : List Res} {A : Option Addr} {n : Nat} {ps : List (List Nat)} (h : RdP w0 A n ps) (hs : St w0 w L) : RdP w A n ps := h.call hs.below
end Go.Proofs.Ytleabipplchbpaa
