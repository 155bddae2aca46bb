/-
  Walks over the keyed hash, part 3: slices.Clone, slices.Insert at the head.
-/
import Derived.Test.YtleabipplchbpaaMacB
import Derived.Lib.Overlaps
import Derived.Lib.AppendZerosOnto
import Derived.Laws.Externs
namespace Go.Proofs.Ytleabipplchbpaa
open Go.RowKit
set_option maxRecDepth 100000
section
variable {P : Program} {ops : Array Oper} {rest : List Oper} {o : Oper} {a : Act} {w w0 : World} {Q : Exit → Act → World → Prop} {L L' : List Res}
/-- A slice of the call's own, as a block known whole. -/
theorem St.own_blk (hs : St w0 w L) {g n c : Nat} {e : TypeId} {xs : List Value} (hm : Has (rowR (some ⟨g, 0, none⟩) n c e 1 xs) L) :
    ∃ cur : Array Value, cur.size = c ∧ cur.toList.take n = xs ∧ n ≤ c ∧ c ≤ maxLen ∧ ∀ L', Upd (rowR (some ⟨g, 0, none⟩) n c e 1 xs) (.blk g e cur) L L' → St w0 w L' := by
  have h := hs.has_own hm
  rcases h.2 with ⟨hv, _⟩ | ⟨g', cap, cur, hv, hb, hg, hnc, hmax, hsz, htk⟩
  · cases hv
  · injection hv with h1 _ h3
    injection h1 with h1
    injection h1 with h1
    subst h1 h3
    refine ⟨cur, by omega, by rw [← htk, Nat.mul_one], hnc, hmax, fun L' hu => hs.upd hu (World.grownBy.refl w _) ⟨hb, hg⟩ (.inl rfl)⟩
/-- A block known whole, as a slice that is appended to. -/
theorem St.blk_own (hs : St w0 w L) {g n : Nat} {e : TypeId} {cs : Array Value} {xs : List Value} (hn : n ≤ cs.size) (hmax : cs.size ≤ maxLen) (hx : cs.toList.take n = xs)
    (hu : Upd (.blk g e cs) (rowR (some ⟨g, 0, none⟩) n cs.size e 1 xs) L L') : St w0 w L' := by
  refine hs.upd hu (World.grownBy.refl w _) ⟨?_, .inr ⟨g, cs.size, cs, rfl, (hs.ok _ hu.mem).1, hs.row hu.has, hn, hmax, by omega, by rw [Nat.mul_one]; exact hx⟩⟩ (.inl rfl)
  rw [← hx, List.length_take, Array.length_toList]
  omega
theorem wpl_copyV (hs : St w0 w L) (hgd : o.guard = none) (d s : Operand) (dT sT : TypeId) (ho : o.op = .call { callee := .builtin .copy, args := #[d, s], argTypes := #[dT, sT] })
    {g off N cap m m' cb e : Nat} {t : TypeId} {B : Option Addr} {cs : Array Value} {xs : List Value} (hdv : a.eval d = .slice (some ⟨g, off, none⟩) N cap) (hsv : a.eval s = .slice B m' cb)
    (hu : Upd (.blk g t cs) (.blk g t (cs.toList.take off ++ (xs ++ cs.toList.drop (off + m))).toArray) L L') (hr : Rd w 1 B m xs) (h1 : ∀ u ∈ xs, u.oneCell' = true) (h0 : 0 < m) (hmN : m = Nat.min m' N) (hfit : off + m ≤ cs.size)
    (ht : P.underlying dT = some (.slice e)) (hz : (P.info? e).map (·.size) = some 1)
    (h : ∀ w', St w0 w' L' → wpList P ops Q rest (a.put o.dst (goInt m)) w') : wpList P ops Q (o :: rest) a w := by
  have hl : xs.length = m := by have := hr.1; omega
  have hg := hs.row hu.has
  obtain ⟨ad, rfl⟩ : ∃ ad, B = some ad := by
    obtain ⟨ad, e, _⟩ := hr.2 0 _ (List.getElem?_eq_getElem (by omega))
    exact ⟨ad, e⟩
  refine wpList_copy_own hgd d s dT sT ho e ht hz g off N cap ad m' cb hdv hsv cs t hg xs (by rw [hl]; exact hmN)
    (fun j u hu => by obtain ⟨ad', e, hc⟩ := hr.2 j u hu; injection e with e; subst e; exact hc) (by rw [hl]; exact hfit) h1 ?_
  rw [hl]
  exact h _ (hs.setRow hu)
/-- 'append(s[:0], make(T, k)...)' where there is no room: a new block. -/
theorem wpl_appendZeros (hs : St w0 w L) (hgd : o.guard = none) (s x : Operand) (t tn : TypeId) (ho : o.op = .call { callee := .builtin .append, args := #[s, x], argTypes := #[t, tn] })
    {A : Option Addr} {c k e bytes : Nat} {K : Int} {kq kn : IntKind} (hsv : a.eval s = .slice A 0 c) (hxv : a.eval x = .int kq K) (hK : K = (k : Nat)) (ht : P.underlying t = some (.slice e)) (htn : P.underlying tn = some (.int kn)) (he : ElTy P e 1 bytes)
    (h0 : 0 < k) (hc : c < k) (hm : k ≤ maxLen) (hbig : k * bytes ≤ 140737488355328)
    (h : ∀ g w' cs, k ≤ cs.size → cs.size ≤ maxLen → St w0 w' (.blk g e cs :: L) → wpList P ops Q rest (a.put o.dst (.slice (some ⟨g, 0, none⟩) k cs.size)) w') : wpList P ops Q (o :: rest) a w := by
  subst hK
  obtain ⟨i, z, hi, hz, hsize, hby, hzs, hsz⟩ := he
  have hrun := Lib.run_append_grow_zeros (P := P) w t tn o.type e i z kq kn ht htn hi hz A 0 c [] (by cases A <;> simp [Builtin.firstCells, loadCells, loadCellsFrom]) k h0 (by omega) (by omega) (by unfold maxLen at hm; omega) (by rw [hby]; omega)
    (by rw [hby, Nat.zero_add]; exact growslice_fits hc hbig)
  rw [Nat.zero_add] at hrun
  have hge := grownCap_ge w k c e
  have hle := grownCap_le_maxLen w k c e hm
  have hz2 : ∀ j, (Builtin.zeroCells z.cells j).size = j := fun j => zeroCells_size _ _ (by omega)
  obtain ⟨cs, hcs⟩ : ∃ cs, cs = ([] : List Value).toArray ++ Builtin.zeroCells z.cells k ++ Builtin.zeroCells z.cells (grownCap w k c e - k) := ⟨_, rfl⟩
  have hcz : cs.size = grownCap w k c e := by
    rw [hcs, Array.size_append, Array.size_append, hz2, hz2]
    simp only [List.size_toArray, List.length_nil]
    omega
  rw [← hcs, ← hcz] at hrun
  refine Lib.wpList_append_run w hgd s x t tn ho _ _ hsv hxv _ _ hrun (h _ _ cs (by omega) (by omega) ?_)
  exact (hs.drew).alloc e cs
end
theorem el22 : ElTy Try.prog 22 1 24 := ⟨_, _, rfl, rfl, rfl, rfl, rfl, by decide⟩
theorem info22 : (Try.prog.info? 22).map (·.size) = some 1 := by kernel_rfl
theorem size22 (w : World) : (Go.sizeOf 22).run Try.prog w = .ok 1 w := by kernel_rfl
theorem no_overlap {w0 w : World} {L : List Res} (hs : St w0 w L) {g gv : Nat} {cs cv : Array Value} (h1 : Has (Res.blk gv 22 cv) L) (h2 : Has (Res.blk g 22 cs) L) (hne : gv ≠ g) (h0 : cs.size ≠ 0) (off la ca lb cb : Nat) :
    (callFunc 55 #[.slice (some ⟨gv, 0, none⟩) la ca, .slice (some ⟨g, off, none⟩) lb cb]).run Try.prog w = .ok (.value (.bool false)) w := by
  have e1 := hs.row h1
  have e2 := hs.row h2
  rw [run_callFunc_extern Try.func55 (by kernel_rfl) (by kernel_rfl) (by kernel_rfl) (e := Extern.SlicesOverlaps.overlaps #[23, 23] #[4]) (by kernel_rfl),
    Lib.run_overlaps_apart w 23 4 22 Try.underlying23 1 size22 ⟨gv, 0, none⟩ ⟨g, off, none⟩ la ca lb cb hne 22 22 cv.size cs.size (by simp [World.shape?, e1]) (by simp [World.shape?, e2]) h0 (by simp [World.frozen?, e1]) (by simp [World.frozen?, e1])]
  rfl
/-! ### slices of slices as values -/
/-- The values xs are slices that hold what ps says. -/
def RdV (w : World) (xs : List Value) (ps : List (List Nat)) : Prop :=
  xs.length = ps.length ∧ ∀ (i : Nat) (l : List Nat), ps[i]? = some l → ∃ B c, xs[i]? = some (.slice B l.length c) ∧ RdI w .u8 B l.length l
theorem RdV.call {w w' : World} {xs : List Value} {ps : List (List Nat)} (h : RdV w xs ps) (hb : Below w.heap.size w w') : RdV w' xs ps :=
  ⟨h.1, fun i l hl => by obtain ⟨B, c, e, hr⟩ := h.2 i l hl; exact ⟨B, c, e, hr.call hb⟩⟩
theorem RdV.st {w0 w : World} {L : List Res} {xs : List Value} {ps : List (List Nat)} (h : RdV w0 xs ps) (hs : St w0 w L) : RdV w xs ps := h.call hs.below
theorem RdV.one {w : World} {xs : List Value} {ps : List (List Nat)} (h : RdV w xs ps) : ∀ u ∈ xs, u.oneCell' = true := by
  intro u hu
  obtain ⟨i, hi, rfl⟩ := List.mem_iff_getElem.1 hu
  obtain ⟨B, c, e, _⟩ := h.2 i _ (List.getElem?_eq_getElem (by rw [← h.1]; exact hi))
  rw [List.getElem?_eq_getElem hi] at e
  injection e with e
  rw [e]
  rfl
theorem RdV.cons {w : World} {xs : List Value} {ps : List (List Nat)} (h : RdV w xs ps) {B : Option Addr} {n c : Nat} {l : List Nat} (hr : RdI w .u8 B n l) : RdV w (.slice B n c :: xs) (l :: ps) := by
  refine ⟨by simp [h.1], fun i l' hl => ?_⟩
  match i, hl with
  | 0, hl =>
    cases hl
    have e := hr.len
    subst e
    exact ⟨B, c, rfl, hr⟩
  | i + 1, hl => exact h.2 i l' (by simpa using hl)
theorem RdP.values {w : World} {A : Option Addr} {n : Nat} {ps : List (List Nat)} (h : RdP w A n ps) : ∃ xs, Rd w 1 A n xs ∧ RdV w xs ps := by
  have hv : ∀ i : Fin ps.length, ∃ v : Value, ∃ ad B c, A = some ad ∧ w.cell? (ad.add i) = some v ∧ v = .slice B (ps[i]).length c ∧ RdI w .u8 B (ps[i]).length ps[i] := by
    intro i
    obtain ⟨ad, B, c, e, hc, hr⟩ := h.2 i ps[i] (List.getElem?_eq_getElem i.isLt)
    exact ⟨_, ad, B, c, e, hc, rfl, hr⟩
  let f : Fin ps.length → Value := fun i => (hv i).choose
  have hf : ∀ i : Fin ps.length, ∃ ad B c, A = some ad ∧ w.cell? (ad.add i) = some (f i) ∧ f i = .slice B (ps[i]).length c ∧ RdI w .u8 B (ps[i]).length ps[i] := fun i => (hv i).choose_spec
  refine ⟨List.ofFn f, ⟨by rw [List.length_ofFn, h.1, Nat.mul_one], fun j u hu => ?_⟩, by rw [List.length_ofFn], fun i l hl => ?_⟩
  · obtain ⟨hj, e⟩ := List.getElem?_eq_some_iff.1 hu
    rw [List.length_ofFn] at hj
    rw [List.getElem_ofFn] at e
    obtain ⟨ad, B, c, e1, hc, _, _⟩ := hf ⟨j, hj⟩
    exact ⟨ad, e1, by rw [← e]; exact hc⟩
  · obtain ⟨hi, e⟩ := List.getElem?_eq_some_iff.1 hl
    obtain ⟨ad, B, c, _, _, e2, hr⟩ := hf ⟨i, hi⟩
    subst e
    exact ⟨B, c, by rw [List.getElem?_ofFn, dif_pos hi, e2]; rfl, hr⟩
theorem RdV.parts {w : World} {A : Option Addr} {n : Nat} {xs : List Value} {ps : List (List Nat)} (h : RdV w xs ps) (hr : Rd w 1 A n xs) : RdP w A n ps := by
  refine ⟨by rw [← h.1, hr.1, Nat.mul_one], fun i l hl => ?_⟩
  obtain ⟨B, c, e, h2⟩ := h.2 i l hl
  obtain ⟨ad, e1, hc⟩ := hr.2 i _ e
  exact ⟨ad, B, c, e1, hc, h2⟩
/-- The literal of no element. -/
theorem wpl_slice0 {P : Program} {ops : Array Oper} {rest : List Oper} {o : Oper} {a : Act} {w w0 : World} {Q : Exit → Act → World → Prop} {L : List Res} (hs : St w0 w L) (hgd : o.guard = none) (t : TypeId) (ho : o.op = .buildSlice t 0 #[]) (e : TypeId) (size : Nat)
    (hb : ∀ w, (Instr.buildSlice t 0 #[]).run P w = .ok (.slice (some ⟨w.heap.size, 0, none⟩) 0 0) (w.alloc (.cells #[] e)))
    (h : ∀ g w', St w0 w' (rowR (some ⟨g, 0, none⟩) 0 0 e size [] :: L) → wpList P ops Q rest (a.put o.dst (.slice (some ⟨g, 0, none⟩) 0 0)) w') : wpList P ops Q (o :: rest) a w :=
  wpList_plain hgd fun _ hK => by
    unfold Oper.wp execOp
    simp only [ho, Sem.run_bind, List.map_toArray, List.map_nil, hb, Result.andThen_ok]
    exact hK _ _ (h w.heap.size _ (hs.push ((Below.refl _ _).alloc (Nat.le_refl _) _) (World.ownsRow_lit w #[] 0 (Nat.le_refl _) (Nat.zero_le _) (by simp))))
theorem lit0s (w : World) : (Instr.buildSlice 23 0 #[]).run Try.prog w = .ok (.slice (some ⟨w.heap.size, 0, none⟩) 0 0) (w.alloc (.cells #[] 22)) := by
  simp [go_sem, Instr.buildSlice, Instr.fill, newRow]
theorem eq_nil_some (ad : Addr) (n c : Nat) (w : World) : (binOp .eql 23 (.slice (some ad) n c) (.slice none 0 0)).run Try.prog w = .ok (.bool false) w := by kernel_rfl
theorem eq_nil_none (n c : Nat) (w : World) : (binOp .eql 23 (.slice none n c) (.slice none 0 0)).run Try.prog w = .ok (.bool true) w := by kernel_rfl
set_option maxHeartbeats 1000000 in
theorem clone_of (xs : List Value) (h1 : ∀ u ∈ xs, u.oneCell' = true) (A : Option Addr) (n c : Nat) (hn : n ≤ 100000) (w : World) (hx : Rd w 1 A n xs) :
    Calls Try.prog 44 #[.slice A n c] w fun e w' => ∃ A' c', e = .returned (.slice A' n c') ∧ (rowR A' n c' 22 1 xs).ok w.heap.size w' ∧ Below w.heap.size w w' := by
  rcases A with _ | ad
  · have h0 : n = 0 := by
      rcases Nat.eq_zero_or_pos n with h | h
      · exact h
      · obtain ⟨ad, e, _⟩ := hx.2 0 _ (List.getElem?_eq_getElem (by have := hx.1; omega))
        cases e
    subst h0
    have hxs : xs = [] := List.eq_nil_of_length_eq_zero (by have := hx.1; omega)
    subst hxs
    have hq := eq_nil_none 0 c
    go_enter Try.func44, Try.ntmps44
    go_wp2_with fail
    go_ret
    exact ⟨none, 0, rfl, World.ownsRow_nil _ _ _ _, Below.refl _ _⟩
  · have hq := eq_nil_some ad n c
    go_enter Try.func44, Try.ntmps44
    have hs := St.nil w
    go_wp2_with (first
      | (with_reducible refine wpl_slice0 (o := ⟨some 5, _, _, _, _, _⟩) hs rfl 23 rfl 22 1 lit0s ?_; clear hs; intro g w1 hs; have hr := hx.st hs)
      | (at_builtin; go_must (with_reducible refine wpl_append (news := xs) hs rfl _ _ 23 rfl rfl rfl (fun _ _ => .head) hr h1 Try.underlying23 el22 (by unfold maxLen; omega) (by omega) ?_); clear hs hr; intro A' c' w3 _ hs))
    rw [Nat.zero_add, List.nil_append] at hs
    go_ret
    exact ⟨A', c', rfl, hs.ok _ (List.mem_cons_self ..), hs.below⟩
end Go.Proofs.Ytleabipplchbpaa
