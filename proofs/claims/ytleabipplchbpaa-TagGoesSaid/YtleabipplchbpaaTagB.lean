/-
  Walks over chains, part 2: tag.Chain, the reference's Chain. (Printed by wip/tools/tagB.py.)
-/
import Derived.Test.YtleabipplchbpaaTagA
namespace Go.Proofs.Ytleabipplchbpaa
open Go.RowKit
set_option maxRecDepth 100000
/-! ### plain -/
/-- The link behind the first k records. -/
def linkAt (h : List Nat) (rs : List (List Nat)) : Nat → List Nat
  | 0 => h
  | k + 1 => hash (linkAt h rs k ++ rs.getD k [])
/-- The first k links. -/
def chainL (h : List Nat) (rs : List (List Nat)) (k : Nat) : List (List Nat) := (List.range k).map fun i => linkAt h rs (i + 1)
theorem link_len {h : List Nat} (hl : h.length = 32) (rs : List (List Nat)) : ∀ k, (linkAt h rs k).length = 32
  | 0 => hl
  | _ + 1 => hash_len _
theorem link_lt {h : List Nat} (hb : ∀ x ∈ h, x < 256) (rs : List (List Nat)) : ∀ k, ∀ x ∈ linkAt h rs k, x < 256
  | 0 => hb
  | _ + 1 => hash_lt _
theorem link_succ (h : List Nat) {rs : List (List Nat)} {k : Nat} {l : List Nat} (hl : rs[k]? = some l) : linkAt h rs (k + 1) = hash (linkAt h rs k ++ l) := by
  rw [linkAt, List.getD_eq_getElem?_getD, hl]; rfl
theorem chainL_len (h : List Nat) (rs : List (List Nat)) (k : Nat) : (chainL h rs k).length = k := by simp [chainL]
theorem chainL_succ (h : List Nat) (rs : List (List Nat)) (k : Nat) : chainL h rs (k + 1) = chainL h rs k ++ [linkAt h rs (k + 1)] := by simp [chainL, List.range_succ]
theorem chainL_get (h : List Nat) (rs : List (List Nat)) {k i : Nat} (hi : i < k) : (chainL h rs k)[i]? = some (linkAt h rs (i + 1)) := by simp [chainL, hi]
/-! ### slices of arrays -/
theorem el27 : ElTy Try.prog 27 32 32 := ⟨_, _, rfl, rfl, rfl, rfl, rfl, by decide⟩
theorem seg_step {α : Type} (c : List α) (k : Nat) (v : α) (vs : List α) (h : k + (v :: vs).length ≤ c.length) : (c.set k v).take (k + 1) ++ vs ++ (c.set k v).drop (k + 1 + vs.length) = c.take k ++ (v :: vs) ++ c.drop (k + (v :: vs).length) := by
  simp only [List.length_cons] at h
  have h1 : (c.set k v).take (k + 1) = c.take k ++ [v] := by
    rw [List.take_succ_eq_append_getElem (by rw [List.length_set]; omega), List.take_set, List.set_eq_of_length_le (by rw [List.length_take]; omega)]
    simp
  rw [h1, List.drop_set_of_lt (by omega)]
  simp [Nat.add_assoc, Nat.add_comm 1]
theorem fold_set (off : Nat) : ∀ (vs : List Value) (k : Nat) (cur : Array Value), off + k + vs.length ≤ cur.size → (vs.zipIdx k).foldl (fun cs x => cs.setIfInBounds (off + x.2) x.1) cur = (cur.toList.take (off + k) ++ vs ++ cur.toList.drop (off + k + vs.length)).toArray
  | [], k, cur, _ => by simp
  | v :: vs, k, cur, h => by
    rw [List.zipIdx_cons, List.foldl_cons, fold_set off vs (k + 1) _ (by simp at h ⊢; omega)]
    have := seg_step cur.toList (off + k) v vs (by simpa using h)
    rw [← this]
    simp [Array.toList_setIfInBounds, Nat.add_assoc]
theorem fold_all (base cs : Array Value) (h : base.size = cs.size) : cs.zipIdx.foldl (fun a x => a.setIfInBounds x.2 x.1) base = cs := by
  have := fold_set 0 cs.toList 0 base (by simp [h])
  rw [← Array.foldl_toList]
  simp only [Nat.zero_add] at this
  simp only [Array.toList_zipIdx]
  rw [this, List.drop_of_length_le (by simp [h])]
  simp
theorem lit1d {cs : Array Value} (h : cs.size = 32) (w : World) : (Instr.buildSlice 40 1 #[(0, .agg cs)]).run Try.prog w = .ok (.slice (some ⟨w.heap.size, 0, none⟩) 1 1) (w.alloc (.cells (Value.agg cs).cells 27)) := by
  have e := fun base (hb : base.size = cs.size) => fold_all base cs hb
  simp only [Array.size_zipIdx, h] at e
  simp [go_sem, Instr.buildSlice, Instr.fill, newRow, h, Value.cells]
  rw [e _ (by simp)]
theorem Rd.row1 {w0 w : World} {L : List Res} (hs : St w0 w L) {g : Nat} {t : TypeId} {l : List Nat} {N : Nat} (hm : Has (Res.blk g t (Value.agg (ints .u8 l)).cells) L) (hl : l.length = N) : Rd w N (some ⟨g, 0, none⟩) 1 (cellsI .u8 l) :=
  Rd.of_blk hs hm (by rw [cellsI_len, hl, Nat.one_mul]) fun j u hu => by
    rw [Nat.zero_add, ← hu, ← ints_toList]
    simp [Value.cells]
theorem flat_snoc (ls : List (List Nat)) (l : List Nat) : cellsI .u8 (ls ++ [l]).flatten = cellsI .u8 ls.flatten ++ cellsI .u8 l := by
  rw [List.flatten_append, cellsI_append]; simp
set_option maxHeartbeats 4000000 in
theorem chain_any (h : List Nat) (hl : h.length = 32) (hb : ∀ x ∈ h, x < 256) (ps : List (List Nat)) (hpb : ∀ x ∈ ps.flatten, x < 256) (hpl : ps.flatten.length ≤ 100000) (B : Option Addr) (m cb : Nat) (hm : m ≤ 100000) (w : World) (hp : RdP w B m ps) :
    Calls Try.prog 24 #[.agg (ints .u8 h), .slice B m cb] w fun e w' => ∃ A c, e = .returned (.slice A m c) ∧ (rowR A m c 27 32 (cellsI .u8 (chainL h ps m).flatten)).ok w.heap.size w' ∧ Below w.heap.size w w' := by
  have HP := Lib.hid hp.1
  go_enter Try.func24, Try.ntmps24
  have hs := St.nil w
  go_wp2_with (with_reducible refine wpl_boxRow (o := ⟨some 2, _, _, _, _, _⟩) hs rfl 27 _ rfl (ints .u8 h) rfl ?_; clear hs; intro g2 w1 hs)
  replace hs := hs.nilRow 27 32
  go_loopw [5, 10] (fun v t wr => ∃ (k : Nat) (A : Option Addr) (c : Nat), k ≤ m ∧ t = .int .i64 k ∧ v = .slice A k c ∧ St w wr [rowR A k c 27 32 (cellsI .u8 (chainL h ps k).flatten), .blk g2 27 (ints .u8 (linkAt h ps k))]) (fun _ t _ => m - (intOf t).toNat)
  case atStart => exact ⟨0, none, 0, by omega, rfl, rfl, hs⟩
  case round =>
    clear hs
    obtain ⟨k, A, c, hk, rfl, rfl, hs⟩ := hrel
    by_cases hlt : k < m
    · have d1 : decide ((k : Int) < (m : Int)) = true := by simp; omega
      have i1 : (k : Int) < (m : Int) := by omega
      obtain ⟨l, hll⟩ : ∃ l, ps[k]? = some l := ⟨_, List.getElem?_eq_getElem (by have := HP.out; omega)⟩
      have hmem := List.mem_of_getElem? hll
      have hq0 : l.length ≤ 100000 := by have := flat_part hmem; omega
      have hlb : ∀ x ∈ l, x < 256 := fun x hx => hpb x (List.mem_flatten.2 ⟨l, hmem, hx⟩)
      obtain ⟨ad, B2, c2, hA, hc, hr⟩ := hp.2 k l hll
      subst hA
      obtain ⟨D, hD⟩ : ∃ D, D = linkAt h ps k := ⟨_, rfl⟩
      have dl : D.length = 32 := by rw [hD]; exact link_len hl ps k
      have db : ∀ x ∈ D, x < 256 := by rw [hD]; exact link_lt hb ps k
      obtain ⟨R, hR⟩ : ∃ R, R = linkAt h ps (k + 1) := ⟨_, rfl⟩
      have rl : R.length = 32 := by rw [hR]; exact link_len hl ps (k + 1)
      have hRD : R = hash (D ++ l) := by rw [hR, hD]; exact link_succ h hll
      have hsn : chainL h ps (k + 1) = chainL h ps k ++ [R] := by rw [hR]; exact chainL_succ h ps k
      have HS : Hid (∀ (A : Option Addr) (c : Nat) (w : World), RdP w A 1 [l] → Calls Try.prog 27 #[.agg (ints .u8 D), .slice A 1 c] w fun e w' => e = .returned (.agg (ints .u8 R)) ∧ Below w.heap.size w w') :=
        Lib.hid fun A c w hp => by
          have hf : [l].flatten = l := by simp
          have := step_any D dl db [l] (by rw [hf]; exact hlb) (by rw [hf]; omega) A 1 c (by omega) w hp
          rwa [hf, ← hRD] at this
      rw [← hD] at hs
      have HR := Lib.hid hR
      have HSN := Lib.hid hsn
      have o1 := cellsI_one .u8 R
      obtain ⟨q, hq⟩ : ∃ q, q = l.length := ⟨_, rfl⟩
      rw [← hq] at hc hr hq0
      clear hR hD hRD hsn hll hmem hlb hq db
      have hc2 := (hs.below.cell (block_lt_of_cell hc)).trans hc
      go_wp2_with (first
        | (with_reducible refine wpl_loadRow (o := ⟨some 14, _, _, _, _, _⟩) hs rfl 27 _ rfl g2 rfl 27 _ (.tail .head) row27 (sizeI dl) ?_)
        | ((with_reducible refine wpl_slice1 (o := ⟨some 16, _, _, _, _, _⟩) hs rfl 23 _ rfl 22 (.slice B2 q c2) rfl (lit1s _ _ _) ?_); clear hs; intro g16 w2 hs; have hp1 := RdP.of_blk1 hs .head (hr.st hs))
        | (go_at_call 27; refine (HS.out _ _ _ hp1).mono ?_; clear hp1; rintro e w3 ⟨rfl, hb3⟩; replace hs := hs.call hb3; clear hb3)
        | (with_reducible refine wpl_storeRow hs rfl 27 _ _ rfl g2 (ints .u8 R) rfl rfl 27 _ (.tail (.tail .head)) row27 (sizeI rl) (sizeI dl) (ints_oneCell _ _) ?_; clear hs; intro w4 hs)
        | (with_reducible refine wpl_loadRow (o := ⟨some 19, _, _, _, _, _⟩) hs rfl 27 _ rfl g2 rfl 27 _ (.tail (.tail .head)) row27 (sizeI rl) ?_)
        | ((with_reducible refine wpl_slice1 (o := ⟨some 20, _, _, _, _, _⟩) hs rfl 40 _ rfl 27 (.agg (ints .u8 R)) rfl (lit1d (sizeI rl)) ?_); clear hs; intro g20 w5 hs; have hrr := Rd.row1 hs .head rl)
        | ((with_reducible refine wpl_append (o := ⟨some 21, _, _, _, _, _⟩) (news := cellsI .u8 R) hs rfl _ _ 40 rfl rfl rfl (fun _ _ => .tail (.tail .head)) hrr o1 Try.underlying40 el27 (by unfold maxLen; omega) (by omega) ?_); clear hs hrr; intro A6 c6 w6 _ hs; replace hs := hs.pop.pop))
      rw [← flat_snoc, ← HSN.out] at hs
      rw [HR.out] at hs
      have HS2 := Lib.hid hs
      clear hs
      go_roundw
      case rel => exact ⟨k + 1, A6, c6, by omega, by go_num, rfl, HS2.out⟩
      case measure => simp [intOf]; omega
    · have d1 : decide ((k : Int) < (m : Int)) = false := by simp; omega
      obtain rfl : k = m := by omega
      go_wp2_with fail
      go_ret
      exact ⟨A, c, rfl, hs.ok _ (List.mem_cons_self ..), hs.below⟩
set_option maxHeartbeats 4000000 in
theorem rchain_any (h : List Nat) (hl : h.length = 32) (hb : ∀ x ∈ h, x < 256) (ps : List (List Nat)) (hpb : ∀ x ∈ ps.flatten, x < 256) (hpl : ps.flatten.length ≤ 100000) (B : Option Addr) (m cb : Nat) (hm : m ≤ 100000) (w : World) (hp : RdP w B m ps) :
    Calls Try.prog 25 #[.agg (ints .u8 h), .slice B m cb] w fun e w' => ∃ A c, e = .returned (.slice A m c) ∧ (rowR A m c 27 32 (cellsI .u8 (chainL h ps m).flatten)).ok w.heap.size w' ∧ Below w.heap.size w w' := by
  have HP := Lib.hid hp.1
  go_enter Try.func25, Try.ntmps25
  have hs := St.nil w
  go_wp2_with (with_reducible refine wpl_boxRow (o := ⟨some 2, _, _, _, _, _⟩) hs rfl 27 _ rfl (ints .u8 h) rfl ?_; clear hs; intro g2 w1 hs)
  replace hs := hs.nilRow 27 32
  go_loopw [5, 6] (fun v t wr => ∃ (k : Nat) (A : Option Addr) (c : Nat), k ≤ m ∧ t = .int .i64 k ∧ v = .slice A k c ∧ St w wr [rowR A k c 27 32 (cellsI .u8 (chainL h ps k).flatten), .blk g2 27 (ints .u8 (linkAt h ps k))]) (fun _ t _ => m - (intOf t).toNat)
  case atStart => exact ⟨0, none, 0, by omega, rfl, rfl, hs⟩
  case round =>
    clear hs
    obtain ⟨k, A, c, hk, rfl, rfl, hs⟩ := hrel
    by_cases hlt : k < m
    · have d1 : decide ((k : Int) < (m : Int)) = true := by simp; omega
      have i1 : (k : Int) < (m : Int) := by omega
      obtain ⟨l, hll⟩ : ∃ l, ps[k]? = some l := ⟨_, List.getElem?_eq_getElem (by have := HP.out; omega)⟩
      have hmem := List.mem_of_getElem? hll
      have hq0 : l.length ≤ 100000 := by have := flat_part hmem; omega
      have hlb : ∀ x ∈ l, x < 256 := fun x hx => hpb x (List.mem_flatten.2 ⟨l, hmem, hx⟩)
      obtain ⟨ad, B2, c2, hA, hc, hr⟩ := hp.2 k l hll
      subst hA
      obtain ⟨D, hD⟩ : ∃ D, D = linkAt h ps k := ⟨_, rfl⟩
      have dl : D.length = 32 := by rw [hD]; exact link_len hl ps k
      have db : ∀ x ∈ D, x < 256 := by rw [hD]; exact link_lt hb ps k
      obtain ⟨R, hR⟩ : ∃ R, R = linkAt h ps (k + 1) := ⟨_, rfl⟩
      have rl : R.length = 32 := by rw [hR]; exact link_len hl ps (k + 1)
      have hRD : R = hash (D ++ l) := by rw [hR, hD]; exact link_succ h hll
      have hsn : chainL h ps (k + 1) = chainL h ps k ++ [R] := by rw [hR]; exact chainL_succ h ps k
      have HS : Hid (∀ (A : Option Addr) (c : Nat) (w : World), RdP w A 1 [l] → Calls Try.prog 28 #[.agg (ints .u8 D), .slice A 1 c] w fun e w' => e = .returned (.agg (ints .u8 R)) ∧ Below w.heap.size w w') :=
        Lib.hid fun A c w hp => by
          have hf : [l].flatten = l := by simp
          have := rstep_any D dl db [l] (by rw [hf]; exact hlb) (by rw [hf]; omega) A 1 c (by omega) w hp
          rwa [hf, ← hRD] at this
      rw [← hD] at hs
      have HR := Lib.hid hR
      have HSN := Lib.hid hsn
      have o1 := cellsI_one .u8 R
      obtain ⟨q, hq⟩ : ∃ q, q = l.length := ⟨_, rfl⟩
      rw [← hq] at hc hr hq0
      clear hR hD hRD hsn hll hmem hlb hq db
      go_wp2_with fail
      have hc1 := (hs.below.cell (block_lt_of_cell hc)).trans hc
      refine reg_K 7 (Since0 wr.drew) (by kernel_rfl) (by kernel_rfl) ?_
      replace hs := hs.drew
      have hs0 := hs
      replace hs := St.nil wr.drew
      refine K_take (i := 0) (oi := ⟨some 13, _, _, _, _, _⟩) rfl (by decide) (by kernel_rfl) (by kernel_rfl) (fun _ _ _ h => h) (v := .agg (ints .u8 D)) (yields_row (by rfl) 27 _ rfl g2 rfl 27 _ (fun _ hS => Since0.row hS (hs0.row (.tail .head))) row27 (sizeI dl)) hs.below ?_
      simp only [Act.put, List.setIfInBounds_toArray, List.set_cons_zero, List.set_cons_succ]
      refine K_take (i := 1) (oi := ⟨some 14, _, _, _, _, _⟩) rfl (by decide) (by kernel_rfl) (by kernel_rfl) (fun _ _ _ h => h) (v := .slice (some ad) m cb) (Or.inl ⟨by rfl, fun w' _ => by go_simp⟩) hs.below ?_
      simp only [Act.put, List.setIfInBounds_toArray, List.set_cons_zero, List.set_cons_succ]
      refine K_take (i := 2) (oi := ⟨some 15, _, _, _, _, _⟩) rfl (by decide) (by kernel_rfl) (by kernel_rfl) (fun _ _ _ h => h) (v := .int .i64 k) (Or.inl ⟨by rfl, fun w' _ => by go_simp⟩) hs.below ?_
      simp only [Act.put, List.setIfInBounds_toArray, List.set_cons_zero, List.set_cons_succ]
      refine K_take (i := 3) (oi := ⟨some 16, _, _, _, _, _⟩) rfl (by decide) (by kernel_rfl) (by kernel_rfl) (fun _ _ _ h => h) (v := .pointer (some (ad.add k))) (Or.inl ⟨by rfl, fun w' _ => by go_simp⟩) hs.below ?_
      simp only [Act.put, List.setIfInBounds_toArray, List.set_cons_zero, List.set_cons_succ]
      refine K_take (i := 4) (oi := ⟨some 17, _, _, _, _, _⟩) rfl (by decide) (by kernel_rfl) (by kernel_rfl) (fun _ _ _ h => h) (v := .slice B2 q c2) (Or.inl ⟨by rfl, fun w' hS => by have hc' := Since0.at hS hc1; go_simp⟩) hs.below ?_
      simp only [Act.put, List.setIfInBounds_toArray, List.set_cons_zero, List.set_cons_succ]
      refine K_one (i := 5) (by kernel_rfl) (by decide) ?_
      refine K_op (o := ⟨_, _, _, _, _, _⟩) rfl ?_
      intro KK hKK
      go_wp2_with ((with_reducible refine wpl_slice1 hs rfl 23 _ rfl 22 (.slice B2 q c2) rfl (lit1s _ _ _) ?_); clear hs; intro g18 w2 hs)
      refine kpost (hKK.out _ _ ⟨hs.below, ?_⟩)
      clear hKK KK
      refine K_one (i := 6) (by kernel_rfl) (by decide) ?_
      refine K_op (o := ⟨_, _, _, _, _, _⟩) rfl ?_
      intro KK hKK
      have hp1 := RdP.of_blk1 hs .head ((hr.st hs0).st hs)
      go_wp2_with (go_at_call 28; refine (HS.out _ _ _ hp1).mono ?_; clear hp1; rintro e w3 ⟨rfl, hb3⟩; replace hs := hs.call hb3; clear hb3)
      refine kpost (hKK.out _ _ ⟨hs.below, ?_⟩)
      clear hKK KK
      refine K_done (by kernel_rfl) ?_
      simp only [List.drop_succ_cons, List.drop_zero]
      replace hs := hs0.since hs
      clear hs0
      go_wp2_with (first
        | (with_reducible refine wpl_storeRow (o := ⟨none, _, _, _, _, _⟩) hs rfl 27 _ _ rfl g2 (ints .u8 R) rfl rfl 27 _ (.tail (.tail .head)) row27 (sizeI rl) (sizeI dl) (ints_oneCell _ _) ?_; clear hs; intro w4 hs)
        | (with_reducible refine wpl_loadRow (o := ⟨some 21, _, _, _, _, _⟩) hs rfl 27 _ rfl g2 rfl 27 _ (.tail (.tail .head)) row27 (sizeI rl) ?_)
        | ((with_reducible refine wpl_slice1 (o := ⟨some 22, _, _, _, _, _⟩) hs rfl 40 _ rfl 27 (.agg (ints .u8 R)) rfl (lit1d (sizeI rl)) ?_); clear hs; intro g20 w5 hs; have hrr := Rd.row1 hs .head rl)
        | ((with_reducible refine wpl_append (o := ⟨some 23, _, _, _, _, _⟩) (news := cellsI .u8 R) hs rfl _ _ 40 rfl rfl rfl (fun _ _ => .tail (.tail .head)) hrr o1 Try.underlying40 el27 (by unfold maxLen; omega) (by omega) ?_); clear hs hrr; intro A6 c6 w6 _ hs; replace hs := hs.pop.pop))
      rw [← flat_snoc, ← HSN.out] at hs
      rw [HR.out] at hs
      have HS2 := Lib.hid hs
      clear hs
      go_roundw
      case rel => exact ⟨k + 1, A6, c6, by omega, by go_num, rfl, HS2.out⟩
      case measure => simp [intOf]; omega
    · have d1 : decide ((k : Int) < (m : Int)) = false := by simp; omega
      obtain rfl : k = m := by omega
      go_wp2_with fail
      go_ret
      exact ⟨A, c, rfl, hs.ok _ (List.mem_cons_self ..), hs.below⟩
end Go.Proofs.Ytleabipplchbpaa
