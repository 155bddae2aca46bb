/-
  A row of a statement: 'it returns true, and of what was there nothing has turned' gives what the row asks behind the call; what comes in, opened: bytes, slices of bytes.
-/
import Derived.Test.YtleabipplchbpaaRows
import Derived.Test.YtleabipplchbpaaBaseB
import Derived.WalkKit
import Derived.ProofKit
import Derived.OpenShut
import Derived.JoinedCond
import Derived.Below
import Derived.ChangeSame
import Derived.WideKeyArgs
import Derived.Deep.Matrix
namespace Go.Proofs.Ytleabipplchbpaa
open Go.ChangeShapes Go.WideShapes Go.ChangeAt Go.RowKit
set_option maxRecDepth 100000
theorem ownT : ownKnob Try.prog.godebug = none := by kernel_rfl
theorem laidOutT : laidOutB Try.prog = true := by kernel_rfl
theorem cellsOf5 : Try.prog.cellsOf 5 = 1 := by kernel_rfl
theorem cellsOf22 : Try.prog.cellsOf 22 = 1 := by kernel_rfl
/-- Types whose values the form reads. -/
def ReadT (P : Program) (t : TypeId) : Prop := P.readableRec t = true ∧ t < P.types.size
theorem args_stay {P : Program} (hl : laidOutB P = true) {H : Type} {enc : TypeId × Value → H} {W W' : World} {sp : Nat → Bool} (ts : List TypeId) : ∀ (vs : List Value) (ds : List (DataW H)) (ps : List MemPlace), (∀ t ∈ ts, ReadT P t) → DataW.TrodAll enc P W 0 (fun _ => true) true ts vs ds ps →
    (∀ p ∈ ps, W.sameAt W' p) → (∀ p ∈ ps, sp p.block = true) → DataW.TrodAll enc P W' 0 sp true ts vs ds ps := by
  induction ts with
  | nil =>
    intro vs ds ps _ h _ _
    obtain ⟨rfl, rfl, rfl⟩ := trodAll_nil h
    exact trodAll_mk0
  | cons t ts ih =>
    intro vs ds ps hr h hs hp
    obtain ⟨v, vs', d, ds', p, q, rfl, rfl, rfl, h0, h1⟩ := trodAll_cons h
    have hr0 := hr t (List.mem_cons_self ..)
    exact trodAll_cons_mk (WideElems.Trod_stays hl hr0.1 hr0.2 h0 (fun x hx => hs x (List.mem_append_left _ hx)) (fun x hx => hp x (List.mem_append_left _ hx)))
      (ih vs' ds' q (fun t ht => hr t (List.mem_cons_of_mem _ ht)) h1 (fun x hx => hs x (List.mem_append_right _ hx)) (fun x hx => hp x (List.mem_append_right _ hx)))
theorem reads1 {P : Program} {a : TypeId} (ha : ReadT P a) : ∀ t ∈ [a], ReadT P t := fun t h => by rw [List.mem_singleton.1 h]; exact ha
theorem reads2 {P : Program} {a b : TypeId} (ha : ReadT P a) (hb : ReadT P b) : ∀ t ∈ [a, b], ReadT P t := fun t h => by
  rcases List.mem_cons.1 h with rfl | h
  · exact ha
  · exact reads1 hb t h
theorem reads3 {P : Program} {a b c : TypeId} (ha : ReadT P a) (hb : ReadT P b) (hc : ReadT P c) : ∀ t ∈ [a, b, c], ReadT P t := fun t h => by
  rcases List.mem_cons.1 h with rfl | h
  · exact ha
  · exact reads2 hb hc t h
theorem read22 : ReadT Try.prog 22 := ⟨by kernel_rfl, of_decide_eq_true (by kernel_rfl)⟩
theorem read23 : ReadT Try.prog 23 := ⟨by kernel_rfl, of_decide_eq_true (by kernel_rfl)⟩
section
variable {H : Type} {enc : TypeId × Value → H} {W W' : World}
/-- What the row asks behind the call. -/
theorem law_post {f : Func} {s : ChangeSpec} {args : Array Value} {ds gs : List (DataW H)} {before : List MemPlace} (hv : s.vars = []) (hres : f.resultTypes = #[4]) (hpar : ∀ t ∈ f.params.toList, ReadT Try.prog t)
    (hW : DataW.Whole enc Try.prog f.params.toList s.vars false W args.toList ds gs before) (hspec : s.fn H ds = { results := [.lit (.bool true)], args := ds }) (hb : Below W.heap.size W W') :
    s.post enc Try.prog f false true false false W args (.bool true) W' := by
  have hlt : ∀ p ∈ before, p.block < W.heap.size := fun p hp => hW.lt p hp
  have hW0 := hW
  obtain ⟨p, q, hA, hV, rfl, _, _⟩ := hW0
  rw [hv] at hV
  obtain ⟨rfl, rfl⟩ := trodVars_none hV
  have hsame : ∀ x ∈ p, W.sameAt W' x := fun x hx => hb.same (hlt x (by simpa using hx))
  refine ⟨ds, [], p ++ [], [], p, [], hW, ?_, ?_, ?_, World.keptBut_mono (fun x hx => ⟨hx, Or.inr (Or.inl (by simpa using hx))⟩) (hb.frame (· ∈ p ++ [])), fun h => by cases h⟩
  · rw [List.append_nil, hspec, hres]
    exact trodAll_cons_mk (shut_bool Try.underlying4 _) trodAll_mk0
  · rw [List.append_nil, hspec]
    exact args_stay laidOutT _ _ _ _ hpar hA hsame (fun x hx => by simpa using hlt x (by simpa using hx))
  · rw [List.append_nil, hspec, hv]
    simp [DataW.TrodVars]
theorem wf_u8 {n : Int} (h : (Lit.int .u8 n).wf = true) : 0 ≤ n ∧ n < 256 := by
  have : 0 ≤ n ∧ n ≤ 255 := by simpa [Lit.wf, IntKind.min, IntKind.max, IntKind.signed, IntKind.bits] using h
  omega
/-- The numbers as natural ones. -/
def nats (zs : List Int) : List Nat := zs.map Int.toNat
theorem nats_lt {zs : List Int} (h : ∀ n ∈ zs, (Lit.int .u8 n).wf = true) : ∀ x ∈ nats zs, x < 256 := by
  intro x hx
  obtain ⟨n, hn, rfl⟩ := List.mem_map.1 hx
  have := wf_u8 (h n hn)
  omega
theorem cells_nats {zs : List Int} (h : ∀ n ∈ zs, (Lit.int .u8 n).wf = true) : cellsI .u8 (nats zs) = zs.map (Value.int .u8) := by
  unfold cellsI nats
  rw [List.map_map]
  refine List.map_congr_left fun n hn => ?_
  have := wf_u8 (h n hn)
  simp only [Function.comp_def]
  rw [Int.toNat_of_nonneg this.1]
theorem rdI_of_cells {a : Addr} {n : Nat} {zs : List Int} (hn : n ≤ zs.length) (hw : ∀ m ∈ zs, (Lit.int .u8 m).wf = true) (hc : ∀ i, i < zs.length → W.cell? (a.add i) = some (.int .u8 (zs.getD i 0))) :
    RdI W .u8 (some a) n (nats (zs.take n)) := by
  have hw' : ∀ m ∈ zs.take n, (Lit.int .u8 m).wf = true := fun m hm => hw m (List.mem_of_mem_take hm)
  refine ⟨by rw [cellsI_len, nats, List.length_map, List.length_take]; omega, fun j u hu => ⟨a, rfl, ?_⟩⟩
  rw [cells_nats hw', List.getElem?_map, List.getElem?_take] at hu
  split at hu
  · rename_i hj
    rw [hc j (by omega), ← hu, List.getElem?_eq_getElem (by omega)]
    simp [List.getD, List.getElem?_eq_getElem (show j < zs.length by omega)]
  · simp at hu
theorem open_bytes {r : Reach} {base : Nat} {v : Value} {d : DataW H} {ps : List MemPlace} (hval : Value.okWide Try.prog W r base 22 v) (h : DataW.Trod enc Try.prog W 0 (fun _ => true) true 22 v d ps) :
    ∃ A n c l, v = .slice A n c ∧ RdI W .u8 A n l ∧ (∀ x ∈ l, x < 256) ∧ n ≤ 9223372036854775807 := by
  obtain ⟨A, n, c, rfl⟩ := okWide_slice Try.underlying22 hval
  obtain ⟨fuel, hf⟩ := h
  rcases open_ints Try.underlying22 Try.underlying5 cellsOf5 hf with ⟨hcs, _⟩ | ⟨a, len, cap, zs, hcs, _, hl, hm, hz, _, hc, hw⟩
  · have : Value.slice A n c = .slice none 0 0 := by simpa [Value.cells] using hcs
    injection this with e1 e2 e3
    subst e1 e2 e3
    exact ⟨none, 0, 0, [], rfl, Rd.nil _ _ _, by simp, by omega⟩
  · have : Value.slice A n c = .slice (some a) len cap := by simpa [Value.cells] using hcs
    injection this with e1 e2 e3
    subst e1 e2 e3
    simp only [if_true] at hz
    unfold maxLen at hm
    exact ⟨some a, n, c, _, rfl, rdI_of_cells (by omega) hw hc, nats_lt (fun m hm => hw m (List.mem_of_mem_take hm)), by omega⟩
theorem open_parts {r : Reach} {base : Nat} {v : Value} {d : DataW H} {ps : List MemPlace} (hval : Value.okWide Try.prog W r base 23 v) (h : DataW.Trod enc Try.prog W 0 (fun _ => true) true 23 v d ps) :
    ∃ A n c ls, v = .slice A n c ∧ RdP W A n ls ∧ (∀ x ∈ ls.flatten, x < 256) ∧ n ≤ 9223372036854775807 := by
  obtain ⟨A, n, c, rfl⟩ := okWide_slice Try.underlying23 hval
  obtain ⟨fuel, hf⟩ := h
  rcases Deep.open_int_rows Try.underlying23 Try.underlying22 Try.underlying5 cellsOf22 cellsOf5 hf with ⟨hcs, _⟩ | ⟨a, len, cap, AA, L, C, Z, hcs, _, hl, hm, _, hr⟩
  · have : Value.slice A n c = .slice none 0 0 := by simpa [Value.cells] using hcs
    injection this with e1 e2 e3
    subst e1 e2 e3
    exact ⟨none, 0, 0, [], rfl, ⟨rfl, fun i l h => by simp at h⟩, by simp, by omega⟩
  · have : Value.slice A n c = .slice (some a) len cap := by simpa [Value.cells] using hcs
    injection this with e1 e2 e3
    subst e1 e2 e3
    unfold maxLen at hm
    refine ⟨some a, n, c, (List.range n).map fun i => nats ((Z i).take (L i)), rfl, ⟨by simp, fun i l hl2 => ?_⟩, ?_, by omega⟩
    · have hi : i < n := by
        have := (List.getElem?_eq_some_iff.1 hl2).1
        simpa using this
      have hl3 : l = nats ((Z i).take (L i)) := by
        rw [List.getElem?_map, List.getElem?_range hi] at hl2
        exact (Option.some.inj hl2).symm
      obtain ⟨h1, h2, h3, h4, h5, h6, h7⟩ := hr i (by omega)
      have hlen : l.length = L i := by rw [hl3, nats, List.length_map, List.length_take]; omega
      refine ⟨a, AA i, C i, rfl, by rw [hlen]; exact h1, ?_⟩
      rw [hlen, hl3]
      cases hA : AA i with
      | none =>
        have h0 : L i = 0 := by have := h6 hA; omega
        rw [h0]
        exact Rd.nil _ _ _
      | some a' => exact rdI_of_cells (by omega) h5 (fun j hj => (h7 a' hA).2 j (by omega))
    · intro x hx
      obtain ⟨l, hl2, hx⟩ := List.mem_flatten.1 hx
      obtain ⟨i, hi, rfl⟩ := List.mem_map.1 hl2
      obtain ⟨_, _, _, _, h5, _⟩ := hr i (by have := List.mem_range.1 hi; omega)
      exact nats_lt (fun m hm => h5 m (List.mem_of_mem_take hm)) x hx
end
end Go.Proofs.Ytleabipplchbpaa
