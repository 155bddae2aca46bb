/-
  Walks over SHA-256, part 8: the iterator that slices.Chunk hands back; laws for a region in a round; slices.Chunk.
-/
import Derived.Test.YtleabipplchbpaaShaG
import Derived.RangeFuncFrom
namespace Go.Proofs.Ytleabipplchbpaa
open Go.RowKit
set_option maxRecDepth 100000
attribute [local go_sem] Oper.semAt_some

/-- Two blocks lie as they lay. -/
def KeepTwo (b1 b2 : Nat) (W W' : World) : Prop := W'.heap[b1]? = W.heap[b1]? ∧ W'.heap[b2]? = W.heap[b2]?
theorem KeepTwo.trans {b1 b2 : Nat} {A B C : World} (h : KeepTwo b1 b2 A B) (k : KeepTwo b1 b2 B C) : KeepTwo b1 b2 A C := ⟨k.1.trans h.1, k.2.trans h.2⟩

set_option maxHeartbeats 2000000 in
theorem chunk1 (n N c gp bs bn l : Nat) (hN : N ≤ 20000) (hc : 64 * N ≤ c) (J Jx : List (Fin N) → World → Prop) (W : World) (hJ : AbidesFrom W.heap.size J)
    (hY : ∀ pre x W1, J pre W1 → pre.length < N → YieldAt Fence.wide (n - 1) Try.prog l #[.slice (some ⟨gp, 64 * (Fin.val x), none⟩) 64 64] W1 fun e W' =>
      (e = .returned (.bool true) ∧ J (pre ++ [x]) W' ∧ KeepTwo bs bn W1 W') ∨ (e = .returned (.bool false) ∧ Jx (pre ++ [x]) W'))
    (hs1 : W.cell? ⟨bs, 0, none⟩ = some (.slice (some ⟨gp, 0, none⟩) (64 * N) c)) (hs2 : W.cell? ⟨bn, 0, none⟩ = some (.int .i64 64)) (h0 : J [] W) :
    CallsIn Fence.wide n Try.prog 61 (#[.func (.yield l) #[] #[]] ++ #[.pointer (some ⟨bs, 0, none⟩), .pointer (some ⟨bn, 0, none⟩)]) W fun e W' => (∃ v, e = .returned v) ∧
      ((∃ xs : List (Fin N), xs.map Fin.val = List.range N ∧ J xs W') ∨ (∃ pre, True ∧ Jx pre W')) := by
  refine callsIn_of_wp Try.func61 rfl trivial ?_ rfl
  simp only [Try.ntmps61, List.size_toArray, List.length_cons, List.length_nil, Nat.reduceAdd, Nat.reduceSub, Array.replicate_succ, Array.replicate_zero, List.push_toArray, List.append_toArray, List.nil_append, List.cons_append]
  obtain ⟨T, hT⟩ : ∃ T, T = 64 * N := ⟨_, rfl⟩
  rw [← hT] at hs1 hc
  have hTb : T ≤ 1280000 := by omega
  have HT := Lib.hid hT
  clear hT
  gi_wp2
  gi_loopw [4] (fun i wr => ∃ (k q : Nat) (pre : List (Fin N)), k ≤ N ∧ q = 64 * k ∧ i = .int .i64 q ∧ pre.map Fin.val = List.range k ∧ J pre wr ∧ KeepTwo bs bn W wr) (fun i _ => 2 * T - (intOf i).toNat)
  case atStart => exact ⟨0, 0, [], Nat.zero_le _, rfl, rfl, rfl, h0, rfl, rfl⟩
  case round =>
    obtain ⟨k, q, pre, hk, hq, rfl, hpre, hJs, hkt⟩ := hrel
    have c1 := (World.cell?_of_block (a := ⟨bs, 0, none⟩) hkt.1).trans hs1
    have c2 := (World.cell?_of_block (a := ⟨bn, 0, none⟩) hkt.2).trans hs2
    have HQ := Lib.hid hq
    clear hq
    by_cases hlt : q < T
    · have hkN : k < N := by have := HQ.out; have := HT.out; omega
      have hlen : pre.length < N := by
        have := congrArg List.length hpre
        simp at this
        omega
      obtain ⟨fn, tmps, assign, body, hy, hR⟩ := hY pre ⟨k, hkN⟩ wr.drew (hJ _ _ _ none hJs ⟨rfl, rfl, rfl, Nat.le_refl _, fun _ _ _ => rfl⟩ (fun r e => by cases e)) hlen
      have hy' : (Instr.yield l #[.slice (some ⟨gp, q, none⟩) 64 64]).run Try.prog wr.drew = .ok (.round l fn tmps assign body) wr.drew := by
        rw [HQ.out]; exact hy
      have d1 : decide ((q : Int) < (T : Int)) = true := by simp; omega
      have i1 : (q : Int) < (T : Int) := by omega
      clear hy hJs
      gi_wp2
      have c3 : wr.drew.cell? ⟨bs, 0, none⟩ = some (.slice (some ⟨gp, 0, none⟩) T c) := c1
      have c4 : wr.drew.cell? ⟨bn, 0, none⟩ = some (.int .i64 64) := c2
      refine wpIn_wide.2 (wp_region_still_lit (by kernel_rfl) (by kernel_rfl) ?_)
      have e1 : (q : Int).toNat = q := by omega
      have e2 : 0 ≤ (q : Int) := by omega
      have e3 : (q : Int) ≤ (T : Int) := by omega
      have e4 : (q : Int) ≤ (c : Int) := by omega
      have e5 : (64 : Int) ≤ (T : Int) - (q : Int) := by have := HT.out; have := HQ.out; omega
      have e6 : ((T - q : Nat) : Int) = (T : Int) - (q : Int) := by omega
      have e7 : ¬ c = q := by omega
      have e8 : ¬ ((T : Int) - (q : Int) < 64) := by omega
      repeat (refine wpStill_step (fun K hK => ?_); go_simp; (try go_bits); first | (refine hK _ ?_; clear hK K) | (with_reducible refine ⟨_, quietContract _ l _, hK _ ?_⟩; clear hK K))
      refine wpStill_nil ?_
      have f1 : ((q : Int) + 64).toNat = q + 64 := by omega
      have f2 : 0 ≤ (q : Int) + 64 := by omega
      have f3 : (q : Int) + 64 ≤ (c : Int) := by omega
      have f4 : (q : Int) ≤ (q : Int) + 64 := by omega
      have f5 : q + 64 - q = 64 := by omega
      have f6 : ¬ q + 64 = q := by omega
      gi_wp2
      refine ⟨fun h => by simp [Fence.wide] at h, hR.mono ?_⟩
      rintro e W3 (⟨rfl, hJ3, hk3⟩ | ⟨rfl, hJx3⟩)
      · have c5 : W3.cell? ⟨bn, 0, none⟩ = some (.int .i64 64) := (World.cell?_of_block (a := ⟨bn, 0, none⟩) hk3.2).trans c4
        gi_wp2
        go_roundw
        case rel => exact ⟨k + 1, q + 64, pre ++ [⟨k, hkN⟩], by omega, by have := HQ.out; omega, by go_num, by simp [hpre, List.range_succ], hJ3, hkt.trans (KeepTwo.trans ⟨rfl, rfl⟩ hk3)⟩
        case measure => simp [intOf]; omega
      · gi_wp2
        refine bodyPost_ret (results_none rfl _ _ _) rfl ?_
        exact ⟨⟨_, rfl⟩, .inr ⟨_, trivial, hJx3⟩⟩
    · have d1 : decide ((q : Int) < (T : Int)) = false := by simp; omega
      have i1 : (T : Int) ≤ (q : Int) := by omega
      have hkN : k = N := by have := HQ.out; have := HT.out; omega
      gi_wp2
      go_end0
      exact ⟨⟨_, rfl⟩, .inl ⟨pre, by rw [hpre, hkN], hJs⟩⟩

/-! ### An operation, a list of them, a region that draws: from the plain walk into a round at the wide fence -/
section
variable {P : Program} {ops : Array Oper} {Q : Exit → Act → World → Prop} {n l : Nat}
theorem plain_in {o : Oper} (h : ∀ c, o.op ≠ .defer c) {a : Act} {w : World} {next : Act → World → Prop} (hw : o.wp P a w next Q) : o.wpIn (Fence.wide.inRound l) n P a w next Q := by
  refine ⟨fun _ _ => trivial, ?_⟩
  rw [Oper.semAt_plain _ _ _ h]
  unfold Oper.wp at hw
  revert hw
  generalize (execOp a.eval o).run P w = r
  intro hw
  cases r with
  | ok nx w' =>
    cases nx with
    | enter f args =>
      refine ⟨fun h => by simp [Fence.wide] at h, CallsIn.inRound l (callsIn_wide.2 (Calls.mono hw ?_))⟩
      rintro e w2 h2
      cases e <;> exact h2
    | row r args =>
      refine ⟨fun h => by simp [Fence.wide] at h, ?_⟩
      intro c cs _
      obtain ⟨v, w2, hr, hst⟩ := hw c cs
      exact ⟨v, w2, hr, stepsIn_wide.2 hst⟩
    | value v => exact hw
    | skip => exact hw
    | defer d => exact hw
    | _ => exact hw.elim
  | halt h w' => cases h <;> first | exact hw | exact hw.elim
theorem list_in (hno : ¬ LetsOut Q) : ∀ (os : List Oper), (∀ o ∈ os, ∀ c, o.op ≠ .defer c) → ∀ a w, wpList P ops Q os a w → wpListIn (Fence.wide.inRound l) n P ops Q os a w
  | [], _, _, _, h => h
  | o :: os, hd, a, w, h => by
    have ih := list_in hno os (fun o ho => hd o (List.mem_cons_of_mem _ ho))
    simp only [wpList] at h
    simp only [wpListIn]
    split at h
    · rename_i hw
      rw [if_pos hw]
      rcases h with h | ⟨_, h⟩
      · exact Oper.wpIn_mono ih (plain_in (hd o (List.mem_cons_self ..)) h)
      · exact absurd h hno
    · rename_i hw
      rw [if_neg hw]
      exact ⟨fun _ _ => trivial, ih _ _ h⟩
theorem any_in (md : Region.Mode) (hno : ¬ LetsOut Q) (hd : ∀ o ∈ ops.toList, ∀ c, o.op ≠ .defer c) : ∀ (fuel : Nat) (listed : Array Bool) (a : Act) (w : World), wpAny P md ops Q fuel listed a w → wpAnyIn (Fence.wide.inRound l) n P md ops Q fuel listed a w
  | 0, _, _, _, h => h
  | fuel + 1, listed, a, w, h => by
    refine ⟨h.1, fun i hi => ?_⟩
    have h2 := h.2 i hi
    unfold wpOp at h2
    unfold wpOpIn
    cases ho : ops[i]? with
    | none => simp only [ho] at h2 ⊢; exact any_in md hno hd fuel _ _ _ h2
    | some o =>
      simp only [ho] at h2 ⊢
      have hmem : o ∈ ops.toList := by
        have := Array.mem_of_getElem? ho
        simpa using this
      split at h2
      · rename_i hw
        rw [if_pos hw]
        rcases h2 with h2 | ⟨_, h2⟩
        · exact Oper.wpIn_mono (any_in md hno hd fuel _) (plain_in (hd o hmem) h2)
        · exact absurd h2 hno
      · rename_i hw
        rw [if_neg hw]
        exact ⟨fun _ _ => trivial, any_in md hno hd fuel _ _ _ h2⟩
/-- 'reg_tail' within a round. -/
theorem regIn_tail {id : Nat} {os : List Oper} {a : Act} {w w0 : World} {L : List Res} (hs : St w0 w L) (k : Nat) (hno : ¬ LetsOut Q) (hd : ∀ o ∈ os, ∀ c, o.op ≠ .defer c) (hm : P.follows .mixedOrders = true) (hB : Region.lexTailB .any os.toArray k = true)
    (h : ∀ w', St w0 w' L → w' = w.drew → wpStill P os.toArray w' (fun a' => wpList P os.toArray Q (os.drop k) a' w') (os.take k) a) : (Code.region id os.toArray true).wpIn (Fence.wide.inRound l) n P Q a w := by
  simp only [Region.lexTailB, Bool.and_eq_true, decide_eq_true_eq] at hB
  obtain ⟨⟨⟨⟨hsel, hn⟩, hs'⟩, hc⟩, hlex⟩ := hB
  have hn' : k < os.length := by simpa using hn
  have htl : (os.take k).length = k := by simp; omega
  have hdl : (os.drop k).length = os.toArray.size - k := by simp
  have inv0 : HeadInv .any os.toArray k (Array.replicate os.toArray.size false) :=
    ⟨by simp, fun j oj _ hl => (by rw [getD_replicate_false] at hl; cases hl), fun t _ ht => getD_in (by simpa using ht) (getD_replicate_false _ _)⟩
  have H := wpAnyL_lex (md := .any) (g := os.toArray.size - k) hsel hs' hc hn (os.take k) 0 _ a (fun j hj => by
    have hj' : j < k := by rw [htl] at hj; exact hj
    simp [hj']) (by simpa using htl) inv0 (by rw [htl]; exact hlex) (h _ hs.drew rfl)
  refine wpIn_region_any hm (any_in .any hno (by simpa using hd) _ _ _ _ ?_)
  have := wpAny_of_head (Q' := Q) (g := os.toArray.size - k) (fun listed a' hL => by
    have := wpAny_of_seq (md := .any) (Q' := Q) (os.drop k) k listed a' w.drew (fun j => by simp [List.getElem?_drop]) (by rw [hdl]; exact hL.1) hL.2
    rwa [hdl] at this) _ _ _ H
  rw [htl, show k + (os.toArray.size - k) = os.toArray.size by omega] at this
  exact this
end
/-- What a call has made lies beside what its caller has. -/
theorem St.join {w0 w w' : World} {L L' : List Res} (hs : St w0 w L) (h : St w w' L') : St w0 w' (L' ++ L) := by
  have h1 := hs.call h.below
  refine ⟨h1.below, fun s hm => ?_, List.pairwise_append.2 ⟨h.apart, h1.apart, fun r hr s hs' g hg hsg => ?_⟩⟩
  · rcases List.mem_append.1 hm with h2 | h2
    · exact Res.ok_mono (h.ok s h2) hs.size
    · exact h1.ok s h2
  · have := (Res.ok_lt (h.ok r hr) hg).1
    have := hs.lt hs' hsg
    omega
theorem Res.ok_grown {B : Nat} {w w' : World} {r : Res} (h : r.ok B w) {row : Option Nat} (hg : w.grownBy w' row) (hr : ∀ k, row = some k → ∃ o : Obj, w.heap[k]? = some o ∧ o.isCells = false) : r.ok B w' := by
  refine Res.ok_keep h fun g hb => hg.block g (Res.ok_lt h hb).2 ?_
  intro e
  obtain ⟨o, ho, hc⟩ := hr g e.symm
  cases r with
  | blk g' t cs =>
    obtain rfl : g' = g := by simpa [Res.block] using hb
    rw [h.2] at ho
    cases ho
    cases hc
  | own v e' size n xs =>
    rcases h.2 with hn | ⟨g', cap, cur, rfl, _, hgg, _⟩
    · simp [Res.block, hn.1, Value.ownBlock] at hb
    · obtain rfl : g' = g := by simpa [Res.block, Value.ownBlock] using hb
      rw [hgg] at ho
      cases ho
      cases hc
  | lit g' t cs =>
    obtain rfl : g' = g := by simpa [Res.block] using hb
    obtain ⟨fr, h2⟩ := h.2
    rw [h2] at ho
    cases ho
    cases hc
/-- The state abides a turn of a block that is no cells and was laid since. -/
theorem St.ownFrom {β : Type} {w0 : World} {B : Nat} (L : β → List Res) (hB : w0.heap.size ≤ B) : OwnFrom B (fun (s : β) W => St w0 W (L s)) := by
  intro s W W' row hs hg hr
  exact ⟨hs.below.grown hg hs.size (fun k e => Nat.le_trans hB (hr k e).1), fun r hm => Res.ok_grown (hs.ok r hm) hg (fun k e => (hr k e).2), hs.apart⟩
set_option maxHeartbeats 400000 in
theorem chunk_any (A : Option Addr) (T c : Nat) (w : World) :
    Calls Try.prog 49 #[.slice A T c, .int .i64 64] w fun e w' => ∃ bs bn, e = .returned (.func (.func 61) #[] #[.pointer (some ⟨bs, 0, none⟩), .pointer (some ⟨bn, 0, none⟩)]) ∧
      St w w' [.blk bn 3 #[.int .i64 64], .blk bs 22 #[.slice A T c]] := by
  go_enter Try.func49, Try.ntmps49
  have hs := St.nil w
  go_wp2_with (first
    | (with_reducible refine wpl_box (o := ⟨some 2, _, _, _, _, _⟩) hs rfl 22 _ rfl _ rfl ?_; clear hs; intro gs w' hs)
    | (with_reducible refine wpl_box (o := ⟨some 3, _, _, _, _, _⟩) hs rfl 3 _ rfl _ rfl ?_; clear hs; intro gn w' hs; have hc := hs.cell .head 0))
  go_ret
  exact ⟨gs, gn, rfl, hs⟩
end Go.Proofs.Ytleabipplchbpaa
