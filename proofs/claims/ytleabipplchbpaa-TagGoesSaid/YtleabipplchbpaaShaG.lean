/-
  Walks over SHA-256, part 7: slices.Grow from nil, slices.Concat.
-/
import Derived.Test.YtleabipplchbpaaShaC
import Derived.Test.YtleabipplchbpaaShaF
import Derived.Lib.AppendZeros
import Derived.RangeFuncNested
import Derived.RangeFuncBound
import Derived.RangeFuncCalls
import Derived.RangeFuncLeaves
import Derived.Shelf.Abstract
import Derived.OwnWalkIn
import Derived.TacticsInMore
import Derived.LoopNIn
import Derived.LoopIn
namespace Go.Proofs.Ytleabipplchbpaa
open Go.RowKit
set_option maxRecDepth 100000
theorem zeroCells_size (z : Array Value) (n : Nat) (hz : z.size = 1) : (Builtin.zeroCells z n).size = n := by simp [Builtin.zeroCells, hz]
set_option maxHeartbeats 400000 in
theorem grow_nil (n : Nat) (hn : n ≤ 1000000) (w : World) :
    Calls Try.prog 60 #[.slice none 0 0, .int .i64 n] w fun e w' => ∃ A c, e = .returned (.slice A 0 c) ∧ (numsR A 0 c 5 .u8 []).ok w.heap.size w' ∧ Below w.heap.size w w' := by
  obtain ⟨i, z, hi, hz, hsize, hby, hzs, hsz⟩ := el5
  rcases Nat.eq_zero_or_pos n with h0 | h0
  · subst h0
    go_enter Try.func60, Try.ntmps60
    go_wp2_with fail
    go_ret
    exact ⟨none, 0, rfl, World.ownsRow_nil _ _ _ _, Below.refl _ _⟩
  · have hrun := fun W : World => Lib.run_append_nil_zeros (P := Try.prog) W 22 3 22 5 i z .i64 .i64 Try.underlying22 Try.underlying3 hi hz n h0 (by omega) (by omega) (by rw [hby]; omega)
    have hge := fun W : World => grownCap_ge W n 0 5
    have hle := fun W : World => grownCap_le_maxLen W n 0 5 (by unfold maxLen; omega)
    obtain ⟨zc, hzc⟩ : ∃ zc, zc = z.cells := ⟨_, rfl⟩
    rw [← hzc] at hzs
    simp only [← hzc] at hrun
    have HR := Lib.hid hrun
    have HG := Lib.hid hge
    have HL := Lib.hid hle
    clear hrun hge hle hzc hi hz hsize hby hsz
    go_enter Try.func60, Try.ntmps60
    go_wp2_with (at_builtin; go_must (refine Lib.wpList_append_run _ rfl _ _ 22 3 rfl _ _ rfl rfl _ _ (HR.out _) ?_))
    go_ret
    refine ⟨_, _, rfl, ⟨rfl, .inr ⟨w.heap.size, _, _, rfl, Nat.le_refl _, heap_alloc_new w _, Nat.zero_le _, HL.out w, ?_, rfl⟩⟩, ((Below.refl _ _).alloc (Nat.le_refl _) _).drew⟩
    rw [Array.size_append, zeroCells_size _ _ hzs, zeroCells_size _ _ hzs]
    have := HG.out w
    omega
set_option maxHeartbeats 1000000 in
theorem concat_any (ps : List (List Nat)) (hps : ps.flatten.length ≤ 500000) (A : Option Addr) (n c : Nat) (w : World) (hp : RdP w A n ps) (hn : n ≤ 1000000) :
    Calls Try.prog 47 #[.slice A n c] w fun e w' => ∃ B cb, e = .returned (.slice B ps.flatten.length cb) ∧ (numsR B ps.flatten.length cb 5 .u8 ps.flatten).ok w.heap.size w' ∧ Below w.heap.size w w' := by
  have hpl := hp.1
  go_enter Try.func47, Try.ntmps47
  have hs := St.nil w
  go_wp2_with fail
  go_loopw [3, 11] (fun v t wr => ∃ (i m : Nat), i ≤ n ∧ t = .int .i64 i ∧ m = (ps.take i).flatten.length ∧ v = .int .i64 m ∧ St w wr []) (fun _ t _ => n - (intOf t).toNat)
  case atStart => exact ⟨0, 0, by omega, rfl, by simp, rfl, hs⟩
  case round =>
    clear hs
    obtain ⟨i, m, hi, rfl, hm, rfl, hs⟩ := hrel
    have HM := Lib.hid hm
    have hm2 : m ≤ 500000 := by have := flat_take_le ps i; omega
    clear hm
    by_cases hin : i < n
    · have d1 : decide ((i : Int) < (n : Int)) = true := by simp; omega
      have i1 : (i : Int) < (n : Int) := by omega
      obtain ⟨l, hl⟩ : ∃ l, ps[i]? = some l := ⟨_, List.getElem?_eq_getElem (by omega)⟩
      obtain ⟨ad, B2, c2, hA, hc, hr⟩ := (hp.st hs).2 i l hl
      have hl2 : m + l.length ≤ 500000 := by
        have := flat_take_le ps (i + 1)
        rw [← flat_take_succ ps i l hl, List.length_append, ← HM.out] at this
        omega
      have HL := Lib.hid hl
      clear hl
      subst hA
      clear hpl hr
      obtain ⟨q, hq⟩ : ∃ q, q = l.length := ⟨_, rfl⟩
      rw [← hq] at hc hl2
      have HQ := Lib.hid hq
      clear hq
      have d2 : decide ((m : Int) + (q : Int) < 0) = false := by simp; omega
      have i2 : 0 ≤ (m : Int) + (q : Int) := by omega
      go_wp2_with fail
      go_roundw
      case rel => exact ⟨i + 1, m + q, by omega, by go_num, by rw [← flat_take_succ ps i l HL.out, List.length_append, HM.out, HQ.out], by go_num, hs⟩
      case measure => simp [intOf]; omega
    · have d1 : decide ((i : Int) < (n : Int)) = false := by simp; omega
      have i1 : (n : Int) ≤ (i : Int) := by omega
      clear HM
      go_wp2_with (go_at_call 60; refine (grow_nil m (by omega) _).mono ?_; rintro e w3 ⟨A3, c3, rfl, ho3, hb3⟩; replace hs := hs.push hb3 ho3; clear hb3 ho3)
      go_loopw [6, 27] (fun v t wr => ∃ (i : Nat) (B : Option Addr) (m cb : Nat), i ≤ n ∧ t = .int .i64 i ∧ m = (ps.take i).flatten.length ∧ v = .slice B m cb ∧ St w wr [numsR B m cb 5 .u8 (ps.take i).flatten]) (fun _ t _ => n - (intOf t).toNat)
      case atStart => exact ⟨0, A3, 0, c3, by omega, rfl, by simp, rfl, by simpa using hs⟩
      case round =>
        clear hs d1 hin hi i1
        obtain ⟨i, B, m, cb, hi, rfl, hm, rfl, hs⟩ := hrel
        have HM := Lib.hid hm
        have hm2 : m ≤ 500000 := by have := flat_take_le ps i; omega
        clear hm
        by_cases hin : i < n
        · have d1 : decide ((i : Int) < (n : Int)) = true := by simp; omega
          have i1 : (i : Int) < (n : Int) := by omega
          obtain ⟨l, hl⟩ : ∃ l, ps[i]? = some l := ⟨_, List.getElem?_eq_getElem (by omega)⟩
          obtain ⟨ad, B2, c2, hA, hc, hr⟩ := (hp.st hs).2 i l hl
          have hl2 : m + l.length ≤ 500000 := by
            have := flat_take_le ps (i + 1)
            rw [← flat_take_succ ps i l hl, List.length_append, ← HM.out] at this
            omega
          have HL := Lib.hid hl
          clear hl
          subst hA
          clear hpl
          obtain ⟨q, hq⟩ : ∃ q, q = l.length := ⟨_, rfl⟩
          rw [← hq] at hc hr hl2
          have HQ := Lib.hid hq
          clear hq
          go_wp2_with (at_builtin; go_must (with_reducible refine wpl_appendI (m := q) hs rfl _ _ 22 rfl rfl rfl (fun _ _ => .head) hr Try.underlying22 el5 (by unfold maxLen; omega) (by omega) ?_); clear hs; intro A' c' w3 _ hs)
          rw [flat_take_succ ps i l HL.out] at hs
          go_roundw
          case rel => exact ⟨i + 1, A', m + q, c', by omega, by go_num, by rw [← flat_take_succ ps i l HL.out, List.length_append, HM.out, HQ.out], rfl, hs⟩
          case measure => simp [intOf]; omega
        · have d1 : decide ((i : Int) < (n : Int)) = false := by simp; omega
          have i1 : (n : Int) ≤ (i : Int) := by omega
          have hfl : (ps.take i).flatten = ps.flatten := by rw [List.take_of_length_le (by omega)]
          have hm' : m = ps.flatten.length := by rw [HM.out, hfl]
          rw [hfl] at hs
          have HM2 := Lib.hid hm'
          clear hfl hm' HM
          go_wp2_with fail
          go_ret
          exact ⟨B, cb, by rw [← HM2.out]; rfl, by rw [← HM2.out]; exact hs.ok _ (List.mem_cons_self ..), hs.below⟩
end Go.Proofs.Ytleabipplchbpaa
