/-
  Walks over chains, part 3: tag.Same.
-/
import Derived.Test.YtleabipplchbpaaTagB
namespace Go.Proofs.Ytleabipplchbpaa
open Go.RowKit
set_option maxRecDepth 100000
/-- What the first k bytes differ by. -/
def orTo (l m : List Nat) : Nat → Nat
  | 0 => 0
  | k + 1 => orTo l m k ||| (at_ l k ^^^ at_ m k)
theorem orTo_lt {l m : List Nat} (hl : ∀ x ∈ l, x < 256) (hm : ∀ x ∈ m, x < 256) : ∀ k, orTo l m k < 256
  | 0 => by simp [orTo]
  | k + 1 => Nat.or_lt_two_pow (n := 8) (orTo_lt hl hm k) (xor8_lt (at_lt hl (by decide) k) (at_lt hm (by decide) k))
theorem xor_zero (a b : Nat) : a ^^^ b = 0 ↔ a = b := by
  constructor
  · intro h
    have : (a ^^^ b) ^^^ b = 0 ^^^ b := by rw [h]
    rwa [Nat.xor_assoc, Nat.xor_self, Nat.xor_zero, Nat.zero_xor] at this
  · intro h
    rw [h, Nat.xor_self]
theorem orTo_zero (l m : List Nat) : ∀ k, orTo l m k = 0 ↔ ∀ i, i < k → at_ l i = at_ m i
  | 0 => by simp [orTo]
  | k + 1 => by
    rw [orTo, Nat.or_eq_zero_iff, orTo_zero l m k, xor_zero]
    constructor
    · rintro ⟨h1, h2⟩ i hi
      rcases Nat.lt_or_ge i k with h | h
      · exact h1 i h
      · rw [show i = k by omega]; exact h2
    · intro h
      exact ⟨fun i hi => h i (by omega), h k (by omega)⟩
theorem same_or {l m : List Nat} (h : l.length = m.length) : sameB l m = decide (orTo l m l.length = 0) := by
  rw [sameB]
  refine decide_eq_decide.2 ?_
  rw [orTo_zero]
  exact ⟨fun e i _ => by rw [e], fun e => list_ext_at h e⟩
set_option maxHeartbeats 1000000 in
theorem same_any (l m : List Nat) (hl : ∀ x ∈ l, x < 256) (hm : ∀ x ∈ m, x < 256) (A B : Option Addr) (n c k d : Nat) (hn : n ≤ 9223372036854775807) (w : World) (hA : RdI w .u8 A n l) (hB : RdI w .u8 B k m) :
    Calls Try.prog 26 #[.slice A n c, .slice B k d] w fun e w' => e = .returned (.bool (sameB l m)) ∧ Below w.heap.size w w' := by
  have ll := hA.len
  have ml := hB.len
  by_cases hnk : n = k
  · subst hnk
    have so := same_or (l := l) (m := m) (by omega)
    rw [ll] at so
    have SO := Lib.hid so
    clear so
    go_enter Try.func26, Try.ntmps26
    have hs := St.nil w
    go_wp2_with fail
    go_loopw [5, 14] (fun o t wr => ∃ i F : Nat, i ≤ n ∧ F < 256 ∧ F = orTo l m i ∧ t = .int .i64 i ∧ o = .int .u8 F ∧ St w wr []) (fun _ t _ => n - (intOf t).toNat)
    case atStart => exact ⟨0, 0, by omega, by omega, rfl, rfl, rfl, hs⟩
    case round =>
      clear hs
      obtain ⟨i, F, hi, hF, hFo, rfl, rfl, hs⟩ := hrel
      have HF := Lib.hid hFo
      clear hFo
      by_cases hlt : i < n
      · have d1 : decide ((i : Int) < (n : Int)) = true := by simp; omega
        have i1 : (i : Int) < (n : Int) := by omega
        obtain ⟨ad, hAe, hc1⟩ := hA.2 i _ (cellsI_get (by omega))
        obtain ⟨bd, hBe, hc2⟩ := hB.2 i _ (cellsI_get (by omega))
        subst hAe hBe
        have x1 := u8_xor_nat (at_ l i) (at_ m i) (at_lt hl (by decide) i) (at_lt hm (by decide) i)
        have x2 := u8_or_nat F (at_ l i ^^^ at_ m i) hF (xor8_lt (at_lt hl (by decide) i) (at_lt hm (by decide) i))
        have b1 := at_lt hl (by decide) i
        have b2 := at_lt hm (by decide) i
        have b3 := xor8_lt b1 b2
        go_wp2_with fail
        refine reg_still hs (by kernel_rfl) (by kernel_rfl) ?_
        clear hs
        intro w4 hs
        have c1 := (hs.below.cell (block_lt_of_cell hc1)).trans hc1
        have c2 := (hs.below.cell (block_lt_of_cell hc2)).trans hc2
        clear hc1 hc2
        repeat (refine wpStill_step (fun K hK => ?_); go_simp; refine hK _ ?_; clear hK K)
        refine wpStill_nil ?_
        clear c1 c2 x1 x2
        go_wp2_with fail
        go_roundw
        case rel => exact ⟨i + 1, F ||| (at_ l i ^^^ at_ m i), by omega, Nat.or_lt_two_pow (n := 8) hF b3, by rw [HF.out]; rfl, by go_num, rfl, hs⟩
        case measure => simp [intOf]; omega
      · have d1 : decide ((i : Int) < (n : Int)) = false := by simp; omega
        have i1 : (n : Int) ≤ (i : Int) := by omega
        obtain rfl : i = n := by omega
        have hFz : sameB l m = decide (F = 0) := by rw [SO.out, HF.out]
        by_cases h0 : F = 0
        · subst h0
          have hFz2 : sameB l m = true := by rw [hFz]; rfl
          clear hFz
          have HZ := Lib.hid hFz2
          clear hFz2
          go_wp2_with fail
          go_ret
          exact ⟨by rw [HZ.out]; rfl, hs.below⟩
        · have z1 : ¬ ((F : Int) = 0) := by omega
          have z2 : ((F : Int) == 0) = false := by simpa using h0
          have hFz2 : sameB l m = false := by rw [hFz]; simp [h0]
          clear hFz
          have HZ := Lib.hid hFz2
          clear hFz2
          go_wp2_with fail
          go_ret
          exact ⟨by rw [HZ.out]; rfl, hs.below⟩
  · have z1 : ¬ ((n : Int) = (k : Int)) := by omega
    have z2 : ((n : Int) == (k : Int)) = false := by simp; omega
    have z3 : ((n : Int) != (k : Int)) = true := by simp; omega
    have hf : sameB l m = false := by
      rw [sameB]
      exact decide_eq_false fun e => hnk (by rw [← ll, ← ml, e])
    have HZ := Lib.hid hf
    clear hf
    go_enter Try.func26, Try.ntmps26
    go_wp2_with fail
    go_ret
    exact ⟨by rw [HZ.out]; rfl, Below.refl _ _⟩
end Go.Proofs.Ytleabipplchbpaa
