/-
  Walks over SHA-256, part 2: the schedule.
-/
import Derived.Test.YtleabipplchbpaaShaA
namespace Go.Proofs.Ytleabipplchbpaa
open Go.RowKit
set_option maxRecDepth 100000
theorem or_word {b : List Nat} (hb : ∀ x ∈ b, x < 256) (k j : Nat) (hj : j < 4) :
    bits BinOp.or IntKind.u32 ((wordTo b k j : Int) * 256 % 4294967296) ((at_ b (4 * k + j) : Nat) % 4294967296) = ((wordTo b k (j + 1) : Nat) : Int) := by
  have h1 := wordTo_lt hb k j
  have h2 := at_lt hb (by decide) (4 * k + j)
  have h3 : 256 ^ j ≤ 16777216 := by
    have : j = 0 ∨ j = 1 ∨ j = 2 ∨ j = 3 := by omega
    rcases this with rfl | rfl | rfl | rfl <;> decide
  have e1 : ((wordTo b k j : Int) * 256 % 4294967296) = ((wordTo b k j * 256 : Nat) : Int) := by omega
  have e2 : ((at_ b (4 * k + j) : Int) % 4294967296) = ((at_ b (4 * k + j) : Nat) : Int) := by omega
  rw [e1, e2, u32_or_nat _ _ (by omega) (by omega), nat_join 8 _ _ (by omega) (by omega)]
  rfl
theorem word_next (b : List Nat) {k : Nat} (h : k < 16) : word b k = nextW b (sched b k) k := by rw [nextW, if_pos h]
set_option maxHeartbeats 600000 in
theorem schedule_any (b : List Nat) (hb : ∀ x ∈ b, x < 256) (hl : b.length = 64) (w : World) :
    Calls Try.prog 63 #[.agg (ints .u8 b)] w fun e w' => e = .returned (.agg (ints .u32 (sched b 64))) ∧ Below w.heap.size w w' := by
  go_enter Try.func63, Try.ntmps63
  have hs := St.nil w
  go_wp2_with (first | (with_reducible refine wpl_boxRow hs rfl 31 _ rfl (ints .u8 b) rfl ?_; clear hs; intro g1 w1 hs) | (with_reducible refine wpl_allocRow (o := ⟨some 2, _, _, _, _, _⟩) hs rfl 104 rfl _ (zero104 _) ?_; clear hs; intro g2 w2 hs) | (with_reducible refine wpl_allocRow (o := ⟨some 3, _, _, _, _, _⟩) hs rfl 104 rfl _ (zero104 _) ?_; clear hs; intro g3 w3 hs))
  rw [← wrow_zero b] at hs
  go_loopw [6] (fun t wr => ∃ k : Nat, k ≤ 64 ∧ t = .int .i64 k ∧ St w wr [.blk g3 104 (ints .u32 (wrow b k)), .blk g2 104 (ints .u32 (wrow b 0)), .blk g1 31 (ints .u8 b)]) (fun t _ => 64 - (intOf t).toNat)
  case atStart => exact ⟨0, by omega, rfl, hs⟩
  case round =>
    clear hs
    obtain ⟨k, hk, rfl, hs⟩ := hrel
    by_cases h64 : k < 64
    · have d1 : decide ((k : Int) < 64) = true := by simp; omega
      have i1 : (k : Int) < 64 := by omega
      by_cases h16 : k < 16
      · have d2 : decide ((k : Int) < 16) = true := by simp; omega
        go_wp2_with fail
        go_loopw [11] (fun i wr' => ∃ j : Nat, j ≤ 4 ∧ i = .int .i64 j ∧ St w wr' [.blk g3 104 (ints .u32 ((wrow b k).set k (wordTo b k j))), .blk g2 104 (ints .u32 (wrow b 0)), .blk g1 31 (ints .u8 b)]) (fun i _ => 4 - (intOf i).toNat)
        case atStart => 
          refine ⟨0, by omega, rfl, ?_⟩
          have e : (wrow b k).set k (wordTo b k 0) = wrow b k := by
            refine list_ext_at (by simp) fun i _ => ?_
            rw [at_set _ _ _ _ (by rw [wrow_len b k (by omega)]; exact h64)]
            split
            · rename_i h; rw [h, wrow_at0 b (Nat.le_refl _)]; rfl
            · rfl
          rw [e]; exact hs
        case round =>
          clear hs
          obtain ⟨j, hj, rfl, hs⟩ := hrel
          by_cases h4 : j < 4
          · have d3 : decide ((j : Int) < 4) = true := by simp; omega
            go_wp2_with fail
            refine reg_tail hs 14 (by kernel_rfl) (by kernel_rfl) ?_
            clear hs
            intro w4 hs
            have hlen : k < ((wrow b k).set k (wordTo b k j)).length := by rw [List.length_set, wrow_len b k (by omega)]; exact h64
            have c1 := hs.num (g := g3) .head (i := k) hlen
            rw [at_set _ _ _ _ (by rw [wrow_len b k (by omega)]; exact h64), if_pos rfl] at c1
            have c2 := hs.num (g := g1) (.tail (.tail .head)) (i := 4 * k + j) (by omega)
            have hv := or_word hb k j h4
            have t1 : (4 * (k : Int) + (j : Int)).toNat = 4 * k + j := by omega
            have t2 : 0 ≤ 4 * (k : Int) + (j : Int) := by omega
            have t3 : 4 * (k : Int) + (j : Int) < 64 := by omega
            simp only [List.take_succ_cons, List.take_zero, List.drop_succ_cons, List.drop_zero]
            repeat (refine wpStill_step (fun K hK => ?_); go_simp; (try go_bits); refine hK _ ?_; clear hK K)
            refine wpStill_nil ?_
            clear c1 c2 t1 t2 t3 hv
            go_wp2_with (with_reducible refine wpl_storeInt hs rfl 86 _ _ rfl g3 k .u32 (wordTo b k (j + 1)) rfl rfl 104 _ .head hlen info86 ?_; clear hs; intro w5 hs)
            rw [List.set_set] at hs
            go_roundw
            case rel => exact ⟨j + 1, by omega, by go_num, hs⟩
            case measure => simp [intOf]; omega
          · have d3 : decide ((j : Int) < 4) = false := by simp; omega
            obtain rfl : j = 4 := by omega
            rw [show wordTo b k 4 = nextW b (sched b k) k from word_next b h16, wrow_set b h64] at hs
            go_wp2_with fail
            go_roundw
            case rel => exact ⟨k + 1, by omega, by go_num, hs⟩
            case measure => simp [intOf]; omega
      · have d2 : decide ((k : Int) < 16) = false := by simp; omega
        have i2 : 16 ≤ (k : Int) := by omega
        have n2 : 16 ≤ k := by omega
        go_wp2_with fail
        refine reg_tail hs 23 (by kernel_rfl) (by kernel_rfl) ?_
        clear hs
        intro w4 hs
        have hlen := wrow_len b k hk
        have hsm : ∀ x ∈ wrow b k, x < 4294967296 := by
          intro x hx
          rcases List.mem_append.1 hx with h | h
          · exact sched_lt hb k x h
          · rw [(List.mem_replicate.1 h).2]; decide
        have l1 := at_lt hsm (by decide) (k - 2)
        have l2 := at_lt hsm (by decide) (k - 15)
        have c1 := hs.num (g := g3) .head (i := k - 2) (by omega)
        have c2 := hs.num (g := g3) .head (i := k - 7) (by omega)
        have c3 := hs.num (g := g3) .head (i := k - 15) (by omega)
        have c4 := hs.num (g := g3) .head (i := k - 16) (by omega)
        have HN := Lib.hid (nextW_row b n2)
        have e1 : (k : Int) - 2 = ((k - 2 : Nat) : Int) := by omega
        have f1 : ((k - 2 : Nat) : Int) < 64 := by omega
        have e2 : (k : Int) - 7 = ((k - 7 : Nat) : Int) := by omega
        have f2 : ((k - 7 : Nat) : Int) < 64 := by omega
        have e3 : (k : Int) - 15 = ((k - 15 : Nat) : Int) := by omega
        have f3 : ((k - 15 : Nat) : Int) < 64 := by omega
        have e4 : (k : Int) - 16 = ((k - 16 : Nat) : Int) := by omega
        have f4 : ((k - 16 : Nat) : Int) < 64 := by omega
        have H64 : k < (wrow b k).length := by omega
        clear hsm hlen
        have wa := wrap_add
        simp only [List.take_succ_cons, List.take_zero, List.drop_succ_cons, List.drop_zero]
        repeat (refine wpStill_step (fun K hK => ?_); go_simp; (try go_bits); first | (refine hK _ ?_; clear hK K) | (with_reducible refine ⟨_, turned_17 _ l1 _, hK _ ?_⟩; clear hK K) | (with_reducible refine ⟨_, turned_7 _ l2 _, hK _ ?_⟩; clear hK K))
        refine wpStill_nil ?_
        clear c1 c2 c3 c4 e1 e2 e3 e4 f1 f2 f3 f4 wa l1 l2
        go_wp2_with (with_reducible refine wpl_storeInt hs rfl 86 _ _ rfl g3 k .u32 _ rfl rfl 104 _ .head H64 info86 ?_; clear hs; intro w5 hs)
        rw [← HN.out, wrow_set b h64] at hs
        go_roundw
        case rel => exact ⟨k + 1, by omega, by go_num, hs⟩
        case measure => simp [intOf]; omega
    · have d1 : decide ((k : Int) < 64) = false := by simp; omega
      have hw : wrow b k = sched b 64 := by rw [show k = 64 from by omega, wrow_full]
      rw [hw] at hs
      clear hw
      have hl64 := sched_len b 64
      obtain ⟨sl, hsl⟩ : ∃ sl, sl = sched b 64 := ⟨_, rfl⟩
      rw [← hsl] at hs hl64
      have HSL := Lib.hid hsl
      clear hsl
      have hz0 := wrow_len b 0 (by omega)
      generalize wrow b 0 = s0 at hs hz0
      go_wp2_with (first | (with_reducible refine wpl_loadRow hs rfl 104 _ rfl g3 rfl 104 _ .head row104 (sizeI hl64) ?_) | (with_reducible refine wpl_storeRow hs rfl 104 _ _ rfl g2 (ints .u32 sl) rfl rfl 104 _ (.tail .head) row104 (sizeI hl64) (sizeI hz0) (ints_oneCell _ _) ?_; clear hs; intro w5 hs))
      exact ret_row hs rfl g2 104 _ rfl (.tail .head) row104 (sizeI hl64) rfl ⟨by rw [HSL.out], hs.below⟩
end Go.Proofs.Ytleabipplchbpaa
