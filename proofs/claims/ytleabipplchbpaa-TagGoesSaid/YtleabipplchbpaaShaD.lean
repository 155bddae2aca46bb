/-
  Walks over SHA-256, part 4: one block, as the reference turns it.
-/
import Derived.Test.YtleabipplchbpaaShaC
namespace Go.Proofs.Ytleabipplchbpaa
open Go.RowKit
set_option maxRecDepth 100000
theorem right_17 (x : Nat) (hx : x < 4294967296) (w : World) : Calls Try.prog 69 #[.int .u32 x, .int .u64 17] w fun e w' => e = .returned (.int .u32 (rotr x 17)) ∧ w' = w :=
  (right_any x 17 hx (by decide) (by decide) w).mono fun _ _ h => ⟨h.1, h.2.symm⟩
theorem right_19 (x : Nat) (hx : x < 4294967296) (w : World) : Calls Try.prog 69 #[.int .u32 x, .int .u64 19] w fun e w' => e = .returned (.int .u32 (rotr x 19)) ∧ w' = w :=
  (right_any x 19 hx (by decide) (by decide) w).mono fun _ _ h => ⟨h.1, h.2.symm⟩
theorem right_7 (x : Nat) (hx : x < 4294967296) (w : World) : Calls Try.prog 69 #[.int .u32 x, .int .u64 7] w fun e w' => e = .returned (.int .u32 (rotr x 7)) ∧ w' = w :=
  (right_any x 7 hx (by decide) (by decide) w).mono fun _ _ h => ⟨h.1, h.2.symm⟩
theorem right_18 (x : Nat) (hx : x < 4294967296) (w : World) : Calls Try.prog 69 #[.int .u32 x, .int .u64 18] w fun e w' => e = .returned (.int .u32 (rotr x 18)) ∧ w' = w :=
  (right_any x 18 hx (by decide) (by decide) w).mono fun _ _ h => ⟨h.1, h.2.symm⟩
theorem right_6 (x : Nat) (hx : x < 4294967296) (w : World) : Calls Try.prog 69 #[.int .u32 x, .int .u64 6] w fun e w' => e = .returned (.int .u32 (rotr x 6)) ∧ w' = w :=
  (right_any x 6 hx (by decide) (by decide) w).mono fun _ _ h => ⟨h.1, h.2.symm⟩
theorem right_11 (x : Nat) (hx : x < 4294967296) (w : World) : Calls Try.prog 69 #[.int .u32 x, .int .u64 11] w fun e w' => e = .returned (.int .u32 (rotr x 11)) ∧ w' = w :=
  (right_any x 11 hx (by decide) (by decide) w).mono fun _ _ h => ⟨h.1, h.2.symm⟩
theorem right_25 (x : Nat) (hx : x < 4294967296) (w : World) : Calls Try.prog 69 #[.int .u32 x, .int .u64 25] w fun e w' => e = .returned (.int .u32 (rotr x 25)) ∧ w' = w :=
  (right_any x 25 hx (by decide) (by decide) w).mono fun _ _ h => ⟨h.1, h.2.symm⟩
theorem right_2 (x : Nat) (hx : x < 4294967296) (w : World) : Calls Try.prog 69 #[.int .u32 x, .int .u64 2] w fun e w' => e = .returned (.int .u32 (rotr x 2)) ∧ w' = w :=
  (right_any x 2 hx (by decide) (by decide) w).mono fun _ _ h => ⟨h.1, h.2.symm⟩
theorem right_13 (x : Nat) (hx : x < 4294967296) (w : World) : Calls Try.prog 69 #[.int .u32 x, .int .u64 13] w fun e w' => e = .returned (.int .u32 (rotr x 13)) ∧ w' = w :=
  (right_any x 13 hx (by decide) (by decide) w).mono fun _ _ h => ⟨h.1, h.2.symm⟩
theorem right_22 (x : Nat) (hx : x < 4294967296) (w : World) : Calls Try.prog 69 #[.int .u32 x, .int .u64 22] w fun e w' => e = .returned (.int .u32 (rotr x 22)) ∧ w' = w :=
  (right_any x 22 hx (by decide) (by decide) w).mono fun _ _ h => ⟨h.1, h.2.symm⟩
theorem word_or4 (x0 x1 x2 x3 : Nat) (h0 : x0 < 256) (h1 : x1 < 256) (h2 : x2 < 256) (h3 : x3 < 256) :
    bits BinOp.or IntKind.u32 (bits BinOp.or IntKind.u32 (bits BinOp.or IntKind.u32 ((x0 : Int) % 4294967296 * 16777216 % 4294967296) ((x1 : Int) % 4294967296 * 65536 % 4294967296)) ((x2 : Int) % 4294967296 * 256 % 4294967296)) ((x3 : Int) % 4294967296)
      = ((((x0 * 256 + x1) * 256 + x2) * 256 + x3 : Nat) : Int) := by
  have e0 : (x0 : Int) % 4294967296 * 16777216 % 4294967296 = ((x0 * 16777216 : Nat) : Int) := by omega
  have e1 : (x1 : Int) % 4294967296 * 65536 % 4294967296 = ((x1 * 65536 : Nat) : Int) := by omega
  have e2 : (x2 : Int) % 4294967296 * 256 % 4294967296 = ((x2 * 256 : Nat) : Int) := by omega
  have e3 : (x3 : Int) % 4294967296 = ((x3 : Nat) : Int) := by omega
  rw [e0, e1, e2, e3, u32_or_nat _ _ (by omega) (by omega), nat_join 24 _ _ (by omega) (by omega), u32_or_nat _ _ (by omega) (by omega), nat_join 16 _ _ (by omega) (by omega),
    u32_or_nat _ _ (by omega) (by omega), nat_join 8 _ _ (by omega) (by omega)]
  congr 1
  omega
theorem word_at (b : List Nat) (k : Nat) : ((at_ b (4 * k) * 256 + at_ b (4 * k + 1)) * 256 + at_ b (4 * k + 2)) * 256 + at_ b (4 * k + 3) = word b k := by
  simp only [word, wordTo, Nat.add_zero]; omega
theorem trs_bits (x y p c : Nat) (hx : rotr p x < 4294967296) (hy : rotr p y < 4294967296) (hp : p < 4294967296) :
    bits BinOp.xor IntKind.u32 (bits BinOp.xor IntKind.u32 ((rotr p x : Nat) : Int) ((rotr p y : Nat) : Int)) ((p : Int) / 2 ^ c) = ((trs p x y c : Nat) : Int) := by
  have hs : p / 2 ^ c < 4294967296 := Nat.lt_of_le_of_lt (Nat.div_le_self _ _) hp
  have := xor3 (rotr p x) (rotr p y) (p / 2 ^ c) hx hy hs
  rw [Int.natCast_ediv, Int.natCast_pow] at this
  exact this
theorem trs_bits10 (y : Nat) (hy : y < 4294967296) : bits BinOp.xor IntKind.u32 (bits BinOp.xor IntKind.u32 ((rotr y 17 : Nat) : Int) ((rotr y 19 : Nat) : Int)) ((y : Int) / 1024) = ((trs y 17 19 10 : Nat) : Int) := by
  have := trs_bits 17 19 y 10 (rotr_lt _ _ hy) (rotr_lt _ _ hy) hy
  rwa [show (2 : Int) ^ 10 = 1024 from by decide] at this
theorem trs_bits3 (y : Nat) (hy : y < 4294967296) : bits BinOp.xor IntKind.u32 (bits BinOp.xor IntKind.u32 ((rotr y 7 : Nat) : Int) ((rotr y 18 : Nat) : Int)) ((y : Int) / 8) = ((trs y 7 18 3 : Nat) : Int) := by
  have := trs_bits 7 18 y 3 (rotr_lt _ _ hy) (rotr_lt _ _ hy) hy
  rwa [show (2 : Int) ^ 3 = 8 from by decide] at this
theorem tri_bits (x a b c : Nat) (hx : x < 4294967296) : bits BinOp.xor IntKind.u32 (bits BinOp.xor IntKind.u32 ((rotr x a : Nat) : Int) ((rotr x b : Nat) : Int)) ((rotr x c : Nat) : Int) = ((tri x a b c : Nat) : Int) :=
  xor3 _ _ _ (rotr_lt _ _ hx) (rotr_lt _ _ hx) (rotr_lt _ _ hx)
set_option maxHeartbeats 6000000 in
theorem rturn_any (h b : List Nat) (hh : ∀ x ∈ h, x < 4294967296) (hl : h.length = 8) (hb : ∀ x ∈ b, x < 256) (hbl : b.length = 64) (w : World) :
    Calls Try.prog 59 #[.agg (ints .u32 h), .agg (ints .u8 b)] w fun e w' => e = .returned (.agg (ints .u32 (turn h b))) ∧ Below w.heap.size w w' := by
  have kl := ks_len
  go_enter Try.func59, Try.ntmps59
  have hs := St.nil w
  go_wp2_with (first
    | (with_reducible refine wpl_boxRow (o := ⟨some 2, _, _, _, _, _⟩) hs rfl 87 _ rfl (ints .u32 h) rfl ?_; clear hs; intro g2 w2 hs)
    | (with_reducible refine wpl_boxRow (o := ⟨some 3, _, _, _, _, _⟩) hs rfl 31 _ rfl (ints .u8 b) rfl ?_; clear hs; intro g3 w3 hs)
    | (with_reducible refine wpl_allocRow (o := ⟨some 4, _, _, _, _, _⟩) hs rfl 87 rfl _ (zero87 _) ?_; clear hs; intro g4 w4 hs)
    | (with_reducible refine wpl_allocRow (o := ⟨some 5, _, _, _, _, _⟩) hs rfl 104 rfl _ (zero104 _) ?_; clear hs; intro g5 w5 hs))
  clear w2 w3 w4
  rw [← wrow_zero b] at hs
  go_loopw [6] (fun t wr => ∃ k : Nat, k ≤ 64 ∧ t = .int .i64 k ∧ St w wr [.blk g5 104 (ints .u32 (wrow b k)), .blk g4 87 (ints .u32 (List.replicate 8 0)), .blk g3 31 (ints .u8 b), .blk g2 87 (ints .u32 h)]) (fun t _ => 64 - (intOf t).toNat)
  case atStart => exact ⟨0, by omega, rfl, hs⟩
  case round =>
    clear hs
    obtain ⟨k, hk, rfl, hs⟩ := hrel
    have hlen := wrow_len b k hk
    by_cases h64 : k < 64
    · have d1 : decide ((k : Int) < 64) = true := by simp; omega
      have i1 : (k : Int) < 64 := by omega
      have H64 : k < (wrow b k).length := by omega
      by_cases h16 : k < 16
      · have d2 : decide ((k : Int) < 16) = true := by simp; omega
        go_wp2_with fail
        refine reg_tail hs 31 (by kernel_rfl) (by kernel_rfl) ?_
        clear hs
        intro w6 hs
        have c0 := hs.num (g := g3) (.tail (.tail .head)) (i := 4 * k) (by omega)
        have c1 := hs.num (g := g3) (.tail (.tail .head)) (i := 4 * k + 1) (by omega)
        have c2 := hs.num (g := g3) (.tail (.tail .head)) (i := 4 * k + 2) (by omega)
        have c3 := hs.num (g := g3) (.tail (.tail .head)) (i := 4 * k + 3) (by omega)
        have e0 : (4 * (k : Int)).toNat = 4 * k := by omega
        have f0 : 0 ≤ 4 * (k : Int) := by omega
        have q0 : 4 * (k : Int) < 64 := by omega
        have e1 : (4 * (k : Int) + 1).toNat = 4 * k + 1 := by omega
        have f1 : 0 ≤ 4 * (k : Int) + 1 := by omega
        have q1 : 4 * (k : Int) + 1 < 64 := by omega
        have e2 : (4 * (k : Int) + 2).toNat = 4 * k + 2 := by omega
        have f2 : 0 ≤ 4 * (k : Int) + 2 := by omega
        have q2 : 4 * (k : Int) + 2 < 64 := by omega
        have e3 : (4 * (k : Int) + 3).toNat = 4 * k + 3 := by omega
        have f3 : 0 ≤ 4 * (k : Int) + 3 := by omega
        have q3 : 4 * (k : Int) + 3 < 64 := by omega
        have hv := word_or4 (at_ b (4 * k)) (at_ b (4 * k + 1)) (at_ b (4 * k + 2)) (at_ b (4 * k + 3)) (at_lt hb (by decide) _) (at_lt hb (by decide) _) (at_lt hb (by decide) _) (at_lt hb (by decide) _)
        rw [word_at] at hv
        simp only [List.take_succ_cons, List.take_zero, List.drop_succ_cons, List.drop_zero]
        repeat (refine wpStill_step (fun K hK => ?_); go_simp; (try go_bits); refine hK _ ?_; clear hK K)
        refine wpStill_nil ?_
        clear c0 c1 c2 c3 e0 e1 e2 e3 f0 f1 f2 f3 q0 q1 q2 q3 hv
        go_wp2_with (with_reducible refine wpl_storeInt hs rfl 86 _ _ rfl g5 k .u32 (word b k) rfl rfl 104 _ .head H64 info86 ?_; clear hs; intro w7 hs)
        rw [word_next b h16, wrow_set b h64] at hs
        go_roundw
        case rel => exact ⟨k + 1, by omega, by go_num, hs⟩
        case measure => simp [intOf]; omega
      · have d2 : decide ((k : Int) < 16) = false := by simp; omega
        have i2 : 16 ≤ (k : Int) := by omega
        have n2 : 16 ≤ k := by omega
        have hsm : ∀ x ∈ wrow b k, x < 4294967296 := by
          intro x hx
          rcases List.mem_append.1 hx with h | h
          · exact sched_lt hb k x h
          · rw [(List.mem_replicate.1 h).2]; decide
        have l1 := at_lt hsm (by decide) (k - 2)
        have l2 := at_lt hsm (by decide) (k - 15)
        have HN := Lib.hid (nextW_row b n2)
        clear hsm
        go_wp2_with fail
        refine reg_still hs (by kernel_rfl) (by kernel_rfl) ?_
        clear hs
        intro w6 hs
        have c1 := hs.num (g := g5) .head (i := k - 2) (by omega)
        have c3 := hs.num (g := g5) .head (i := k - 15) (by omega)
        have e1 : (k : Int) - 2 = ((k - 2 : Nat) : Int) := by omega
        have f1 : ((k - 2 : Nat) : Int) < 64 := by omega
        have e3 : (k : Int) - 15 = ((k - 15 : Nat) : Int) := by omega
        have f3 : ((k - 15 : Nat) : Int) < 64 := by omega
        repeat (refine wpStill_step (fun K hK => ?_); go_simp; (try go_bits); refine hK _ ?_; clear hK K)
        refine wpStill_nil ?_
        clear c1 c3
        go_wp2_with fail
        refine reg_tail hs 29 (by kernel_rfl) (by kernel_rfl) ?_
        clear hs
        intro w7 hs
        have c2 := hs.num (g := g5) .head (i := k - 7) (by omega)
        have c4 := hs.num (g := g5) .head (i := k - 16) (by omega)
        have e2 : (k : Int) - 7 = ((k - 7 : Nat) : Int) := by omega
        have f2 : ((k - 7 : Nat) : Int) < 64 := by omega
        have e4 : (k : Int) - 16 = ((k - 16 : Nat) : Int) := by omega
        have f4 : ((k - 16 : Nat) : Int) < 64 := by omega
        obtain ⟨x, hx⟩ : ∃ x, x = at_ (wrow b k) (k - 15) := ⟨_, rfl⟩
        obtain ⟨y, hy⟩ : ∃ y, y = at_ (wrow b k) (k - 2) := ⟨_, rfl⟩
        rw [← hx] at l2 HN ⊢
        rw [← hy] at l1 HN ⊢
        clear hx hy
        have wa := wrap_add
        have wt := trs_bits10 y l1
        have wu := trs_bits3 x l2
        simp only [List.take_succ_cons, List.take_zero, List.drop_succ_cons, List.drop_zero]
        repeat (refine wpStill_step (fun K hK => ?_); go_simp; (try go_bits); first | (refine hK _ ?_; clear hK K) | (with_reducible refine ⟨_, right_17 _ l1 _, hK _ ?_⟩; clear hK K) | (with_reducible refine ⟨_, right_19 _ l1 _, hK _ ?_⟩; clear hK K) | (with_reducible refine ⟨_, right_7 _ l2 _, hK _ ?_⟩; clear hK K) | (with_reducible refine ⟨_, right_18 _ l2 _, hK _ ?_⟩; clear hK K))
        refine wpStill_nil ?_
        clear c2 c4 e1 e2 e3 e4 f1 f2 f3 f4 wa wt wu
        go_wp2_with (with_reducible refine wpl_storeInt hs rfl 86 _ _ rfl g5 k .u32 _ rfl rfl 104 _ .head H64 info86 ?_; clear hs; intro w8 hs)
        rw [← HN.out, wrow_set b h64] at hs
        go_roundw
        case rel => exact ⟨k + 1, by omega, by go_num, hs⟩
        case measure => simp [intOf]; omega
    · have d1 : decide ((k : Int) < 64) = false := by simp; omega
      obtain ⟨S, hS⟩ : ∃ S, S = sched b 64 := ⟨_, rfl⟩
      have sl := sched_len b 64
      have ssm := sched_lt hb 64
      rw [← hS] at sl ssm
      rw [show k = 64 from by omega, wrow_full, ← hS] at hs
      have HS_ := Lib.hid hS
      clear hS hlen
      go_wp2_with (first
        | (go_at_call 70; refine (rtable_any _).mono ?_; rintro e w6 ⟨rfl, hb6⟩; replace hs := hs.call hb6; clear hb6)
        | (with_reducible refine wpl_allocRow (o := ⟨some 9, _, _, _, _, _⟩) hs rfl 104 rfl _ (zero104 _) ?_; clear hs; intro g9 w7 hs)
        | (with_reducible refine wpl_storeRow hs rfl 104 _ _ rfl g9 (ints .u32 ks) rfl rfl 104 _ .head row104 (sizeI kl) (sizeI List.length_replicate) (ints_oneCell _ _) ?_; clear hs; intro w8 hs)
        | (with_reducible refine wpl_loadRow hs rfl 87 _ rfl g2 rfl 87 _ (.tail (.tail (.tail (.tail .head)))) row87 (sizeI hl) ?_)
        | (with_reducible refine wpl_allocRow (o := ⟨some 10, _, _, _, _, _⟩) hs rfl 87 rfl _ (zero87 _) ?_; clear hs; intro g10 w9 hs)
        | (with_reducible refine wpl_storeRow hs rfl 87 _ _ rfl g10 (ints .u32 h) rfl rfl 87 _ .head row87 (sizeI hl) (sizeI List.length_replicate) (ints_oneCell _ _) ?_; clear hs; intro w10 hs))
      have hto : h = HS.to (rounds (HS.of h) S 0) := (to_of hl).symm
      have h0 : St w w10 [.blk g10 87 (ints .u32 (HS.to (rounds (HS.of h) S 0))), .blk g9 104 (ints .u32 ks), .blk g5 104 (ints .u32 S), .blk g4 87 (ints .u32 (List.replicate 8 0)), .blk g3 31 (ints .u8 b), .blk g2 87 (ints .u32 h)] := by rw [← hto]; exact hs
      clear hs hto
      go_loopw [11] (fun t wr => ∃ k : Nat, k ≤ 64 ∧ t = .int .i64 k ∧ St w wr [.blk g10 87 (ints .u32 (HS.to (rounds (HS.of h) S k))), .blk g9 104 (ints .u32 ks), .blk g5 104 (ints .u32 S), .blk g4 87 (ints .u32 (List.replicate 8 0)), .blk g3 31 (ints .u8 b), .blk g2 87 (ints .u32 h)]) (fun t _ => 64 - (intOf t).toNat)
      case atStart => exact ⟨0, by omega, rfl, h0⟩
      case round =>
        clear h0 d1 hk h64
        obtain ⟨k, hk, rfl, hs⟩ := hrel
        by_cases h64 : k < 64
        · have d1 : decide ((k : Int) < 64) = true := by simp; omega
          have i1 : (k : Int) < 64 := by omega
          have hsm := rounds_small (of_small hh) S k
          have hnext : rounds (HS.of h) S (k + 1) = round (rounds (HS.of h) S k) (at_ ks k) (at_ S k) := rfl
          obtain ⟨s, hse⟩ : ∃ s, s = rounds (HS.of h) S k := ⟨_, rfl⟩
          rw [← hse] at hs hsm hnext
          obtain ⟨la, lb, lc, ld, le, lf, lg, lh⟩ := hsm
          have HNX := Lib.hid hnext
          clear hnext hse
          go_wp2_with fail
          refine reg_still hs (by kernel_rfl) (by kernel_rfl) ?_
          clear hs
          intro w4 hs
          have c0 : w4.cell? ⟨g10, 0, none⟩ = some (.int .u32 s.a) := hs.num .head (by rw [to_len]; decide)
          have c1 : w4.cell? ⟨g10, 1, none⟩ = some (.int .u32 s.b) := hs.num .head (by rw [to_len]; decide)
          have c2 : w4.cell? ⟨g10, 2, none⟩ = some (.int .u32 s.c) := hs.num .head (by rw [to_len]; decide)
          have c3 : w4.cell? ⟨g10, 4, none⟩ = some (.int .u32 s.e) := hs.num .head (by rw [to_len]; decide)
          have c4 : w4.cell? ⟨g10, 5, none⟩ = some (.int .u32 s.f) := hs.num .head (by rw [to_len]; decide)
          have c5 : w4.cell? ⟨g10, 6, none⟩ = some (.int .u32 s.g) := hs.num .head (by rw [to_len]; decide)
          repeat (refine wpStill_step (fun K hK => ?_); go_simp; (try go_bits); refine hK _ ?_; clear hK K)
          refine wpStill_nil ?_
          clear c0 c1 c2 c3 c4 c5
          go_wp2_with fail
          refine reg_still hs (by kernel_rfl) (by kernel_rfl) ?_
          clear hs
          intro w5 hs
          have c0 : w5.cell? ⟨g10, 7, none⟩ = some (.int .u32 s.h) := hs.num .head (by rw [to_len]; decide)
          have c1 := hs.num (g := g9) (.tail .head) (i := k) (by rw [ks_len]; exact h64)
          have c2 := hs.num (g := g5) (.tail (.tail .head)) (i := k) (by rw [sl]; exact h64)
          have wa := wrap_add
          have wn := not_bits' s.e le
          have wn2 := not_bits s.e le
          have wc := cho_bits s.e s.f s.g le lf lg
          have wm := maj_bits s.a s.b s.c la lb lc
          have wt := tri_bits s.e 6 11 25 le
          have wu := tri_bits s.a 2 13 22 la
          repeat (refine wpStill_step (fun K hK => ?_); go_simp; (try go_bits); first | (refine hK _ ?_; clear hK K) | (with_reducible refine ⟨_, right_6 _ le _, hK _ ?_⟩; clear hK K) | (with_reducible refine ⟨_, right_11 _ le _, hK _ ?_⟩; clear hK K) | (with_reducible refine ⟨_, right_25 _ le _, hK _ ?_⟩; clear hK K))
          refine wpStill_nil ?_
          clear c0 c1 c2
          have c3 : w5.cell? ⟨g10, 3, none⟩ = some (.int .u32 s.d) := hs.num .head (by rw [to_len]; decide)
          go_wp2_with fail
          refine (right_2 _ la _).mono ?_; rintro e w' ⟨rfl, hw⟩; subst hw
          go_wp2_with fail
          refine (right_13 _ la _).mono ?_; rintro e w' ⟨rfl, hw⟩; subst hw
          go_wp2_with fail
          refine (right_22 _ la _).mono ?_; rintro e w' ⟨rfl, hw⟩; subst hw
          go_wp2_with (first | (with_reducible refine wpl_build (o := ⟨some 174, _, _, _, _, _⟩) rfl 87 _ rfl (ints .u32 (HS.to ⟨add (t1_ s (at_ ks k) (at_ S k)) (t2_ s), s.a, s.b, s.c, add s.d (t1_ s (at_ ks k) (at_ S k)), s.e, s.f, s.g⟩)) (by kernel_rfl) ?_) | (with_reducible refine wpl_storeRow hs rfl 87 _ _ rfl g10 (ints .u32 (HS.to ⟨add (t1_ s (at_ ks k) (at_ S k)) (t2_ s), s.a, s.b, s.c, add s.d (t1_ s (at_ ks k) (at_ S k)), s.e, s.f, s.g⟩)) rfl rfl 87 _ .head row87 (sizeI (to_len _)) (sizeI (to_len _)) (ints_oneCell _ _) ?_; clear hs; intro w6 hs))
          rw [← round_eq, ← HNX.out] at hs
          go_roundw
          case rel => exact ⟨k + 1, by omega, by go_num, hs⟩
          case measure => simp [intOf]; omega
        · have d1 : decide ((k : Int) < 64) = false := by simp; omega
          obtain ⟨V, hV⟩ : ∃ V, V = HS.to (rounds (HS.of h) S 64) := ⟨_, rfl⟩
          have vl : V.length = 8 := by rw [hV]; rfl
          rw [show k = 64 from by omega, ← hV, ← addTo_zero V h] at hs
          have HV := Lib.hid hV
          clear hV
          go_wp2_with fail
          go_loopw [20] (fun t wr => ∃ j : Nat, j ≤ 8 ∧ t = .int .i64 j ∧ St w wr [.blk g10 87 (ints .u32 (addTo V h j)), .blk g9 104 (ints .u32 ks), .blk g5 104 (ints .u32 S), .blk g4 87 (ints .u32 (List.replicate 8 0)), .blk g3 31 (ints .u8 b), .blk g2 87 (ints .u32 h)]) (fun t _ => 8 - (intOf t).toNat)
          case atStart => exact ⟨0, by omega, rfl, hs⟩
          case round =>
            clear hs
            obtain ⟨j, hj, rfl, hs⟩ := hrel
            have al := addTo_len vl hl j hj
            by_cases h8 : j < 8
            · have d2 : decide ((j : Int) < 8) = true := by simp; omega
              have i2 : (j : Int) < 8 := by omega
              go_wp2_with fail
              refine reg_tail hs 8 (by kernel_rfl) (by kernel_rfl) ?_
              clear hs
              intro w4 hs
              have c1 := hs.num (g := g10) .head (i := j) (by omega)
              rw [addTo_at vl hl h8] at c1
              have c2 := hs.num (g := g2) (.tail (.tail (.tail (.tail (.tail .head))))) (i := j) (by omega)
              have wa := wrap_add
              have hlt : j < (addTo V h j).length := by omega
              simp only [List.take_succ_cons, List.take_zero, List.drop_succ_cons, List.drop_zero]
              repeat (refine wpStill_step (fun K hK => ?_); go_simp; (try go_bits); refine hK _ ?_; clear hK K)
              refine wpStill_nil ?_
              clear c1 c2 wa
              go_wp2_with (with_reducible refine wpl_storeInt hs rfl 86 _ _ rfl g10 j .u32 (add (at_ V j) (at_ h j)) rfl rfl 87 _ .head hlt info86 ?_; clear hs; intro w5 hs)
              rw [addTo_set vl hl h8] at hs
              go_roundw
              case rel => exact ⟨j + 1, by omega, by go_num, hs⟩
              case measure => simp [intOf]; omega
            · have d2 : decide ((j : Int) < 8) = false := by simp; omega
              have ht : addTo V h j = turn h b := by rw [show j = 8 from by omega, addTo_full vl hl, turn_eq, HV.out, HS_.out]
              obtain ⟨T, hT⟩ : ∃ T, T = turn h b := ⟨_, rfl⟩
              rw [ht, ← hT] at hs
              rw [ht, ← hT] at al
              have HT := Lib.hid hT
              clear hT ht
              go_wp2_with (first | (with_reducible refine wpl_loadRow hs rfl 87 _ rfl g10 rfl 87 _ .head row87 (sizeI al) ?_) | (with_reducible refine wpl_storeRow hs rfl 87 _ _ rfl g4 (ints .u32 T) rfl rfl 87 _ (.tail (.tail (.tail .head))) row87 (sizeI al) (sizeI List.length_replicate) (ints_oneCell _ _) ?_; clear hs; intro w5 hs))
              exact ret_row hs rfl g4 87 _ rfl (.tail (.tail (.tail .head))) row87 (sizeI al) rfl ⟨by rw [HT.out], hs.below⟩
end Go.Proofs.Ytleabipplchbpaa
