/-
  Walks over SHA-256, part 3: one block, as the program turns it.
-/
import Derived.Test.YtleabipplchbpaaShaB
namespace Go.Proofs.Ytleabipplchbpaa
open Go.RowKit
set_option maxRecDepth 100000
theorem under86 : Try.prog.underlying 86 = some (.int .u32) := Try.underlying86
theorem not_bits (e : Nat) (he : e < 4294967296) : bits BinOp.xor IntKind.u32 IntKind.u32.max (e : Int) = ((4294967295 - e : Nat) : Int) := by
  have h1 : IntKind.u32.max = ((4294967295 : Nat) : Int) := by decide
  rw [h1, u32_xor_nat _ _ (by decide) he]
  congr 1
  have h2 : (BitVec.allOnes 32 ^^^ BitVec.ofNat 32 e).toNat = 4294967295 - e := by
    rw [BitVec.allOnes_xor, BitVec.toNat_not, BitVec.toNat_ofNat, Nat.mod_eq_of_lt (by omega)]
  rw [← h2, BitVec.toNat_xor, BitVec.toNat_ofNat, Nat.mod_eq_of_lt (by omega)]
  rfl
theorem not_bits' (e : Nat) (he : e < 4294967296) : bits BinOp.xor IntKind.u32 (if IntKind.u32.signed = true then -1 else IntKind.u32.max) (e : Int) = ((4294967295 - e : Nat) : Int) := not_bits e he
theorem cho_bits (e f g : Nat) (he : e < 4294967296) (hf : f < 4294967296) (hg : g < 4294967296) :
    bits BinOp.xor IntKind.u32 (bits BinOp.and IntKind.u32 (e : Int) (f : Int)) (bits BinOp.and IntKind.u32 ((4294967295 - e : Nat) : Int) (g : Int)) = ((cho e f g : Nat) : Int) := by
  rw [u32_and_nat _ _ he hf, u32_and_nat _ _ (by omega) hg, u32_xor_nat _ _ (and_lt he) (and_lt (by omega))]
  rfl
theorem maj_bits (a b c : Nat) (ha : a < 4294967296) (hb : b < 4294967296) (hc : c < 4294967296) :
    bits BinOp.xor IntKind.u32 (bits BinOp.xor IntKind.u32 (bits BinOp.and IntKind.u32 (a : Int) (b : Int)) (bits BinOp.and IntKind.u32 (a : Int) (c : Int))) (bits BinOp.and IntKind.u32 (b : Int) (c : Int)) = ((maj a b c : Nat) : Int) := by
  rw [u32_and_nat _ _ ha hb, u32_and_nat _ _ ha hc, u32_and_nat _ _ hb hc, u32_xor_nat _ _ (and_lt ha) (and_lt ha), u32_xor_nat _ _ (xor_lt (and_lt ha) (and_lt ha)) (and_lt hb)]
  rfl
theorem schedule_as {b S : List Nat} (hS : Hid (S = sched b 64)) (hb : ∀ x ∈ b, x < 256) (hl : b.length = 64) (w : World) :
    Calls Try.prog 63 #[.agg (ints .u8 b)] w fun e w' => e = .returned (.agg (ints .u32 S)) ∧ Below w.heap.size w w' := by
  rw [hS.out]; exact schedule_any b hb hl w
theorem u32eq : (Try.prog.info? 86).map (·.size) = some 1 := info86
set_option maxHeartbeats 1500000 in
theorem turn_any (h b : List Nat) (hh : ∀ x ∈ h, x < 4294967296) (hl : h.length = 8) (hb : ∀ x ∈ b, x < 256) (hbl : b.length = 64) (w : World) :
    Calls Try.prog 51 #[.agg (ints .u32 h), .agg (ints .u8 b)] w fun e w' => e = .returned (.agg (ints .u32 (turn h b))) ∧ Below w.heap.size w w' := by
  have kl := ks_len
  have sl := sched_len b 64
  have ssm := sched_lt hb 64
  obtain ⟨S, hS⟩ : ∃ S, S = sched b 64 := ⟨_, rfl⟩
  rw [← hS] at sl ssm
  have HS_ := Lib.hid hS
  clear hS
  go_enter Try.func51, Try.ntmps51
  have hs := St.nil w
  go_wp2_with (first
    | (with_reducible refine wpl_boxRow (o := ⟨some 2, _, _, _, _, _⟩) hs rfl 87 _ rfl (ints .u32 h) rfl ?_; clear hs; intro g2 w2 hs)
    | (with_reducible refine wpl_boxRow (o := ⟨some 3, _, _, _, _, _⟩) hs rfl 31 _ rfl (ints .u8 b) rfl ?_; clear hs; intro g3 w3 hs)
    | (with_reducible refine wpl_allocRow (o := ⟨some 4, _, _, _, _, _⟩) hs rfl 87 rfl _ (zero87 _) ?_; clear hs; intro g4 w4 hs)
    | (go_at_call 62; refine (const_any _).mono ?_; rintro e w5 ⟨rfl, hb5⟩; replace hs := hs.call hb5; clear hb5)
    | (with_reducible refine wpl_allocRow (o := ⟨some 5, _, _, _, _, _⟩) hs rfl 104 rfl _ (zero104 _) ?_; clear hs; intro g5 w6 hs)
    | (with_reducible refine wpl_storeRow hs rfl 104 _ _ rfl g5 (ints .u32 ks) rfl rfl 104 _ .head row104 (sizeI kl) (sizeI List.length_replicate) (ints_oneCell _ _) ?_; clear hs; intro w7 hs)
    | (with_reducible refine wpl_loadRow hs rfl 87 _ rfl g2 rfl 87 _ (.tail (.tail (.tail .head))) row87 (sizeI hl) ?_)
    | (with_reducible refine wpl_allocRow (o := ⟨some 6, _, _, _, _, _⟩) hs rfl 87 rfl _ (zero87 _) ?_; clear hs; intro g6 w8 hs)
    | (with_reducible refine wpl_storeRow hs rfl 87 _ _ rfl g6 (ints .u32 h) rfl rfl 87 _ .head row87 (sizeI hl) (sizeI List.length_replicate) (ints_oneCell _ _) ?_; clear hs; intro w9 hs)
    | (with_reducible refine wpl_loadRow hs rfl 31 _ rfl g3 rfl 31 _ (.tail (.tail (.tail .head))) row31 (sizeI hbl) ?_)
    | (go_at_call 63; refine (schedule_as HS_ hb hbl _).mono ?_; rintro e w10 ⟨rfl, hb10⟩; replace hs := hs.call hb10; clear hb10))
  clear w2 w3 w4 w5 w6 w7 w8 w9
  have hto : h = HS.to (rounds (HS.of h) S 0) := (to_of hl).symm
  have h0 : St w w10 [.blk g6 87 (ints .u32 (HS.to (rounds (HS.of h) S 0))), .blk g5 104 (ints .u32 ks), .blk g4 87 (ints .u32 (List.replicate 8 0)), .blk g3 31 (ints .u8 b), .blk g2 87 (ints .u32 h)] := by rw [← hto]; exact hs
  clear hs hto
  go_loopw [22] (fun t wr => ∃ k : Nat, k ≤ 64 ∧ t = .int .i64 k ∧ St w wr [.blk g6 87 (ints .u32 (HS.to (rounds (HS.of h) S k))), .blk g5 104 (ints .u32 ks), .blk g4 87 (ints .u32 (List.replicate 8 0)), .blk g3 31 (ints .u8 b), .blk g2 87 (ints .u32 h)]) (fun t _ => 64 - (intOf t).toNat)
  case atStart => exact ⟨0, by omega, rfl, h0⟩
  case round =>
    clear h0
    obtain ⟨k, hk, rfl, hs⟩ := hrel
    by_cases h64 : k < 64
    · have d1 : decide ((k : Int) < 64) = true := by simp; omega
      have i1 : (k : Int) < 64 := by omega
      have hsm := rounds_small (of_small hh) S k
      have hnext : rounds (HS.of h) S (k + 1) = round (rounds (HS.of h) S k) (at_ ks k) (at_ S k) := rfl
      obtain ⟨s, hse⟩ : ∃ s, s = rounds (HS.of h) S k := ⟨_, rfl⟩
      rw [← hse] at hs hsm hnext
      obtain ⟨la, lb, lc, ld, le, lf, lg, lh⟩ := hsm
      have HNX := Lib.hid hnext
      clear hnext hse
      go_wp2_with (with_reducible refine wpl_indexInt rfl 104 _ _ rfl .u32 .i64 S k rfl rfl Try.underlying104 Try.underlying86 info86 sl h64 ?_)
      refine reg_still hs (by kernel_rfl) (by kernel_rfl) ?_
      clear hs
      intro w4 hs
      have c0 : w4.cell? ⟨g6, 0, none⟩ = some (.int .u32 s.a) := hs.num .head (by rw [to_len]; decide)
      have c1 : w4.cell? ⟨g6, 1, none⟩ = some (.int .u32 s.b) := hs.num .head (by rw [to_len]; decide)
      have c2 : w4.cell? ⟨g6, 2, none⟩ = some (.int .u32 s.c) := hs.num .head (by rw [to_len]; decide)
      have c3 : w4.cell? ⟨g6, 4, none⟩ = some (.int .u32 s.e) := hs.num .head (by rw [to_len]; decide)
      have c4 : w4.cell? ⟨g6, 5, none⟩ = some (.int .u32 s.f) := hs.num .head (by rw [to_len]; decide)
      have c5 : w4.cell? ⟨g6, 6, none⟩ = some (.int .u32 s.g) := hs.num .head (by rw [to_len]; decide)
      repeat (refine wpStill_step (fun K hK => ?_); go_simp; (try go_bits); refine hK _ ?_; clear hK K)
      refine wpStill_nil ?_
      clear c0 c1 c2 c3 c4 c5
      go_wp2_with fail
      refine reg_still hs (by kernel_rfl) (by kernel_rfl) ?_
      clear hs
      intro w5 hs
      have c0 : w5.cell? ⟨g6, 7, none⟩ = some (.int .u32 s.h) := hs.num .head (by rw [to_len]; decide)
      have c1 := hs.num (g := g5) (.tail .head) (i := k) (by rw [ks_len]; exact h64)
      have wa := wrap_add
      have wn := not_bits' s.e le
      have wn2 := not_bits s.e le
      have wc := cho_bits s.e s.f s.g le lf lg
      have wm := maj_bits s.a s.b s.c la lb lc
      repeat (refine wpStill_step (fun K hK => ?_); go_simp; (try go_bits); first | (refine hK _ ?_; clear hK K) | (with_reducible refine ⟨_, turned_6 _ le _, hK _ ?_⟩; clear hK K))
      refine wpStill_nil ?_
      clear c0 c1 
      have c3 : w5.cell? ⟨g6, 3, none⟩ = some (.int .u32 s.d) := hs.num .head (by rw [to_len]; decide)
      go_wp2_with (first | (go_at_call 64; refine (turned_2 _ la _).mono ?_; rintro e w' ⟨rfl, hw⟩; subst hw) | (with_reducible refine wpl_build (o := ⟨some 85, _, _, _, _, _⟩) rfl 87 _ rfl (ints .u32 (HS.to ⟨add (t1_ s (at_ ks k) (at_ S k)) (t2_ s), s.a, s.b, s.c, add s.d (t1_ s (at_ ks k) (at_ S k)), s.e, s.f, s.g⟩)) (by kernel_rfl) ?_) | (with_reducible refine wpl_storeRow hs rfl 87 _ _ rfl g6 (ints .u32 (HS.to ⟨add (t1_ s (at_ ks k) (at_ S k)) (t2_ s), s.a, s.b, s.c, add s.d (t1_ s (at_ ks k) (at_ S k)), s.e, s.f, s.g⟩)) rfl rfl 87 _ .head row87 (sizeI (to_len _)) (sizeI (to_len _)) (ints_oneCell _ _) ?_; clear hs; intro w6 hs))
      rw [← round_eq, ← HNX.out] at hs
      go_roundw
      case rel => exact ⟨k + 1, by omega, by go_num, hs⟩
      case measure => simp [intOf]; omega
    · have d1 : decide ((k : Int) < 64) = false := by simp; omega
      have hk64 : k = 64 := by omega
      obtain ⟨V, hV⟩ : ∃ V, V = HS.to (rounds (HS.of h) S 64) := ⟨_, rfl⟩
      have vl : V.length = 8 := by rw [hV]; rfl
      have vsm : ∀ x ∈ V, x < 4294967296 := by rw [hV]; exact to_lt (rounds_small (of_small hh) S 64)
      rw [hk64, ← hV] at hs
      have HV := Lib.hid hV
      clear hV hk64
      rw [← addTo_zero V h] at hs
      go_wp2_with fail
      go_loopw [87] (fun t wr => ∃ j : Nat, j ≤ 8 ∧ t = .int .i64 j ∧ St w wr [.blk g6 87 (ints .u32 (addTo V h j)), .blk g5 104 (ints .u32 ks), .blk g4 87 (ints .u32 (List.replicate 8 0)), .blk g3 31 (ints .u8 b), .blk g2 87 (ints .u32 h)]) (fun t _ => 8 - (intOf t).toNat)
      case atStart => exact ⟨0, by omega, rfl, hs⟩
      case round =>
        clear hs
        obtain ⟨j, hj, rfl, hs⟩ := hrel
        have al := addTo_len vl hl j hj
        by_cases h8 : j < 8
        · have d2 : decide ((j : Int) < 8) = true := by simp; omega
          have i2 : (j : Int) < 8 := by omega
          go_wp2_with fail
          refine reg_tail hs 8 (by kernel_rfl) (by kernel_rfl) ?_
          clear hs
          intro w4 hs
          have c1 := hs.num (g := g6) .head (i := j) (by omega)
          rw [addTo_at vl hl h8] at c1
          have c2 := hs.num (g := g2) (.tail (.tail (.tail (.tail .head)))) (i := j) (by omega)
          have wa := wrap_add
          have hlt : j < (addTo V h j).length := by omega
          simp only [List.take_succ_cons, List.take_zero, List.drop_succ_cons, List.drop_zero]
          repeat (refine wpStill_step (fun K hK => ?_); go_simp; (try go_bits); refine hK _ ?_; clear hK K)
          refine wpStill_nil ?_
          clear c1 c2 wa
          go_wp2_with (with_reducible refine wpl_storeInt hs rfl 86 _ _ rfl g6 j .u32 (add (at_ V j) (at_ h j)) rfl rfl 87 _ .head hlt info86 ?_; clear hs; intro w5 hs)
          rw [addTo_set vl hl h8] at hs
          go_roundw
          case rel => exact ⟨j + 1, by omega, by go_num, hs⟩
          case measure => simp [intOf]; omega
        · have d2 : decide ((j : Int) < 8) = false := by simp; omega
          have ht : addTo V h j = turn h b := by rw [show j = 8 from by omega, addTo_full vl hl, turn_eq, HV.out, HS_.out]
          obtain ⟨T, hT⟩ : ∃ T, T = turn h b := ⟨_, rfl⟩
          rw [ht, ← hT] at hs
          rw [ht, ← hT] at al
          have HT := Lib.hid hT
          clear hT ht
          go_wp2_with (first | (with_reducible refine wpl_loadRow hs rfl 87 _ rfl g6 rfl 87 _ .head row87 (sizeI al) ?_) | (with_reducible refine wpl_storeRow hs rfl 87 _ _ rfl g4 (ints .u32 T) rfl rfl 87 _ (.tail (.tail .head)) row87 (sizeI al) (sizeI List.length_replicate) (ints_oneCell _ _) ?_; clear hs; intro w5 hs))
          exact ret_row hs rfl g4 87 _ rfl (.tail (.tail .head)) row87 (sizeI al) rfl ⟨by rw [HT.out], hs.below⟩
end Go.Proofs.Ytleabipplchbpaa
