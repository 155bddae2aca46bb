/-
  Walks over SHA-256, part 6: the hash of all parts, as the reference makes it.
-/
import Derived.Test.YtleabipplchbpaaShaD
import Derived.Test.YtleabipplchbpaaShaE
namespace Go.Proofs.Ytleabipplchbpaa
open Go.RowKit
set_option maxRecDepth 100000
theorem flat_take_succ (ps : List (List Nat)) (i : Nat) (l : List Nat) (h : ps[i]? = some l) : (ps.take i).flatten ++ l = (ps.take (i + 1)).flatten := by
  rw [List.take_add_one, h, List.flatten_append]; simp
theorem flat_take_le (ps : List (List Nat)) : ∀ i, (ps.take i).flatten.length ≤ ps.flatten.length := by
  intro i
  have : ps.flatten = (ps.take i).flatten ++ (ps.drop i).flatten := by rw [← List.flatten_append, List.take_append_drop]
  rw [this, List.length_append]; omega
theorem zero27' (w : World) : (zeroValue 27).run Try.prog w = .ok (.agg (ints .u8 (List.replicate 32 0))) w := zero27 w
theorem byte_int (h : List Nat) (j : Nat) : IntKind.u8.wrap ((at_ h (j / 4) : Int) / 2 ^ (24 - 8 * (j % 4))) = ((byteAt h j : Nat) : Int) := by
  rw [IntKind.wrap_u8', byteAt, Int.natCast_emod, Int.natCast_ediv, Int.natCast_pow]; rfl
set_option maxHeartbeats 2000000 in
theorem rsum_any (ps : List (List Nat)) (hps : ps.flatten.length ≤ 500000) (hbyte : ∀ x ∈ ps.flatten, x < 256) (A : Option Addr) (n c : Nat) (w : World) (hp : RdP w A n ps) (hn : n ≤ 1000000) :
    Calls Try.prog 46 #[.slice A n c] w fun e w' => e = .returned (.agg (ints .u8 (hash ps.flatten))) ∧ Below w.heap.size w w' := by
  have hpl := hp.1
  go_enter Try.func46, Try.ntmps46
  have hs := St.nil w
  go_wp2_with (with_reducible refine wpl_allocRow (o := ⟨some 2, _, _, _, _, _⟩) hs rfl 27 rfl _ (zero27 _) ?_; clear hs; intro g2 w2 hs)
  replace hs := hs.nilNums 5 .u8
  go_loopw [3, 4] (fun v t wr => ∃ (i : Nat) (B : Option Addr) (m cb : Nat), i ≤ n ∧ t = .int .i64 i ∧ m = (ps.take i).flatten.length ∧ v = .slice B m cb ∧ St w wr [numsR B m cb 5 .u8 (ps.take i).flatten, .blk g2 27 (ints .u8 (List.replicate 32 0))]) (fun _ t _ => n - (intOf t).toNat)
  case atStart => exact ⟨0, none, 0, 0, by omega, rfl, by simp, rfl, by simpa using hs⟩
  case round =>
    clear hs
    obtain ⟨i, B, m, cb, hi, rfl, hm, rfl, hs⟩ := hrel
    have HM := Lib.hid hm
    have hm2 : m ≤ 500000 := by have := flat_take_le ps i; omega
    clear hm
    by_cases hin : i < n
    · have d1 : decide ((i : Int) < (n : Int)) = true := by simp; omega
      have i1 : (i : Int) < (n : Int) := by omega
      have hpl2 : ps.length = n := hpl
      obtain ⟨l, hl⟩ : ∃ l, ps[i]? = some l := ⟨_, List.getElem?_eq_getElem (by omega)⟩
      obtain ⟨ad, B2, c2, hA, hc, hr⟩ := (hp.st hs).2 i l hl
      have hl2 : m + l.length ≤ 500000 := by
        have := flat_take_le ps (i + 1)
        rw [← flat_take_succ ps i l hl, List.length_append, ← HM.out] at this
        omega
      have HL := Lib.hid hl
      clear hpl2 hl
      subst hA
      clear hpl
      obtain ⟨q, hq⟩ : ∃ q, q = l.length := ⟨_, rfl⟩
      rw [← hq] at hc hr hl2
      have HQ := Lib.hid hq
      clear hq
      go_wp2_with (at_builtin; go_must (with_reducible refine wpl_appendI (m := q) hs rfl _ _ 22 rfl rfl rfl (fun _ _ => .head) hr Try.underlying22 el5 (by unfold maxLen; omega) (by omega) ?_); clear hs; intro A' c' w3 _ hs)
      rw [flat_take_succ ps i l HL.out] at hs
      go_roundw
      case rel => exact ⟨i + 1, A', m + q, c', by omega, by go_num, by rw [← flat_take_succ ps i l HL.out, List.length_append, HM.out, HQ.out], rfl, hs⟩
      case measure => simp [intOf]; omega
    · have d1 : decide ((i : Int) < (n : Int)) = false := by simp; omega
      have hfl : (ps.take i).flatten = ps.flatten := by rw [List.take_of_length_le (by omega)]
      rw [hfl] at hs
      have hm' : m = ps.flatten.length := by rw [HM.out, hfl]
      have HM2 := Lib.hid hm'
      clear hfl hm' HM
      have hpb : (pad m).length ≤ 80 := by rw [pad_len]; omega
      go_wp2_with (first
        | (go_at_call 57; refine (rpad_any m (by omega) _).mono ?_; rintro e w3 ⟨A3, c3, rfl, ho3, hb3⟩; replace hs := hs.push hb3 ho3; clear hb3 ho3)
        | (at_builtin; go_must (with_reducible refine wpl_appendI (m := (pad m).length) hs rfl _ _ 22 rfl rfl rfl (fun _ _ => .tail .head) (Rd.of_own (hs.has_nums .head)) Try.underlying22 el5 (by unfold maxLen; omega) (by omega) ?_); clear hs; intro A4 c4 w4 _ hs; replace hs := hs.pop)
        | (go_at_call 58; refine (rstart_any _).mono ?_; rintro e w5 ⟨rfl, hb5⟩; replace hs := hs.call hb5; clear hb5)
        | (with_reducible refine wpl_allocRow (o := ⟨some 5, _, _, _, _, _⟩) hs rfl 87 rfl _ (zero87 _) ?_; clear hs; intro g5 w6 hs)
        | (with_reducible refine wpl_storeRow hs rfl 87 _ _ rfl g5 (ints .u32 start) rfl rfl 87 _ .head row87 (sizeI start_len) (sizeI List.length_replicate) (ints_oneCell _ _) ?_; clear hs; intro w7 hs))
      clear w2 w3 w4 w5 w6 d1 hi hin
      obtain ⟨p, hpp⟩ : ∃ p, p = ps.flatten ++ pad m := ⟨_, rfl⟩
      obtain ⟨T, hT⟩ : ∃ T, T = m + (pad m).length := ⟨_, rfl⟩
      have hplen : p.length = T := by rw [hpp, List.length_append, ← HM2.out, hT]
      have hpsm : ∀ x ∈ p, x < 256 := by
        intro x hx
        rw [hpp] at hx
        rcases List.mem_append.1 hx with h | h
        · exact hbyte x h
        · exact pad_lt _ x h
      have hw64 : T % 64 = 0 := by rw [hT]; exact pad_whole m
      have hT2 : 0 < T ∧ T ≤ 500100 := by rw [hT, pad_len]; omega
      have hhash : hash ps.flatten = bytesOf (blocks p (T / 64)) := by rw [hash_eq, ← HM2.out, ← hpp, hplen]
      rw [← hT, ← hpp] at hs
      rw [← hT]
      have HH := Lib.hid hhash
      have HW := Lib.hid hw64
      clear hT hpp hhash hw64 hpb HM2 hm2
      obtain ⟨gp, hA4, hc4⟩ := own_some (hs.has_nums (.tail .head)) hT2.1
      subst hA4
      obtain ⟨T0, T1⟩ := hT2
      go_loopw [6] (fun t wr => ∃ k q : Nat, 64 * k ≤ T ∧ q = 64 * k ∧ t = .int .i64 q ∧ St w wr [.blk g5 87 (ints .u32 (blocks p k)), numsR (some ⟨gp, 0, none⟩) T c4 5 .u8 p, .blk g2 27 (ints .u8 (List.replicate 32 0))]) (fun t _ => T - (intOf t).toNat)
      case atStart => exact ⟨0, 0, by omega, rfl, rfl, hs⟩
      case round =>
        clear hs
        obtain ⟨k, q, hk, hq, rfl, hs⟩ := hrel
        have bl := blocks_len p k
        have bsm := blocks_lt p k
        have HQ := Lib.hid hq
        have hw2 := HW.out
        by_cases hlt : q + 64 ≤ T
        · have d1 : decide ((q : Int) + 64 ≤ (T : Int)) = true := by simp; omega
          have i1 : (q : Int) + 64 ≤ (T : Int) := by omega
          have i2 : q < c4 := by omega
          have i3 : q + 64 ≤ c4 := by omega
          have i4 : ¬ c4 = q := by omega
          have ck : ((p.drop q).take 64).length = 64 := by rw [List.length_take, List.length_drop]; omega
          have csm : ∀ x ∈ (p.drop q).take 64, x < 256 := fun x hx => hpsm x (List.mem_of_mem_drop (List.mem_of_mem_take hx))
          have hnext : blocks p (k + 1) = turn (blocks p k) ((p.drop q).take 64) := by rw [hq]; rfl
          have HN := Lib.hid hnext
          clear hq hw2 hnext
          have j1 : (q : Int) ≤ (q : Int) + 64 := by omega
          have j2 : (q : Int) + 64 ≤ (c4 : Int) := by omega
          have j3 : ((q : Int) + 64).toNat = q + 64 := by omega
          have j4 : (0 : Int) ≤ (q : Int) + 64 := by omega
          go_wp2_with (with_reducible refine wpl_allocRow (o := ⟨some 7, _, _, _, _, _⟩) hs rfl 31 rfl _ (zero31 _) ?_; clear hs; intro g7 w8 hs)
          refine reg_tail hs 6 (by kernel_rfl) (by kernel_rfl) ?_
          clear hs
          intro w9 hs
          simp only [List.take_succ_cons, List.take_zero, List.drop_succ_cons, List.drop_zero]
          repeat (refine wpStill_step (fun K hK => ?_); go_simp; (try go_bits); refine hK _ ?_; clear hK K)
          refine wpStill_nil ?_
          clear j1 j2 j3 j4
          have hr := Rd.part (lo := q) (m := 64) (Rd.of_own (hs.has_nums (.tail (.tail .head)))) (by omega)
          rw [Nat.zero_add] at hr
          go_wp2_with (first
            | (with_reducible refine wpl_copyAll (l' := (p.drop q).take 64) (o := ⟨some 42, _, _, _, _, _⟩) hs rfl _ _ 22 22 rfl rfl rfl .head hr List.length_replicate Try.underlying22 info5 ?_; clear hs hr; intro w10 hs)
            | (with_reducible refine wpl_loadRow (o := ⟨some 43, _, _, _, _, _⟩) hs rfl 87 _ rfl g5 rfl 87 _ (.tail .head) row87 (sizeI bl) ?_)
            | (with_reducible refine wpl_loadRow (o := ⟨some 44, _, _, _, _, _⟩) hs rfl 31 _ rfl g7 rfl 31 _ .head row31 (sizeI ck) ?_)
            | (go_at_call 59; refine (rturn_any (blocks p k) ((p.drop q).take 64) bsm bl csm ck _).mono ?_; rintro e w11 ⟨rfl, hb11⟩; replace hs := hs.call hb11; clear hb11)
            | (with_reducible refine wpl_storeRow hs rfl 87 _ _ rfl g5 (ints .u32 (turn (blocks p k) ((p.drop q).take 64))) rfl rfl 87 _ (.tail .head) row87 (sizeI (turn_len bl _)) (sizeI bl) (ints_oneCell _ _) ?_; clear hs; intro w12 hs))
          replace hs := hs.pop
          rw [← HN.out] at hs
          go_roundw
          case rel => exact ⟨k + 1, q + 64, by have := HQ.out; omega, by have := HQ.out; omega, by go_num, hs⟩
          case measure => simp [intOf]; omega
        · have d1 : decide ((q : Int) + 64 ≤ (T : Int)) = false := by simp; omega
          have i1 : (T : Int) < (q : Int) + 64 := by omega
          have q1 : q ≤ T := by omega
          have hkk : k = T / 64 := by omega
          obtain ⟨h, hh⟩ : ∃ h, h = blocks p (T / 64) := ⟨_, rfl⟩
          rw [hkk, ← hh] at hs bl bsm
          have HH2 := Lib.hid hh
          clear hkk hh hq hw2
          rw [← frow_zero (byteAt h)] at hs
          go_wp2_with (with_reducible refine wpl_allocRow (o := ⟨some 8, _, _, _, _, _⟩) hs rfl 27 rfl _ (zero27 _) ?_; clear hs; intro g8 w8 hs)
          rw [← frow_zero (byteAt h)] at hs
          go_loopw [9] (fun t wr => ∃ j : Nat, j ≤ 32 ∧ t = .int .i64 j ∧ St w wr [.blk g8 27 (ints .u8 (frow (byteAt h) 32 j)), .blk g5 87 (ints .u32 h), numsR (some ⟨gp, 0, none⟩) T c4 5 .u8 p, .blk g2 27 (ints .u8 (frow (byteAt h) 32 0))]) (fun t _ => 32 - (intOf t).toNat)
          case atStart => exact ⟨0, by omega, rfl, hs⟩
          case round =>
            clear hs
            obtain ⟨j, hj, rfl, hs⟩ := hrel
            have fl_ := frow_len (byteAt h) hj
            by_cases h32 : j < 32
            · have d2 : decide ((j : Int) < 32) = true := by simp; omega
              have i2 : (j : Int) < 32 := by omega
              have e1 : ((j : Int) / 4).toNat = j / 4 := by omega
              have e2 : (j : Int) / 4 < 8 := by omega
              have e3 : 0 ≤ (j : Int) / 4 := by omega
              have c1 := hs.num (g := g5) (.tail .head) (i := j / 4) (by rw [bl]; omega)
              have hlt : j < (frow (byteAt h) 32 j).length := by rw [fl_]; exact h32
              have hv := byte_int h j
              go_wp2_with (with_reducible refine wpl_storeInt hs rfl 5 _ _ rfl g8 j .u8 (byteAt h j) rfl rfl 27 _ .head hlt info5 ?_; clear hs; intro w9 hs)
              rw [frow_set _ h32] at hs
              go_roundw
              case rel => exact ⟨j + 1, by omega, by go_num, hs⟩
              case measure => simp [intOf]; omega
            · have d2 : decide ((j : Int) < 32) = false := by simp; omega
              have hB : frow (byteAt h) 32 j = hash ps.flatten := by rw [show j = 32 from by omega, frow_full, HH.out, ← HH2.out]; rfl
              obtain ⟨D, hD⟩ : ∃ D, D = hash ps.flatten := ⟨_, rfl⟩
              have dl : D.length = 32 := by rw [hD, ← hB, fl_]
              have z0 := frow_len (byteAt h) (Nat.zero_le 32)
              rw [hB, ← hD] at hs
              have HD := Lib.hid hD
              clear hB hD
              go_wp2_with (first | (with_reducible refine wpl_loadRow hs rfl 27 _ rfl g8 rfl 27 _ .head row27 (sizeI dl) ?_) | (with_reducible refine wpl_storeRow hs rfl 27 _ _ rfl g2 (ints .u8 D) rfl rfl 27 _ (.tail (.tail (.tail .head))) row27 (sizeI dl) (sizeI z0) (ints_oneCell _ _) ?_; clear hs; intro w9 hs))
              exact ret_row hs rfl g2 27 _ rfl (.tail (.tail (.tail .head))) row27 (sizeI dl) rfl ⟨by rw [HD.out], hs.below⟩
end Go.Proofs.Ytleabipplchbpaa
