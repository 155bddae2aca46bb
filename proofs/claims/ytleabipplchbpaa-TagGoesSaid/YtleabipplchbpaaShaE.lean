/-
  Walks over SHA-256, part 5: what comes behind a message.
-/
import Derived.Test.YtleabipplchbpaaShaA
import Derived.Test.YtleabipplchbpaaBaseB
namespace Go.Proofs.Ytleabipplchbpaa
open Go.RowKit
set_option maxRecDepth 100000
def lenV : Value → Nat
  | .slice _ n _ => n
  | _ => 0
theorem el5 : ElTy Try.prog 5 1 1 := ⟨_, _, rfl, rfl, rfl, rfl, rfl, by decide⟩
theorem lit1n (n : Int) (w : World) : (Instr.buildSlice 22 1 #[(0, .int .u8 n)]).run Try.prog w = .ok (.slice (some ⟨w.heap.size, 0, none⟩) 1 1) (w.alloc (.cells (Value.int .u8 n).cells 5)) := by
  simp [go_sem, Instr.buildSlice, Instr.fill, newRow]
/-- byte i of the length in bits -/
def tail8 (n i : Nat) : Nat := (n % 2 ^ 61 * 8) / 2 ^ (56 - 8 * i) % 256
theorem tail8_int (n i : Nat) (hn : n ≤ 1000000) : (n : Int) * 8 / 2 ^ (56 - 8 * i) % 256 = ((tail8 n i : Nat) : Int) := by
  rw [tail8, show n % 2 ^ 61 = n from Nat.mod_eq_of_lt (by omega), Int.natCast_emod, Int.natCast_ediv, Int.natCast_pow, Int.natCast_mul]; rfl
/-- how many bytes 00 -/
def zeros (n : Nat) : Nat := (119 - n % 64) % 64
set_option maxHeartbeats 600000 in
theorem pad_any (n : Nat) (hn : n ≤ 1000000) (w : World) :
    Calls Try.prog 50 #[.int .u64 n] w fun e w' => ∃ A c, e = .returned (.slice A (pad n).length c) ∧ (numsR A (pad n).length c 5 .u8 (pad n)).ok w.heap.size w' ∧ Below w.heap.size w w' := by
  have hm : (n : Int) % 2305843009213693952 = n := by omega
  go_enter Try.func50, Try.ntmps50
  have hs := St.nil w
  have hz : zeros n < 64 := Nat.mod_lt _ (by decide)
  go_wp2_with (with_reducible refine wpl_sliceOwn1 hs rfl 22 _ rfl 5 (.int .u8 128) rfl (lit1n _) ?_; clear hs; intro g1 w1 hs)
  replace hs : St w w1 [numsR (some ⟨g1, 0, none⟩) 1 1 5 .u8 (128 :: List.replicate 0 0)] := hs
  go_loopw [3] (fun v wr => ∃ (j : Nat) (A : Option Addr) (c m : Nat), j ≤ zeros n ∧ m = 1 + j ∧ v = .slice A m c ∧ St w wr [numsR A m c 5 .u8 (128 :: List.replicate j 0)]) (fun v _ => 100 - lenV v)
  case atStart => exact ⟨0, _, _, _, Nat.zero_le _, rfl, rfl, hs⟩
  case round =>
    clear hs
    obtain ⟨j, A, c, m, hj, hmj, rfl, hs⟩ := hrel
    have HM := Lib.hid hmj
    have hm2 : m ≤ 64 := by omega
    by_cases hjz : j < zeros n
    · have d1 : (((n : Int) + (m : Int)) % 64 != 56) = true := by
        rw [bne_iff_ne]; unfold zeros at hjz; omega
      clear hmj
      go_wp2_with (first | ((with_reducible refine wpl_slice1 hs rfl 22 _ rfl 5 (.int .u8 0) rfl (lit1n _) ?_); clear hs; intro g2 w2 hs; replace hs : St w w2 [.blk g2 5 (ints .u8 [0]), numsR A m c 5 .u8 (128 :: List.replicate j 0)] := hs) | (at_builtin; go_must (with_reducible refine wpl_appendI (m := 1) hs rfl _ _ 22 rfl rfl rfl (fun _ _ => .tail .head) (Rd.of_ints (l := [0]) hs .head rfl) Try.underlying22 el5 (by unfold maxLen; omega) (by omega) ?_); clear hs; intro A' c' w3 _ hs))
      replace hs := hs.pop
      go_roundw
      case rel => exact ⟨j + 1, A', c', m + 1, by omega, by have := HM.out; omega, rfl, by rw [show (128 :: List.replicate j 0) ++ [0] = 128 :: List.replicate (j + 1) 0 from by rw [List.replicate_succ', List.cons_append]] at hs; exact hs⟩
      case measure => simp only [lenV]; simp; omega
    · have d1 : (((n : Int) + (m : Int)) % 64 != 56) = false := by
        rw [bne_eq_false_iff_eq]; unfold zeros at hjz hj; omega
      have hjz' : j = zeros n := by omega
      have hm65 : m = 1 + zeros n := by omega
      have HM2 := Lib.hid hm65
      rw [hjz'] at hs
      clear hmj hjz' hm65 HM hj hjz
      have h0 : St w wr [numsR A (m + 0) c 5 .u8 (128 :: List.replicate (zeros n) 0 ++ (List.range 0).map (tail8 n))] := by simpa using hs
      clear hs
      go_wp2_with fail
      go_loopw [3, 18] (fun v t wr => ∃ (i : Nat) (A : Option Addr) (c q : Nat), i ≤ 8 ∧ q = m + i ∧ t = .int .i64 i ∧ v = .slice A q c ∧ St w wr [numsR A q c 5 .u8 (128 :: List.replicate (zeros n) 0 ++ (List.range i).map (tail8 n))]) (fun _ t _ => 8 - (intOf t).toNat)
      case atStart => exact ⟨0, A, c, m + 0, by omega, rfl, rfl, rfl, h0⟩
      case round =>
        clear h0
        obtain ⟨i, A, c, q, hi, hq, rfl, rfl, hs⟩ := hrel
        have HQ := Lib.hid hq
        have hq2 : q ≤ 80 := by omega
        clear hq
        by_cases h8 : i < 8
        · have d2 : decide ((i : Int) < 8) = true := by simp; omega
          have i2 : (i : Int) < 8 := by omega
          have ht : IntKind.u8.wrap ((n : Int) * 8 / 2 ^ (56 - 8 * i)) = ((tail8 n i : Nat) : Int) := by rw [IntKind.wrap_u8']; exact tail8_int n i hn
          go_wp2_with (first | ((with_reducible refine wpl_slice1 hs rfl 22 _ rfl 5 (.int .u8 (tail8 n i : Nat)) rfl (lit1n _) ?_); clear hs; intro g2 w2 hs; replace hs : St w w2 [.blk g2 5 (ints .u8 [tail8 n i]), numsR A q c 5 .u8 (128 :: List.replicate (zeros n) 0 ++ (List.range i).map (tail8 n))] := hs) | (at_builtin; go_must (with_reducible refine wpl_appendI (m := 1) hs rfl _ _ 22 rfl rfl rfl (fun _ _ => .tail .head) (Rd.of_ints (l := [tail8 n i]) hs .head rfl) Try.underlying22 el5 (by unfold maxLen; omega) (by omega) ?_); clear hs; intro A' c' w3 _ hs))
          replace hs := hs.pop
          go_roundw
          case rel => exact ⟨i + 1, A', c', q + 1, by omega, by have := HQ.out; omega, by go_num, rfl, by rw [List.append_assoc, show (List.range i).map (tail8 n) ++ [tail8 n i] = (List.range (i + 1)).map (tail8 n) from by rw [List.range_succ, List.map_append]; rfl] at hs; exact hs⟩
          case measure => simp [intOf]; omega
        · have d2 : decide ((i : Int) < 8) = false := by simp; omega
          have hp : 128 :: List.replicate (zeros n) 0 ++ (List.range i).map (tail8 n) = pad n := by rw [show i = 8 from by omega]; rfl
          rw [hp] at hs
          have hlen : q = (pad n).length := (hs.len_nums .head).symm
          have HL := Lib.hid hlen
          clear hlen hp
          go_wp2_with fail
          go_ret
          exact ⟨A, c, by rw [← HL.out]; rfl, by rw [← HL.out]; exact hs.ok _ (List.mem_cons_self ..), hs.below⟩
set_option maxHeartbeats 600000 in
theorem rpad_any (n : Nat) (hn : n ≤ 1000000) (w : World) :
    Calls Try.prog 57 #[.int .u64 n] w fun e w' => ∃ A c, e = .returned (.slice A (pad n).length c) ∧ (numsR A (pad n).length c 5 .u8 (pad n)).ok w.heap.size w' ∧ Below w.heap.size w w' := by
  go_enter Try.func57, Try.ntmps57
  have hs := St.nil w
  have hz : zeros n < 64 := Nat.mod_lt _ (by decide)
  go_wp2_with (with_reducible refine wpl_sliceOwn1 hs rfl 22 _ rfl 5 (.int .u8 128) rfl (lit1n _) ?_; clear hs; intro g1 w1 hs)
  replace hs : St w w1 [numsR (some ⟨g1, 0, none⟩) 1 1 5 .u8 (128 :: List.replicate 0 0)] := hs
  go_loopw [3] (fun v wr => ∃ (j : Nat) (A : Option Addr) (c m : Nat), j ≤ zeros n ∧ m = 1 + j ∧ v = .slice A m c ∧ St w wr [numsR A m c 5 .u8 (128 :: List.replicate j 0)]) (fun v _ => 100 - lenV v)
  case atStart => exact ⟨0, _, _, _, Nat.zero_le _, rfl, rfl, hs⟩
  case round =>
    clear hs
    obtain ⟨j, A, c, m, hj, hmj, rfl, hs⟩ := hrel
    have HM := Lib.hid hmj
    have hm2 : m ≤ 64 := by omega
    by_cases hjz : j < zeros n
    · have d1 : (((n : Int) + (m : Int)) % 64 != 56) = true := by
        rw [bne_iff_ne]; unfold zeros at hjz; omega
      clear hmj
      go_wp2_with (first | ((with_reducible refine wpl_slice1 hs rfl 22 _ rfl 5 (.int .u8 0) rfl (lit1n _) ?_); clear hs; intro g2 w2 hs; replace hs : St w w2 [.blk g2 5 (ints .u8 [0]), numsR A m c 5 .u8 (128 :: List.replicate j 0)] := hs) | (at_builtin; go_must (with_reducible refine wpl_appendI (m := 1) hs rfl _ _ 22 rfl rfl rfl (fun _ _ => .tail .head) (Rd.of_ints (l := [0]) hs .head rfl) Try.underlying22 el5 (by unfold maxLen; omega) (by omega) ?_); clear hs; intro A' c' w3 _ hs))
      replace hs := hs.pop
      go_roundw
      case rel => exact ⟨j + 1, A', c', m + 1, by omega, by have := HM.out; omega, rfl, by rw [show (128 :: List.replicate j 0) ++ [0] = 128 :: List.replicate (j + 1) 0 from by rw [List.replicate_succ', List.cons_append]] at hs; exact hs⟩
      case measure => simp only [lenV]; simp; omega
    · have d1 : (((n : Int) + (m : Int)) % 64 != 56) = false := by
        rw [bne_eq_false_iff_eq]; unfold zeros at hjz hj; omega
      have hjz' : j = zeros n := by omega
      have hm65 : m = 1 + zeros n := by omega
      have HM2 := Lib.hid hm65
      rw [hjz'] at hs
      clear hmj hjz' hm65 HM hj hjz
      have h0 : St w wr [numsR A (m + 0) c 5 .u8 (128 :: List.replicate (zeros n) 0 ++ (List.range 0).map (tail8 n))] := by simpa using hs
      clear hs
      go_wp2_with fail
      go_loopw [3, 4] (fun v t wr => ∃ (i : Nat) (A : Option Addr) (c q : Nat), i ≤ 8 ∧ q = m + i ∧ t = .int .i64 (7 - (i : Int)) ∧ v = .slice A q c ∧ St w wr [numsR A q c 5 .u8 (128 :: List.replicate (zeros n) 0 ++ (List.range i).map (tail8 n))]) (fun _ t _ => (1 + intOf t).toNat)
      case atStart => exact ⟨0, A, c, m + 0, by omega, rfl, rfl, rfl, h0⟩
      case round =>
        clear h0
        obtain ⟨i, A, c, q, hi, hq, rfl, rfl, hs⟩ := hrel
        have HQ := Lib.hid hq
        have hq2 : q ≤ 80 := by omega
        clear hq
        by_cases h8 : i < 8
        · have d2 : decide ((0 : Int) ≤ 7 - (i : Int)) = true := by simp; omega
          have i2 : (0 : Int) ≤ 7 - (i : Int) := by omega
          have d2 : decide ((i : Int) ≤ 7) = true := by simp; omega
          have i3 : (i : Int) ≤ 7 := by omega
          have ht : IntKind.u8.wrap ((n : Int) * 8 / 2 ^ (8 * (7 - i))) = ((tail8 n i : Nat) : Int) := by
            rw [IntKind.wrap_u8', show 8 * (7 - i) = 56 - 8 * i from by omega]; exact tail8_int n i hn
          go_wp2_with (first | ((with_reducible refine wpl_slice1 hs rfl 22 _ rfl 5 (.int .u8 (tail8 n i : Nat)) rfl (lit1n _) ?_); clear hs; intro g2 w2 hs; replace hs : St w w2 [.blk g2 5 (ints .u8 [tail8 n i]), numsR A q c 5 .u8 (128 :: List.replicate (zeros n) 0 ++ (List.range i).map (tail8 n))] := hs) | (at_builtin; go_must (with_reducible refine wpl_appendI (m := 1) hs rfl _ _ 22 rfl rfl rfl (fun _ _ => .tail .head) (Rd.of_ints (l := [tail8 n i]) hs .head rfl) Try.underlying22 el5 (by unfold maxLen; omega) (by omega) ?_); clear hs; intro A' c' w3 _ hs))
          replace hs := hs.pop
          go_roundw
          case rel => exact ⟨i + 1, A', c', q + 1, by omega, by have := HQ.out; omega, by go_num, rfl, by rw [List.append_assoc, show (List.range i).map (tail8 n) ++ [tail8 n i] = (List.range (i + 1)).map (tail8 n) from by rw [List.range_succ, List.map_append]; rfl] at hs; exact hs⟩
          case measure => simp [intOf]; omega
        · have d2 : decide ((i : Int) ≤ 7) = false := by simp; omega
          have i3 : ¬ (i : Int) ≤ 7 := by omega
          have hp : 128 :: List.replicate (zeros n) 0 ++ (List.range i).map (tail8 n) = pad n := by rw [show i = 8 from by omega]; rfl
          rw [hp] at hs
          have hlen : q = (pad n).length := (hs.len_nums .head).symm
          have HL := Lib.hid hlen
          clear hlen hp
          go_wp2_with fail
          go_ret
          exact ⟨A, c, by rw [← HL.out]; rfl, by rw [← HL.out]; exact hs.ok _ (List.mem_cons_self ..), hs.below⟩
end Go.Proofs.Ytleabipplchbpaa
