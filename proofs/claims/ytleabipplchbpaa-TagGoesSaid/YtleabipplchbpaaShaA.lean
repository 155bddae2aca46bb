/-
  Walks over SHA-256, part 1: rotations, the constants.
-/
import Derived.Test.YtleabipplchbpaaRows
import Derived.Test.YtleabipplchbpaaBase
import Derived.StillTailTactics
import Derived.Deep.QuietTactic
import Derived.BigQuiet
import Derived.Deep.RegionHeld3
namespace Go.Proofs.Ytleabipplchbpaa
open Go.RowKit
theorem or_rot (x c : Nat) (hx : x < 4294967296) : bits BinOp.or IntKind.u32 ((x : Int) / 2 ^ c) ((x : Int) * 2 ^ (32 - c) % 4294967296) = ((rotr x c : Nat) : Int) := by
  have h1 : ((x : Int) / 2 ^ c) = ((x / 2 ^ c : Nat) : Int) := by rw [Int.natCast_ediv, Int.natCast_pow]; rfl
  have h2 : ((x : Int) * 2 ^ (32 - c) % 4294967296) = ((x * 2 ^ (32 - c) % 4294967296 : Nat) : Int) := by rw [Int.natCast_emod, Int.natCast_mul, Int.natCast_pow]; rfl
  rw [h1, h2, u32_or_nat _ _ (Nat.lt_of_le_of_lt (Nat.div_le_self _ _) hx) (Nat.mod_lt _ (by decide))]
  rfl
theorem or_rot' (x c : Nat) (hx : x < 4294967296) : bits BinOp.or IntKind.u32 ((x : Int) * 2 ^ (32 - c) % 4294967296) ((x : Int) / 2 ^ c) = ((rotr x c : Nat) : Int) := by
  have h1 : ((x : Int) / 2 ^ c) = ((x / 2 ^ c : Nat) : Int) := by rw [Int.natCast_ediv, Int.natCast_pow]; rfl
  have h2 : ((x : Int) * 2 ^ (32 - c) % 4294967296) = ((x * 2 ^ (32 - c) % 4294967296 : Nat) : Int) := by rw [Int.natCast_emod, Int.natCast_mul, Int.natCast_pow]; rfl
  rw [h1, h2, u32_or_nat _ _ (Nat.mod_lt _ (by decide)) (Nat.lt_of_le_of_lt (Nat.div_le_self _ _) hx)]
  rw [Nat.or_comm]; rfl
theorem neg_and (c : Nat) (hc1 : 1 ≤ c) (hc : c ≤ 31) : bits BinOp.and IntKind.u64 (IntKind.u64.wrap (-(c : Int))) 31 = ((32 - c : Nat) : Int) := by
  have : c = 1 ∨ c = 2 ∨ c = 3 ∨ c = 4 ∨ c = 5 ∨ c = 6 ∨ c = 7 ∨ c = 8 ∨ c = 9 ∨ c = 10 ∨ c = 11 ∨ c = 12 ∨ c = 13 ∨ c = 14 ∨ c = 15 ∨ c = 16 ∨ c = 17 ∨ c = 18 ∨ c = 19 ∨ c = 20 ∨ c = 21 ∨ c = 22 ∨ c = 23 ∨ c = 24 ∨ c = 25 ∨ c = 26 ∨ c = 27 ∨ c = 28 ∨ c = 29 ∨ c = 30 ∨ c = 31 := by omega
  rcases this with h | h | h | h | h | h | h | h | h | h | h | h | h | h | h | h | h | h | h | h | h | h | h | h | h | h | h | h | h | h | h <;> subst h <;> decide +kernel
theorem rot_any (x c : Nat) (hx : x < 4294967296) (hc1 : 1 ≤ c) (hc : c ≤ 31) (w : World) :
    Calls Try.prog 71 #[.int .u32 x, .int .i64 (-(c : Int))] w fun e w' => e = .returned (.int .u32 (rotr x c)) ∧ w = w' := by
  have h1 := neg_and c hc1 hc
  obtain ⟨d, hd, hdc⟩ : ∃ d : Nat, 32 - c = d ∧ 32 - d = c := ⟨32 - c, rfl, by omega⟩
  have hr := or_rot' x c hx
  rw [hd] at h1 hr
  rw [← hdc] at hr
  have HR := Lib.hid hr
  have hd32 : d ≤ 31 := by omega
  clear hd hr
  go_enter Try.func71, Try.ntmps71
  go_wp2
  go_ret
  refine ⟨?_, rfl⟩
  rw [hdc] at HR
  rw [← HR.out]; rfl
theorem right_any (x c : Nat) (hx : x < 4294967296) (hc1 : 1 ≤ c) (hc : c ≤ 31) (w : World) :
    Calls Try.prog 69 #[.int .u32 x, .int .u64 c] w fun e w' => e = .returned (.int .u32 (rotr x c)) ∧ w = w' := by
  have HR := Lib.hid (or_rot x c hx)
  go_enter Try.func69, Try.ntmps69
  go_wp2
  go_ret
  refine ⟨?_, rfl⟩
  rw [← HR.out]; rfl

theorem xor3 (a b c : Nat) (ha : a < 4294967296) (hb : b < 4294967296) (hc : c < 4294967296) : bits BinOp.xor IntKind.u32 (bits BinOp.xor IntKind.u32 (a : Int) (b : Int)) (c : Int) = ((a ^^^ b ^^^ c : Nat) : Int) := by
  rw [u32_xor_nat _ _ ha hb, u32_xor_nat _ _ (xor_lt ha hb) hc]

theorem turnedF_any (x a b c : Nat) (hx : x < 4294967296) (ha1 : 1 ≤ a) (ha : a ≤ 31) (hb1 : 1 ≤ b) (hb : b ≤ 31) (hc1 : 1 ≤ c) (hc : c ≤ 31) (w : World) :
    Calls Try.prog 64 #[.int .u32 x, .int .i64 a, .int .i64 b, .int .i64 c, .bool false] w fun e w' => e = .returned (.int .u32 (tri x a b c)) ∧ w = w' := by
  have HR := Lib.hid (xor3 (rotr x a) (rotr x b) (rotr x c) (rotr_lt _ _ hx) (rotr_lt _ _ hx) (rotr_lt _ _ hx))
  go_enter Try.func64, Try.ntmps64
  go_wp2_with fail
  refine (rot_any x c hx hc1 hc _).mono ?_; rintro e w' ⟨rfl, rfl⟩
  go_wp2_with fail
  refine (rot_any x a hx ha1 ha _).mono ?_; rintro e w' ⟨rfl, rfl⟩
  go_wp2_with fail
  refine (rot_any x b hx hb1 hb _).mono ?_; rintro e w' ⟨rfl, rfl⟩
  go_wp2
  go_ret
  refine ⟨?_, rfl⟩
  rw [tri, ← HR.out]; rfl
theorem turnedT_any (x a b c : Nat) (hx : x < 4294967296) (ha1 : 1 ≤ a) (ha : a ≤ 31) (hb1 : 1 ≤ b) (hb : b ≤ 31) (hc1 : 1 ≤ c) (hc : c ≤ 31) (w : World) :
    Calls Try.prog 64 #[.int .u32 x, .int .i64 a, .int .i64 b, .int .i64 c, .bool true] w fun e w' => e = .returned (.int .u32 (trs x a b c)) ∧ w = w' := by
  have hs : x / 2 ^ c < 4294967296 := Nat.lt_of_le_of_lt (Nat.div_le_self _ _) hx
  have HR := Lib.hid (xor3 (rotr x a) (rotr x b) (x / 2 ^ c) (rotr_lt _ _ hx) (rotr_lt _ _ hx) hs)
  rw [Int.natCast_ediv, Int.natCast_pow] at HR
  clear hs
  go_enter Try.func64, Try.ntmps64
  go_wp2_with fail
  refine (rot_any x c hx hc1 hc _).mono ?_; rintro e w' ⟨rfl, rfl⟩
  go_wp2_with fail
  refine (rot_any x a hx ha1 ha _).mono ?_; rintro e w' ⟨rfl, rfl⟩
  go_wp2_with fail
  refine (rot_any x b hx hb1 hb _).mono ?_; rintro e w' ⟨rfl, rfl⟩
  go_wp2
  go_ret
  refine ⟨?_, rfl⟩
  rw [trs, ← HR.out]; rfl

theorem turned_17 (x : Nat) (hx : x < 4294967296) (w : World) : Calls Try.prog 64 #[.int .u32 x, .int .i64 17, .int .i64 19, .int .i64 10, .bool true] w fun e w' => e = .returned (.int .u32 (trs x 17 19 10)) ∧ w' = w :=
  (turnedT_any x 17 19 10 hx (by decide) (by decide) (by decide) (by decide) (by decide) (by decide) w).mono fun _ _ h => ⟨h.1, h.2.symm⟩
theorem turned_7 (x : Nat) (hx : x < 4294967296) (w : World) : Calls Try.prog 64 #[.int .u32 x, .int .i64 7, .int .i64 18, .int .i64 3, .bool true] w fun e w' => e = .returned (.int .u32 (trs x 7 18 3)) ∧ w' = w :=
  (turnedT_any x 7 18 3 hx (by decide) (by decide) (by decide) (by decide) (by decide) (by decide) w).mono fun _ _ h => ⟨h.1, h.2.symm⟩
theorem turned_6 (x : Nat) (hx : x < 4294967296) (w : World) : Calls Try.prog 64 #[.int .u32 x, .int .i64 6, .int .i64 11, .int .i64 25, .bool false] w fun e w' => e = .returned (.int .u32 (tri x 6 11 25)) ∧ w' = w :=
  (turnedF_any x 6 11 25 hx (by decide) (by decide) (by decide) (by decide) (by decide) (by decide) w).mono fun _ _ h => ⟨h.1, h.2.symm⟩
theorem turned_2 (x : Nat) (hx : x < 4294967296) (w : World) : Calls Try.prog 64 #[.int .u32 x, .int .i64 2, .int .i64 13, .int .i64 22, .bool false] w fun e w' => e = .returned (.int .u32 (tri x 2 13 22)) ∧ w' = w :=
  (turnedF_any x 2 13 22 hx (by decide) (by decide) (by decide) (by decide) (by decide) (by decide) w).mono fun _ _ h => ⟨h.1, h.2.symm⟩
theorem wrap_add (a b : Nat) : IntKind.u32.wrap ((a : Int) + (b : Int)) = ((add a b : Nat) : Int) := by
  rw [IntKind.wrap_u32', add]; omega
theorem zero104 (w : World) : (zeroValue 104).run Try.prog w = .ok (.agg (ints .u32 (List.replicate 64 0))) w := by kernel_rfl
theorem zero87 (w : World) : (zeroValue 87).run Try.prog w = .ok (.agg (ints .u32 (List.replicate 8 0))) w := by kernel_rfl
theorem zero31 (w : World) : (zeroValue 31).run Try.prog w = .ok (.agg (ints .u8 (List.replicate 64 0))) w := by kernel_rfl
theorem zero27 (w : World) : (zeroValue 27).run Try.prog w = .ok (.agg (ints .u8 (List.replicate 32 0))) w := by kernel_rfl
theorem info104 : (Try.prog.info? 104).map (·.size) = some 64 := by kernel_rfl
theorem info87 : (Try.prog.info? 87).map (·.size) = some 8 := by kernel_rfl
theorem info31 : (Try.prog.info? 31).map (·.size) = some 64 := by kernel_rfl
theorem info27 : (Try.prog.info? 27).map (·.size) = some 32 := by kernel_rfl
theorem info86 : (Try.prog.info? 86).map (·.size) = some 1 := by kernel_rfl
theorem info5 : (Try.prog.info? 5).map (·.size) = some 1 := by kernel_rfl
set_option maxRecDepth 100000

theorem row104 : RowTy Try.prog 104 64 := ⟨⟨_, Try.underlying104, rfl⟩, info104⟩
theorem row87 : RowTy Try.prog 87 8 := ⟨⟨_, Try.underlying87, rfl⟩, info87⟩
theorem row31 : RowTy Try.prog 31 64 := ⟨⟨_, Try.underlying31, rfl⟩, info31⟩
theorem row27 : RowTy Try.prog 27 32 := ⟨⟨_, Try.underlying27, rfl⟩, info27⟩
theorem const_any (w : World) :
    Calls Try.prog 62 #[] w fun e w' => e = .returned (.agg (ints .u32 ks)) ∧ Below w.heap.size w w' := by
  go_enter Try.func62, Try.ntmps62
  have hs := St.nil w
  go_wp2_with (first | (with_reducible refine wpl_allocRow hs rfl 104 rfl _ (zero104 _) ?_; clear hs; intro g0 w1 hs) | (with_reducible refine wpl_build rfl 104 _ rfl (ints .u32 ks) ?hb ?_) | (with_reducible refine wpl_storeRow hs rfl 104 _ _ rfl g0 (ints .u32 ks) rfl rfl 104 _ .head row104 (sizeI ks_len) (sizeI List.length_replicate) (ints_oneCell _ _) ?_; clear hs; intro w2 hs))
  case hb => kernel_rfl
  exact ret_row hs rfl g0 104 _ rfl .head row104 (sizeI ks_len) rfl ⟨rfl, hs.below⟩
theorem start_any (w : World) :
    Calls Try.prog 48 #[] w fun e w' => e = .returned (.agg (ints .u32 start)) ∧ Below w.heap.size w w' := by
  go_enter Try.func48, Try.ntmps48
  have hs := St.nil w
  go_wp2_with (first | (with_reducible refine wpl_allocRow hs rfl 87 rfl _ (zero87 _) ?_; clear hs; intro g0 w1 hs) | (with_reducible refine wpl_build rfl 87 _ rfl (ints .u32 start) ?hb ?_) | (with_reducible refine wpl_storeRow hs rfl 87 _ _ rfl g0 (ints .u32 start) rfl rfl 87 _ .head row87 (sizeI start_len) (sizeI List.length_replicate) (ints_oneCell _ _) ?_; clear hs; intro w2 hs))
  case hb => kernel_rfl
  exact ret_row hs rfl g0 87 _ rfl .head row87 (sizeI start_len) rfl ⟨rfl, hs.below⟩
theorem rtable_any (w : World) :
    Calls Try.prog 70 #[] w fun e w' => e = .returned (.agg (ints .u32 ks)) ∧ Below w.heap.size w w' := by
  go_enter Try.func70, Try.ntmps70
  have hs := St.nil w
  go_wp2_with (first | (with_reducible refine wpl_allocRow hs rfl 104 rfl _ (zero104 _) ?_; clear hs; intro g0 w1 hs) | (with_reducible refine wpl_build rfl 104 _ rfl (ints .u32 ks) ?hb ?_) | (with_reducible refine wpl_storeRow hs rfl 104 _ _ rfl g0 (ints .u32 ks) rfl rfl 104 _ .head row104 (sizeI ks_len) (sizeI List.length_replicate) (ints_oneCell _ _) ?_; clear hs; intro w2 hs))
  case hb => kernel_rfl
  exact ret_row hs rfl g0 104 _ rfl .head row104 (sizeI ks_len) rfl ⟨rfl, hs.below⟩
theorem rstart_any (w : World) :
    Calls Try.prog 58 #[] w fun e w' => e = .returned (.agg (ints .u32 start)) ∧ Below w.heap.size w w' := by
  go_enter Try.func58, Try.ntmps58
  have hs := St.nil w
  go_wp2_with (first | (with_reducible refine wpl_allocRow hs rfl 87 rfl _ (zero87 _) ?_; clear hs; intro g0 w1 hs) | (with_reducible refine wpl_build rfl 87 _ rfl (ints .u32 start) ?hb ?_) | (with_reducible refine wpl_storeRow hs rfl 87 _ _ rfl g0 (ints .u32 start) rfl rfl 87 _ .head row87 (sizeI start_len) (sizeI List.length_replicate) (ints_oneCell _ _) ?_; clear hs; intro w2 hs))
  case hb => kernel_rfl
  exact ret_row hs rfl g0 87 _ rfl .head row87 (sizeI start_len) rfl ⟨rfl, hs.below⟩
end Go.Proofs.Ytleabipplchbpaa
