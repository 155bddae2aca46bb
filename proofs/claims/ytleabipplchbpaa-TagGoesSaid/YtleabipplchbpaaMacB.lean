/-
  Walks over the keyed hash, part 2: pad.
-/
import Derived.Test.YtleabipplchbpaaMacA
namespace Go.Proofs.Ytleabipplchbpaa
open Go.RowKit
set_option maxRecDepth 100000
def xorL (c : Nat) (l : List Nat) : List Nat := l.map fun x => x ^^^ c
theorem xorL_len (c : Nat) (l : List Nat) : (xorL c l).length = l.length := by simp [xorL]
theorem xor8_lt {a b : Nat} (ha : a < 256) (hb : b < 256) : a ^^^ b < 256 := Nat.xor_lt_two_pow (n := 8) ha hb
theorem xorL_lt {c : Nat} {l : List Nat} (hc : c < 256) (h : ∀ x ∈ l, x < 256) : ∀ x ∈ xorL c l, x < 256 := by
  intro x hx
  obtain ⟨y, hy, rfl⟩ := List.mem_map.1 hx
  exact xor8_lt (h y hy) hc
/-- the first k turned -/
def xorT (c : Nat) (l : List Nat) (k : Nat) : List Nat := xorL c (l.take k) ++ l.drop k
theorem xorT_zero (c : Nat) (l : List Nat) : xorT c l 0 = l := by simp [xorT, xorL]
theorem xorT_full (c : Nat) {l : List Nat} {k : Nat} (hk : l.length ≤ k) : xorT c l k = xorL c l := by rw [xorT, List.take_of_length_le hk, List.drop_of_length_le hk, List.append_nil]
theorem xorT_len (c : Nat) (l : List Nat) (k : Nat) : (xorT c l k).length = l.length := by
  rw [xorT, List.length_append, xorL_len, List.length_take, List.length_drop]; omega
theorem xorT_at (c : Nat) {l : List Nat} {k : Nat} (hk : k < l.length) : at_ (xorT c l k) k = at_ l k := by
  have hl : (xorL c (l.take k)).length = k := by rw [xorL_len, List.length_take]; omega
  rw [xorT, at_append_right (by omega), hl, Nat.sub_self]
  unfold at_
  rw [List.getD_eq_getElem?_getD, List.getD_eq_getElem?_getD, List.getElem?_drop]
  rfl
theorem xorT_set (c : Nat) {l : List Nat} {k : Nat} (hk : k < l.length) : (xorT c l k).set k (at_ l k ^^^ c) = xorT c l (k + 1) := by
  have hl : (xorL c (l.take k)).length = k := by rw [xorL_len, List.length_take]; omega
  rw [xorT, xorT, List.set_append_right _ _ (by omega), hl, Nat.sub_self, List.drop_eq_getElem_cons hk, List.set_cons_zero, List.take_succ_eq_append_getElem hk, xorL, xorL, List.map_append, List.append_assoc]
  simp [at_, List.getD, hk]
set_option maxHeartbeats 1000000 in
theorem mpad_any (b : List Nat) (hb : ∀ x ∈ b, x < 256) (hl : b.length = 64) (c : Nat) (hc : c < 256) (w : World) :
    Calls Try.prog 45 #[.agg (ints .u8 b), .int .u8 c] w fun e w' => ∃ g, e = .returned (.slice (some ⟨g, 0, none⟩) 64 64) ∧ St w w' [.blk g 31 (ints .u8 (xorL c b))] := by
  go_enter Try.func45, Try.ntmps45
  have hs := St.nil w
  go_wp2_with (with_reducible refine wpl_boxRow (o := ⟨some 2, _, _, _, _, _⟩) hs rfl 31 _ rfl (ints .u8 b) rfl ?_; clear hs; intro g w1 hs)
  rw [← xorT_zero c b] at hs
  go_loopw [6] (fun t wr => ∃ k : Nat, k ≤ 64 ∧ t = .int .i64 k ∧ St w wr [.blk g 31 (ints .u8 (xorT c b k))]) (fun t _ => 64 - (intOf t).toNat)
  case atStart => exact ⟨0, by omega, rfl, hs⟩
  case round =>
    clear hs
    obtain ⟨k, hk, rfl, hs⟩ := hrel
    have xl := (xorT_len c b k).trans hl
    by_cases h64 : k < 64
    · have d1 : decide ((k : Int) < 64) = true := by simp; omega
      have i1 : (k : Int) < 64 := by omega
      have cell := hs.num (g := g) .head (i := k) (by omega)
      rw [xorT_at c (by omega)] at cell
      have hv := u8_xor_nat (at_ b k) c (at_lt hb (by decide) k) hc
      have hlt : k < (xorT c b k).length := by omega
      go_wp2_with (with_reducible refine wpl_storeInt hs rfl 5 _ _ rfl g k .u8 (at_ b k ^^^ c) rfl rfl 31 _ .head hlt info5 ?_; clear hs; intro w2 hs)
      rw [xorT_set c (by omega)] at hs
      go_roundw
      case rel => exact ⟨k + 1, by omega, by go_num, hs⟩
      case measure => simp [intOf]; omega
    · have d1 : decide ((k : Int) < 64) = false := by simp; omega
      have i1 : (64 : Int) ≤ (k : Int) := by omega
      rw [xorT_full c (by omega)] at hs
      go_wp2_with fail
      go_ret
      exact ⟨g, rfl, hs⟩
end Go.Proofs.Ytleabipplchbpaa
