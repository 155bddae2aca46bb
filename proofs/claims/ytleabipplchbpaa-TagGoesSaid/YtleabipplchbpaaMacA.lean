/-
  Walks over the keyed hash, part 1: Block and the reference's Block.
-/
import Derived.Test.YtleabipplchbpaaShaI
namespace Go.Proofs.Ytleabipplchbpaa
open Go.RowKit
set_option maxRecDepth 100000
/-! ### plain -/
def short (k : List Nat) : List Nat := if 64 < k.length then hash k else k
def blk64 (k : List Nat) : List Nat := short k ++ List.replicate (64 - (short k).length) 0
theorem hash_len (m : List Nat) : (hash m).length = 32 := by rw [hash_eq, bytesOf_len]
theorem hash_lt (m : List Nat) : ∀ x ∈ hash m, x < 256 := by rw [hash_eq]; exact bytesOf_lt _
theorem short_len (k : List Nat) : (short k).length ≤ 64 := by
  unfold short; split
  · rw [hash_len]; omega
  · omega
theorem short_lt {k : List Nat} (h : ∀ x ∈ k, x < 256) : ∀ x ∈ short k, x < 256 := by
  unfold short; split
  · exact hash_lt k
  · exact h
theorem blk_len (k : List Nat) : (blk64 k).length = 64 := by have := short_len k; rw [blk64, List.length_append, List.length_replicate]; omega
theorem blk_lt {k : List Nat} (h : ∀ x ∈ k, x < 256) : ∀ x ∈ blk64 k, x < 256 := by
  intro x hx
  rcases List.mem_append.1 hx with h1 | h1
  · exact short_lt h x h1
  · rw [(List.mem_replicate.1 h1).2]; decide
/-! ### literals of slices of slices -/
theorem lit1s (B : Option Addr) (n c : Nat) (w : World) : (Instr.buildSlice 23 1 #[(0, .slice B n c)]).run Try.prog w = .ok (.slice (some ⟨w.heap.size, 0, none⟩) 1 1) (w.alloc (.cells (Value.slice B n c).cells 22)) := by
  simp [go_sem, Instr.buildSlice, Instr.fill, newRow]
theorem lit2s (B D : Option Addr) (n c m d : Nat) (w : World) : (Instr.buildSlice 23 2 #[(0, .slice B n c), (1, .slice D m d)]).run Try.prog w = .ok (.slice (some ⟨w.heap.size, 0, none⟩) 2 2) (w.alloc (.cells ((Value.slice B n c).cells ++ (Value.slice D m d).cells) 22)) := by
  simp [go_sem, Instr.buildSlice, Instr.fill, newRow]
theorem wpl_slice2 {P : Program} {ops : Array Oper} {rest : List Oper} {o : Oper} {a : Act} {w w0 : World} {Q : Exit → Act → World → Prop} {L : List Res} (hs : St w0 w L) (hgd : o.guard = none) (t : TypeId) (x y : Operand) (ho : o.op = .buildSlice t 2 #[(0, x), (1, y)]) (e : TypeId) (v u : Value) (hx : a.eval x = v) (hy : a.eval y = u)
    (hb : ∀ w, (Instr.buildSlice t 2 #[(0, v), (1, u)]).run P w = .ok (.slice (some ⟨w.heap.size, 0, none⟩) 2 2) (w.alloc (.cells (v.cells ++ u.cells) e)))
    (h : ∀ g w', St w0 w' (.blk g e (v.cells ++ u.cells) :: L) → wpList P ops Q rest (a.put o.dst (.slice (some ⟨g, 0, none⟩) 2 2)) w') : wpList P ops Q (o :: rest) a w :=
  wpList_plain hgd fun _ hK => by
    unfold Oper.wp execOp
    simp only [ho, Sem.run_bind, List.map_toArray, List.map_cons, List.map_nil, hx, hy, hb, Result.andThen_ok]
    exact hK _ _ (h w.heap.size _ (hs.alloc e _))
theorem RdI.len {w : World} {k : IntKind} {A : Option Addr} {n : Nat} {l : List Nat} (h : RdI w k A n l) : l.length = n := by have := h.1; rw [cellsI_len] at this; omega
theorem RdP.of_blk1 {w0 w : World} {L : List Res} (hs : St w0 w L) {g : Nat} {t : TypeId} {B : Option Addr} {n c : Nat} (hm : Has (Res.blk g t (Value.slice B n c).cells) L) {l : List Nat} (hr : RdI w .u8 B n l) : RdP w (some ⟨g, 0, none⟩) 1 [l] := by
  refine ⟨rfl, fun i l' hl => ?_⟩
  match i, hl with
  | 0, hl =>
    cases hl
    have e := hr.len
    subst e
    exact ⟨_, B, c, rfl, (hs.cell hm 0).trans rfl, hr⟩
  | i + 1, hl => simp at hl
theorem RdP.of_blk2 {w0 w : World} {L : List Res} (hs : St w0 w L) {g : Nat} {t : TypeId} {B D : Option Addr} {n c m d : Nat} (hm : Has (Res.blk g t ((Value.slice B n c).cells ++ (Value.slice D m d).cells)) L)
    {l l' : List Nat} (hr : RdI w .u8 B n l) (hr' : RdI w .u8 D m l') : RdP w (some ⟨g, 0, none⟩) 2 [l, l'] := by
  refine ⟨rfl, fun i l2 hl => ?_⟩
  match i, hl with
  | 0, hl =>
    cases hl
    have e := hr.len
    subst e
    exact ⟨_, B, c, rfl, (hs.cell hm 0).trans rfl, hr⟩
  | 1, hl =>
    cases hl
    have e := hr'.len
    subst e
    exact ⟨_, D, d, rfl, (hs.cell hm 1).trans rfl, hr'⟩
  | i + 2, hl => simp at hl
theorem copy_top {H B : List Nat} {N m : Nat} (hB : B = H ++ List.replicate (N - m) 0) : List.take 0 (List.replicate N 0) ++ (H ++ List.drop (0 + m) (List.replicate N 0)) = B := by
  rw [List.take_zero, List.nil_append, List.drop_replicate, Nat.zero_add, hB]
set_option maxHeartbeats 1000000 in
theorem block_any (k : List Nat) (hk : ∀ x ∈ k, x < 256) (A : Option Addr) (n c : Nat) (hn : n ≤ 100000) (w : World) (hr : RdI w .u8 A n k) :
    Calls Try.prog 19 #[.slice A n c] w fun e w' => e = .returned (.agg (ints .u8 (blk64 k))) ∧ Below w.heap.size w w' := by
  have hlen := hr.len
  have hfl : [k].flatten = k := by simp
  by_cases h64 : 64 < n
  · have d1 : decide ((64 : Int) < (n : Int)) = true := by simp; omega
    have i1 : (64 : Int) < (n : Int) := by omega
    have hsh : short k = hash k := by rw [short, if_pos (by omega)]
    obtain ⟨H, hH⟩ : ∃ H, H = hash k := ⟨_, rfl⟩
    have hl : H.length = 32 := by rw [hH]; exact hash_len k
    obtain ⟨B, hB⟩ : ∃ B, B = H ++ List.replicate (64 - 32) 0 := ⟨_, rfl⟩
    have hbk : B = blk64 k := by rw [blk64, hsh, hash_len, hB, hH]
    have bl : B.length = 64 := by rw [hbk]; exact blk_len k
    have HB := Lib.hid hbk
    have HB2 := Lib.hid hB
    clear hsh hbk hB
    have HS : Hid (∀ (A : Option Addr) (c : Nat) (w : World), RdP w A 1 [k] → Calls Try.prog 22 #[.slice A 1 c] w fun e w' => e = .returned (.agg (ints .u8 H)) ∧ Below w.heap.size w w') :=
      Lib.hid fun A c w hp => by
        have := sum_any [k] (by rw [hfl]; omega) (by rw [hfl]; exact hk) A 1 c w hp (by omega)
        rwa [hfl, ← hH] at this
    have HH := Lib.hid hH
    clear hfl hH hlen hk
    go_enter Try.func19, Try.ntmps19
    have hs := St.nil w
    go_wp2_with (first
      | (with_reducible refine wpl_allocRow (o := ⟨some 2, _, _, _, _, _⟩) hs rfl 31 rfl _ (zero31 _) ?_; clear hs; intro g2 w2 hs)
      | (with_reducible refine wpl_slice1 hs rfl 23 _ rfl 22 (.slice A n c) rfl (lit1s A n c) ?_; clear hs; intro g9 w9 hs; have hrp := RdP.of_blk1 hs .head (hr.st hs))
      | (go_at_call 22; refine (HS.out _ _ _ hrp).mono ?_; clear hrp; rintro e w5 ⟨rfl, hb5⟩; replace hs := hs.call hb5; clear hb5)
      | (with_reducible refine wpl_allocRow (o := ⟨some 3, _, _, _, _, _⟩) hs rfl 27 rfl _ (zero27 _) ?_; clear hs; intro g3 w3 hs)
      | (with_reducible refine wpl_storeRow hs rfl 27 _ _ rfl g3 (ints .u8 H) rfl rfl 27 _ .head row27 (sizeI hl) (sizeI List.length_replicate) (ints_oneCell _ _) ?_; clear hs; intro w6 hs)
      | (with_reducible refine wpl_allocRow (o := ⟨some 4, _, _, _, _, _⟩) hs rfl 31 rfl _ (zero31 _) ?_; clear hs; intro g4 w7 hs; have hrc := Rd.of_ints hs (.tail .head) hl)
      | (with_reducible refine wpl_copyI (o := ⟨some 14, _, _, _, _, _⟩) (l' := H) (l := List.replicate 64 0) (off := 0) (m := 32) hs rfl _ _ 22 22 rfl rfl rfl .head hrc (by decide) (by rw [List.length_replicate]; decide) Try.underlying22 info5 ?_; clear hs hrc; intro w8 hs; rw [copy_top HB2.out] at hs)
      | (with_reducible refine wpl_loadRow (o := ⟨some 15, _, _, _, _, _⟩) hs rfl 31 _ rfl g4 rfl 31 _ .head row31 (sizeI bl) ?_)
      | (with_reducible refine wpl_storeRow hs rfl 31 _ _ rfl g2 (ints .u8 B) rfl rfl 31 _ (.tail (.tail (.tail .head))) row31 (sizeI bl) (sizeI List.length_replicate) (ints_oneCell _ _) ?_; clear hs; intro w10 hs))
    exact ret_row hs rfl g2 31 _ rfl (.tail (.tail (.tail .head))) row31 (sizeI bl) rfl ⟨by rw [HB.out], hs.below⟩
  · have d1 : decide ((64 : Int) < (n : Int)) = false := by simp; omega
    have i1 : (n : Int) ≤ 64 := by omega
    have h64' : n ≤ 64 := by omega
    have hsh : short k = k := by rw [short, if_neg (by omega)]
    obtain ⟨B, hB⟩ : ∃ B, B = k ++ List.replicate (64 - n) 0 := ⟨_, rfl⟩
    have hbk : B = blk64 k := by rw [blk64, hsh, hlen, hB]
    have bl : B.length = 64 := by rw [hbk]; exact blk_len k
    have HB := Lib.hid hbk
    have HB2 := Lib.hid hB
    clear hsh hbk hB hfl hk
    go_enter Try.func19, Try.ntmps19
    have hs := St.nil w
    go_wp2_with (first
      | (with_reducible refine wpl_allocRow (o := ⟨some 2, _, _, _, _, _⟩) hs rfl 31 rfl _ (zero31 _) ?_; clear hs; intro g2 w2 hs)
      | (with_reducible refine wpl_allocRow (o := ⟨some 4, _, _, _, _, _⟩) hs rfl 31 rfl _ (zero31 _) ?_; clear hs; intro g4 w7 hs; have hrc := hr.st hs)
      | (with_reducible refine wpl_copyI (o := ⟨some 14, _, _, _, _, _⟩) (l' := k) (l := List.replicate 64 0) (off := 0) (m := n) hs rfl _ _ 22 22 rfl rfl rfl .head hrc h64' (by rw [List.length_replicate]; omega) Try.underlying22 info5 ?_; clear hs hrc; intro w8 hs; rw [copy_top HB2.out] at hs)
      | (with_reducible refine wpl_loadRow (o := ⟨some 15, _, _, _, _, _⟩) hs rfl 31 _ rfl g4 rfl 31 _ .head row31 (sizeI bl) ?_)
      | (with_reducible refine wpl_storeRow hs rfl 31 _ _ rfl g2 (ints .u8 B) rfl rfl 31 _ (.tail .head) row31 (sizeI bl) (sizeI List.length_replicate) (ints_oneCell _ _) ?_; clear hs; intro w10 hs))
    exact ret_row hs rfl g2 31 _ rfl (.tail .head) row31 (sizeI bl) rfl ⟨by rw [HB.out], hs.below⟩
set_option maxHeartbeats 1000000 in
theorem rblock_any (k : List Nat) (hk : ∀ x ∈ k, x < 256) (A : Option Addr) (n c : Nat) (hn : n ≤ 100000) (w : World) (hr : RdI w .u8 A n k) :
    Calls Try.prog 20 #[.slice A n c] w fun e w' => e = .returned (.agg (ints .u8 (blk64 k))) ∧ Below w.heap.size w w' := by
  have hlen := hr.len
  have hfl : [k].flatten = k := by simp
  by_cases h64 : 64 < n
  · have d1 : decide ((64 : Int) < (n : Int)) = true := by simp; omega
    have i1 : (64 : Int) < (n : Int) := by omega
    have hsh : short k = hash k := by rw [short, if_pos (by omega)]
    obtain ⟨H, hH⟩ : ∃ H, H = hash k := ⟨_, rfl⟩
    have hl : H.length = 32 := by rw [hH]; exact hash_len k
    obtain ⟨B, hB⟩ : ∃ B, B = H ++ List.replicate (64 - 32) 0 := ⟨_, rfl⟩
    have hbk : B = blk64 k := by rw [blk64, hsh, hash_len, hB, hH]
    have bl : B.length = 64 := by rw [hbk]; exact blk_len k
    have HB := Lib.hid hbk
    have HB2 := Lib.hid hB
    clear hsh hbk hB
    have HS : Hid (∀ (A : Option Addr) (c : Nat) (w : World), RdP w A 1 [k] → Calls Try.prog 46 #[.slice A 1 c] w fun e w' => e = .returned (.agg (ints .u8 H)) ∧ Below w.heap.size w w') :=
      Lib.hid fun A c w hp => by
        have := rsum_any [k] (by rw [hfl]; omega) (by rw [hfl]; exact hk) A 1 c w hp (by omega)
        rwa [hfl, ← hH] at this
    have HH := Lib.hid hH
    clear hfl hH hlen hk
    go_enter Try.func20, Try.ntmps20
    have hs := St.nil w
    go_wp2_with (first
      | (with_reducible refine wpl_allocRow (o := ⟨some 2, _, _, _, _, _⟩) hs rfl 31 rfl _ (zero31 _) ?_; clear hs; intro g2 w2 hs)
      | (with_reducible refine wpl_allocRow (o := ⟨some 3, _, _, _, _, _⟩) hs rfl 31 rfl _ (zero31 _) ?_; clear hs; intro g4 w7 hs)
      | (with_reducible refine wpl_slice1 hs rfl 23 _ rfl 22 (.slice A n c) rfl (lit1s A n c) ?_; clear hs; intro g9 w9 hs; have hrp := RdP.of_blk1 hs .head (hr.st hs))
      | (go_at_call 46; refine (HS.out _ _ _ hrp).mono ?_; clear hrp; rintro e w5 ⟨rfl, hb5⟩; replace hs := hs.call hb5; clear hb5)
      | (with_reducible refine wpl_allocRow (o := ⟨some 4, _, _, _, _, _⟩) hs rfl 27 rfl _ (zero27 _) ?_; clear hs; intro g3 w3 hs)
      | (with_reducible refine wpl_storeRow hs rfl 27 _ _ rfl g3 (ints .u8 H) rfl rfl 27 _ .head row27 (sizeI hl) (sizeI List.length_replicate) (ints_oneCell _ _) ?_; clear hs; intro w6 hs))
    refine reg_tail hs 2 (by kernel_rfl) (by kernel_rfl) ?_
    clear hs
    intro w12 hs
    simp only [List.take_succ_cons, List.take_zero, List.drop_succ_cons, List.drop_zero]
    repeat (refine wpStill_step (fun K hK => ?_); go_simp; refine hK _ ?_; clear hK K)
    refine wpStill_nil ?_
    have hrc := Rd.of_ints hs .head hl
    go_wp2_with (first
      | (with_reducible refine wpl_copyI (o := ⟨some 13, _, _, _, _, _⟩) (l' := H) (l := List.replicate 64 0) (off := 0) (m := 32) hs rfl _ _ 22 22 rfl rfl rfl (.tail (.tail .head)) hrc (by decide) (by rw [List.length_replicate]; decide) Try.underlying22 info5 ?_; clear hs hrc; intro w8 hs; rw [copy_top HB2.out] at hs)
      | (with_reducible refine wpl_loadRow (o := ⟨some 14, _, _, _, _, _⟩) hs rfl 31 _ rfl g4 rfl 31 _ (.tail (.tail .head)) row31 (sizeI bl) ?_)
      | (with_reducible refine wpl_storeRow hs rfl 31 _ _ rfl g2 (ints .u8 B) rfl rfl 31 _ (.tail (.tail (.tail .head))) row31 (sizeI bl) (sizeI List.length_replicate) (ints_oneCell _ _) ?_; clear hs; intro w10 hs))
    exact ret_row hs rfl g2 31 _ rfl (.tail (.tail (.tail .head))) row31 (sizeI bl) rfl ⟨by rw [HB.out], hs.below⟩
  · have d1 : decide ((64 : Int) < (n : Int)) = false := by simp; omega
    have i1 : (n : Int) ≤ 64 := by omega
    have h64' : n ≤ 64 := by omega
    have hsh : short k = k := by rw [short, if_neg (by omega)]
    obtain ⟨B, hB⟩ : ∃ B, B = k ++ List.replicate (64 - n) 0 := ⟨_, rfl⟩
    have hbk : B = blk64 k := by rw [blk64, hsh, hlen, hB]
    have bl : B.length = 64 := by rw [hbk]; exact blk_len k
    have HB := Lib.hid hbk
    have HB2 := Lib.hid hB
    clear hsh hbk hB hfl hk
    go_enter Try.func20, Try.ntmps20
    have hs := St.nil w
    go_wp2_with (first
      | (with_reducible refine wpl_allocRow (o := ⟨some 2, _, _, _, _, _⟩) hs rfl 31 rfl _ (zero31 _) ?_; clear hs; intro g2 w2 hs)
      | (with_reducible refine wpl_allocRow (o := ⟨some 3, _, _, _, _, _⟩) hs rfl 31 rfl _ (zero31 _) ?_; clear hs; intro g4 w7 hs; have hrc := hr.st hs)
      | (with_reducible refine wpl_copyI (o := ⟨some 17, _, _, _, _, _⟩) (l' := k) (l := List.replicate 64 0) (off := 0) (m := n) hs rfl _ _ 22 22 rfl rfl rfl .head hrc h64' (by rw [List.length_replicate]; omega) Try.underlying22 info5 ?_; clear hs hrc; intro w8 hs; rw [copy_top HB2.out] at hs)
      | (with_reducible refine wpl_loadRow (o := ⟨some 18, _, _, _, _, _⟩) hs rfl 31 _ rfl g4 rfl 31 _ .head row31 (sizeI bl) ?_)
      | (with_reducible refine wpl_storeRow hs rfl 31 _ _ rfl g2 (ints .u8 B) rfl rfl 31 _ (.tail .head) row31 (sizeI bl) (sizeI List.length_replicate) (ints_oneCell _ _) ?_; clear hs; intro w10 hs))
    exact ret_row hs rfl g2 31 _ rfl (.tail .head) row31 (sizeI bl) rfl ⟨by rw [HB.out], hs.below⟩
end Go.Proofs.Ytleabipplchbpaa
