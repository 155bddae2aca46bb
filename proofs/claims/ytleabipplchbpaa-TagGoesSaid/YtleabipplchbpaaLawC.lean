/-
  The statements of the keyed hash: what wakes, and laws on operations behind a guard.
-/
import Derived.Test.YtleabipplchbpaaLawA
import Derived.Test.YtleabipplchbpaaMacE
import Derived.Lib.SlBytesConst
namespace Go.Proofs.Ytleabipplchbpaa
open Go.RowKit
set_option maxRecDepth 100000
section
variable {P : Program} {ops : Array Oper} {rest : List Oper} {o : Oper} {a : Act} {w w0 : World} {Q : Exit → Act → World → Prop} {L : List Res}
/-- A literal of a slice, guarded or not. -/
theorem wpg_slice (hs : St w0 w L) (hw : Region.wanted o (yielded ops a.tmps) = true) (t : TypeId) (n : Nat) (parts : Array (Nat × Operand)) (ho : o.op = .buildSlice t n parts) (e : TypeId) (cs : Array Value)
    (hb : ∀ w, (Instr.buildSlice t n (parts.map fun (i, x) => (i, a.eval x))).run P w = .ok (.slice (some ⟨w.heap.size, 0, none⟩) n n) (w.alloc (.cells cs e)))
    (h : ∀ g w', St w0 w' (.blk g e cs :: L) → wpList P ops Q rest (a.put o.dst (.slice (some ⟨g, 0, none⟩) n n)) w') : wpList P ops Q (o :: rest) a w :=
  BigFrame.wpList_want hw fun _ hK => by
    unfold Oper.wp execOp
    simp only [ho, Sem.run_bind, hb, Result.andThen_ok]
    exact hK _ _ (h w.heap.size _ (hs.alloc e cs))
theorem run_index (ty : TypeId) (k ki : IntKind) (l : List Nat) (i : Nat) {e n : Nat} (hu : P.underlying ty = some (.array n e)) (he : P.underlying e = some (.int k)) (hz : (P.info? e).map (·.size) = some 1) (hn : l.length = n) (hin : i < n) (w : World) :
    (Instr.index ty (.agg (ints k l)) (.int ki (i : Nat))).run P w = .ok (.int k (at_ l i : Nat)) w := by
  cases hq : P.info? e with
  | none => simp [hq] at hz
  | some inf =>
    have hsz : inf.size = 1 := by simpa [hq] using hz
    have hg := ints_get (k := k) (l := l) (i := i) (by omega)
    simp [Instr.index, asIntOf, run_underlying hu, run_underlying he, part, isAgg, sizeOf, typeInfo, hq, hsz, hg]
    intro hh
    omega
end
section
variable {ops : Array Oper} {rest : List Oper} {o1 o2 : Oper} {a : Act} {w : World} {Q : Exit → Act → World → Prop}
/-- The bytes of a constant text: a literal, and its conversion to its own type (which marks it). -/
theorem wpg_text (hw1 : Region.wanted o1 (yielded ops a.tmps) = true) (n : Nat) (parts : Array (Nat × Operand)) (ho1 : o1.op = .buildSlice 22 n parts) (x : Operand) (ho2 : o2.op = .convert 22 22 x) (l : List Nat)
    (hb : ∀ w, (Instr.buildSlice 22 n (parts.map fun (i, x) => (i, a.eval x))).run Try.prog w = .ok (.slice (some ⟨w.heap.size, 0, none⟩) n n) (w.alloc (.cells (ints .u8 l) 5))) (hl : l.length = n)
    (hw2 : ∀ v, Region.wanted o2 (yielded ops (a.put o1.dst v).tmps) = true) (hx : ∀ v, (a.put o1.dst v).eval x = v)
    (h : ∀ g w', Below w.heap.size w w' → RdI w' .u8 (some ⟨g, 0, none⟩) n l → wpList Try.prog ops Q rest ((a.put o1.dst (.slice (some ⟨g, 0, none⟩) n n)).put o2.dst (.slice (some ⟨g, 0, none⟩) n n)) w') :
    wpList Try.prog ops Q (o1 :: o2 :: rest) a w :=
  BigFrame.wpList_want hw1 fun _ hK => by
    unfold Oper.wp execOp
    simp only [ho1, Sem.run_bind, hb, Result.andThen_ok]
    refine hK _ _ (BigFrame.wpList_want (hw2 _) fun _ hK2 => ?_)
    unfold Oper.wp execOp
    simp only [ho2, hx, Sem.run_bind, Lib.run_convert_bytes_const w 22 5 (ints .u8 l) n n Try.underlying22 Try.underlying5, Result.andThen_ok]
    refine hK2 _ _ (h w.heap.size _ ((Below.refl _ _).alloc (Nat.le_refl _) _) ⟨by rw [cellsI_len, hl, Nat.mul_one], fun j u hu => ⟨_, rfl, ?_⟩⟩)
    rw [show (⟨w.heap.size, 0, none⟩ : Addr).add j = ⟨w.heap.size, j, none⟩ from by unfold Addr.add; split <;> simp_all, World.cell?_alloc_mark, ← hu, ← ints_toList]
    simp
end
/-- 'Jefe' and what it wants. -/
def jefeKey : List Nat := [74, 101, 102, 101]
def jefeA : List Nat := [119, 104, 97, 116, 32, 100, 111, 32, 121, 97, 32, 119, 97, 110, 116, 32]
def jefeB : List Nat := [102, 111, 114, 32, 110, 111, 116, 104, 105, 110, 103, 63]
theorem jefe : macOf jefeKey [jefeA, jefeB].flatten = [0x5b, 0xdc, 0xc1, 0x46, 0xbf, 0x60, 0x75, 0x4e, 0x6a, 0x04, 0x24, 0x26, 0x08, 0x95, 0x75, 0xc7, 0x5a, 0x00, 0x3f, 0x08, 0x9d, 0x27, 0x39, 0x83, 0x9d, 0xec, 0x58, 0xb9, 0x64, 0xec, 0x38, 0x43] := by decide +kernel
theorem lit_key (w : World) : (Instr.buildSlice 22 4 #[(0, .int .u8 74), (1, .int .u8 101), (2, .int .u8 102), (3, .int .u8 101)]).run Try.prog w = .ok (.slice (some ⟨w.heap.size, 0, none⟩) 4 4) (w.alloc (.cells (ints .u8 jefeKey) 5)) := by kernel_rfl
theorem lit_a (w : World) : (Instr.buildSlice 22 16 #[(0, .int .u8 119), (1, .int .u8 104), (2, .int .u8 97), (3, .int .u8 116), (4, .int .u8 32), (5, .int .u8 100), (6, .int .u8 111), (7, .int .u8 32), (8, .int .u8 121), (9, .int .u8 97), (10, .int .u8 32), (11, .int .u8 119), (12, .int .u8 97), (13, .int .u8 110), (14, .int .u8 116), (15, .int .u8 32)]).run Try.prog w = .ok (.slice (some ⟨w.heap.size, 0, none⟩) 16 16) (w.alloc (.cells (ints .u8 jefeA) 5)) := by kernel_rfl
theorem lit_b (w : World) : (Instr.buildSlice 22 12 #[(0, .int .u8 102), (1, .int .u8 111), (2, .int .u8 114), (3, .int .u8 32), (4, .int .u8 110), (5, .int .u8 111), (6, .int .u8 116), (7, .int .u8 104), (8, .int .u8 105), (9, .int .u8 110), (10, .int .u8 103), (11, .int .u8 63)]).run Try.prog w = .ok (.slice (some ⟨w.heap.size, 0, none⟩) 12 12) (w.alloc (.cells (ints .u8 jefeB) 5)) := by kernel_rfl
theorem lit_k (w : World) : (Instr.buildSlice 22 1 #[(0, .int .u8 107)]).run Try.prog w = .ok (.slice (some ⟨w.heap.size, 0, none⟩) 1 1) (w.alloc (.cells (ints .u8 [107]) 5)) := by kernel_rfl
theorem blk_k : blk64 [107] = 107 :: List.replicate 63 0 := by decide +kernel
set_option maxHeartbeats 2000000 in
theorem wakes02_any (w : World) : Calls Try.prog 15 #[] w fun e w' => e = .returned (.bool true) ∧ Below w.heap.size w w' := by
  obtain ⟨R, hR⟩ : ∃ R, R = macOf jefeKey [jefeA, jefeB].flatten := ⟨_, rfl⟩
  have rl : R.length = 32 := by rw [hR]; exact macOf_len _ _
  have hR2 : R = [0x5b, 0xdc, 0xc1, 0x46, 0xbf, 0x60, 0x75, 0x4e, 0x6a, 0x04, 0x24, 0x26, 0x08, 0x95, 0x75, 0xc7, 0x5a, 0x00, 0x3f, 0x08, 0x9d, 0x27, 0x39, 0x83, 0x9d, 0xec, 0x58, 0xb9, 0x64, 0xec, 0x38, 0x43] := hR.trans jefe
  have a0 : at_ R 0 = 91 := by rw [hR2]; rfl
  have a1 : at_ R 1 = 220 := by rw [hR2]; rfl
  have a2 : at_ R 2 = 193 := by rw [hR2]; rfl
  have a3 : at_ R 3 = 70 := by rw [hR2]; rfl
  have a31 : at_ R 31 = 67 := by rw [hR2]; rfl
  clear hR2
  have HM : Hid (∀ (A B : Option Addr) (c cb : Nat) (w : World), RdI w .u8 A 4 jefeKey → RdP w B 2 [jefeA, jefeB] → Calls Try.prog 16 #[.slice A 4 c, .slice B 2 cb] w fun e w' => e = .returned (.agg (ints .u8 R)) ∧ Below w.heap.size w w') :=
    Lib.hid fun A B c cb w hr hp => by
      rw [hR]
      exact mac_any jefeKey (by decide) [jefeA, jefeB] (by decide) (by decide) A B 4 c 2 cb (by omega) (by omega) w hr hp
  have HA := Lib.hid (And.intro a0 (And.intro a1 (And.intro a2 (And.intro a3 a31))))
  clear a0 a1 a2 a3 a31 hR
  obtain ⟨B, hB⟩ : ∃ B, B = blk64 [107] := ⟨_, rfl⟩
  have bl : B.length = 64 := by rw [hB]; exact blk_len _
  have b0 : at_ B 0 = 107 := by rw [hB, blk_k]; rfl
  have HB : Hid (∀ (A : Option Addr) (c : Nat) (w : World), RdI w .u8 A 1 [107] → Calls Try.prog 19 #[.slice A 1 c] w fun e w' => e = .returned (.agg (ints .u8 B)) ∧ Below w.heap.size w w') :=
    Lib.hid fun A c w hr => by
      rw [hB]
      exact block_any [107] (by decide) A 1 c (by omega) w hr
  have hix : ∀ w, (Instr.index 31 (.agg (ints .u8 B)) (.int .i64 0)).run Try.prog w = .ok (.int .u8 107) w := fun w => by
    have := run_index 31 .u8 .i64 B 0 Try.underlying31 Try.underlying5 info5 bl (by decide) w
    rwa [b0] at this
  clear hB b0
  obtain ⟨K, hK⟩ : ∃ K, K = jefeKey := ⟨_, rfl⟩
  obtain ⟨PA, hPA⟩ : ∃ K, K = jefeA := ⟨_, rfl⟩
  obtain ⟨PB, hPB⟩ : ∃ K, K = jefeB := ⟨_, rfl⟩
  rw [← hK, ← hPA, ← hPB] at HM
  have kl : K.length = 4 := by rw [hK]; rfl
  have pal : PA.length = 16 := by rw [hPA]; rfl
  have pbl : PB.length = 12 := by rw [hPB]; rfl
  have HK := Lib.hid hK
  have HPA := Lib.hid hPA
  have HPB := Lib.hid hPB
  clear hK hPA hPB
  have HL1 := Lib.hid lit_key
  have HL2 := Lib.hid lit_a
  have HL3 := Lib.hid lit_b
  rw [← HK.out] at HL1
  rw [← HPA.out] at HL2
  rw [← HPB.out] at HL3
  go_enter Try.func15, Try.ntmps15
  have hs := St.nil w
  go_wp2_with (first
    | ((with_reducible refine wpg_text (o1 := ⟨some 2, _, _, _, _, _⟩) (o2 := ⟨some 3, _, _, _, _, _⟩) ?a2 4 _ rfl _ rfl K ?b2 kl ?c2 ?d2 ?_); (case a2 => rfl); (case b2 => intro w; simp only [List.map_toArray, List.map_cons, List.map_nil]; exact HL1.out w); (case c2 => intro v; rfl); (case d2 => intro v; rfl); intro g2 w2 hb2 hr2; replace hs := hs.call hb2; clear hb2)
    | ((with_reducible refine wpg_text (o1 := ⟨some 4, _, _, _, _, _⟩) (o2 := ⟨some 5, _, _, _, _, _⟩) ?a4 16 _ rfl _ rfl PA ?b4 pal ?c4 ?d4 ?_); (case a4 => rfl); (case b4 => intro w; simp only [List.map_toArray, List.map_cons, List.map_nil]; exact HL2.out w); (case c4 => intro v; rfl); (case d4 => intro v; rfl); intro g4 w4 hb4 hr4; replace hs := hs.call hb4; replace hr2 := hr2.call hb4; clear hb4)
    | ((with_reducible refine wpg_text (o1 := ⟨some 6, _, _, _, _, _⟩) (o2 := ⟨some 7, _, _, _, _, _⟩) ?a6 12 _ rfl _ rfl PB ?b6 pbl ?c6 ?d6 ?_); (case a6 => rfl); (case b6 => intro w; simp only [List.map_toArray, List.map_cons, List.map_nil]; exact HL3.out w); (case c6 => intro v; rfl); (case d6 => intro v; rfl); intro g6 w6 hb6 hr6; replace hs := hs.call hb6; replace hr2 := hr2.call hb6; replace hr4 := hr4.call hb6; have hB := hs.below; replace hs := St.nil w6; clear hb6)
    | (with_reducible refine wpl_slice2 (o := ⟨some 8, _, _, _, _, _⟩) hs rfl 23 _ _ rfl 22 (.slice (some ⟨g4, 0, none⟩) 16 16) (.slice (some ⟨g6, 0, none⟩) 12 12) rfl rfl (lit2s _ _ _ _ _ _) ?_; clear hs; intro g8 w8 hs; have hpp := RdP.of_blk2 hs .head (hr4.st hs) (hr6.st hs); have hrk := hr2.st hs; clear hr2 hr4 hr6)
    | (go_at_call 16; refine (HM.out _ _ _ _ _ hrk hpp).mono ?_; clear hrk hpp; rintro e w9 ⟨rfl, hb9⟩; replace hs := hs.call hb9; clear hb9)
    | (with_reducible refine wpl_allocRow (o := ⟨some 1, _, _, _, _, _⟩) hs rfl 27 rfl _ (zero27 _) ?_; clear hs; intro g1 w10 hs)
    | (with_reducible refine wpl_storeRow hs rfl 27 _ _ rfl g1 (ints .u8 R) rfl rfl 27 _ .head row27 (sizeI rl) (sizeI List.length_replicate) (ints_oneCell _ _) ?_; clear hs; intro w11 hs; have c0 := (hs.num (g := g1) .head (i := 0) (by omega)).trans (congrArg (fun n : Nat => some (Value.int .u8 n)) HA.out.1); have c1 := (hs.num (g := g1) .head (i := 1) (by omega)).trans (congrArg (fun n : Nat => some (Value.int .u8 n)) HA.out.2.1); have c2 := (hs.num (g := g1) .head (i := 2) (by omega)).trans (congrArg (fun n : Nat => some (Value.int .u8 n)) HA.out.2.2.1); have c3 := (hs.num (g := g1) .head (i := 3) (by omega)).trans (congrArg (fun n : Nat => some (Value.int .u8 n)) HA.out.2.2.2.1); have c31 := (hs.num (g := g1) .head (i := 31) (by omega)).trans (congrArg (fun n : Nat => some (Value.int .u8 n)) HA.out.2.2.2.2))
    | ((with_reducible refine wpg_text (o1 := ⟨some 34, _, _, _, _, _⟩) (o2 := ⟨some 35, _, _, _, _, _⟩) ?a34 1 _ rfl _ rfl [107] ?b34 rfl ?c34 ?d34 ?_); (case a34 => rfl); (case b34 => intro w; simp only [List.map_toArray, List.map_cons, List.map_nil]; exact lit_k w); (case c34 => intro v; rfl); (case d34 => intro v; rfl); intro g34 w34 hb34 hr34; replace hs := hs.call hb34; clear hb34)
    | (go_at_call 19; refine (HB.out _ _ _ hr34).mono ?_; clear hr34; rintro e w35 ⟨rfl, hb35⟩; replace hs := hs.call hb35; clear hb35))
  go_ret
  exact ⟨rfl, hB.trans (hs.below.mono hB.size)⟩
end Go.Proofs.Ytleabipplchbpaa
