/-
  Walks over chains, part 4: what wakes. (Printed by wip/tools/tagD.py.)
-/
import Derived.Test.YtleabipplchbpaaMarks
namespace Go.Proofs.Ytleabipplchbpaa
open Go.RowKit
set_option maxRecDepth 100000
theorem lit_97 (w : World) : (Instr.buildSlice 22 1 #[(0, .int .u8 97)]).run Try.prog w = .ok (.slice (some ⟨w.heap.size, 0, none⟩) 1 1) (w.alloc (.cells (ints .u8 [97]) 5)) := by kernel_rfl
theorem lit_98 (w : World) : (Instr.buildSlice 22 1 #[(0, .int .u8 98)]).run Try.prog w = .ok (.slice (some ⟨w.heap.size, 0, none⟩) 1 1) (w.alloc (.cells (ints .u8 [98]) 5)) := by kernel_rfl
theorem lit_ab (w : World) : (Instr.buildSlice 22 2 #[(0, .int .u8 97), (1, .int .u8 98)]).run Try.prog w = .ok (.slice (some ⟨w.heap.size, 0, none⟩) 2 2) (w.alloc (.cells (ints .u8 [97, 98]) 5)) := by kernel_rfl
theorem lit_no (w : World) : (Instr.buildSlice 22 0 #[]).run Try.prog w = .ok (.slice (some ⟨w.heap.size, 0, none⟩) 0 0) (w.alloc (.cells (ints .u8 []) 5)) := lit0b w
theorem links_apart : hash (List.replicate 32 0 ++ [97]) ≠ hash (hash (List.replicate 32 0 ++ [97]) ++ [98]) := by decide +kernel
set_option maxHeartbeats 16000000 in
theorem wakes03_any (w : World) : Calls Try.prog 23 #[] w fun e w' => e = .returned (.bool true) ∧ Below w.heap.size w w' := by
  obtain ⟨Z, hZ⟩ : ∃ Z, Z = List.replicate 32 0 := ⟨_, rfl⟩
  have zl : Z.length = 32 := by rw [hZ]; rfl
  have zb : ∀ x ∈ Z, x < 256 := by rw [hZ]; intro x hx; rw [(List.mem_replicate.1 hx).2]; decide
  obtain ⟨X1, hX1⟩ : ∃ X1, X1 = hash (Z ++ [97]) := ⟨_, rfl⟩
  have x1l : X1.length = 32 := by rw [hX1]; exact hash_len _
  have x1b : ∀ x ∈ X1, x < 256 := by rw [hX1]; exact hash_lt _
  obtain ⟨X2, hX2⟩ : ∃ X2, X2 = hash (X1 ++ [98]) := ⟨_, rfl⟩
  have x2l : X2.length = 32 := by rw [hX2]; exact hash_len _
  have x2b : ∀ x ∈ X2, x < 256 := by rw [hX2]; exact hash_lt _
  have hx12 : X1 ≠ X2 := by rw [hX2, hX1, hZ]; exact links_apart
  have hch : chainL Z [[97], [98]] 2 = [X1, X2] := by rw [hX2, hX1]; rfl
  have HC : Hid (∀ (B : Option Addr) (cb : Nat) (w : World), RdP w B 2 [[97], [98]] → Calls Try.prog 24 #[.agg (ints .u8 Z), .slice B 2 cb] w fun e w' => ∃ A c, e = .returned (.slice A 2 c) ∧ (rowR A 2 c 27 32 (cellsI .u8 [X1, X2].flatten)).ok w.heap.size w' ∧ Below w.heap.size w w') :=
    Lib.hid fun B cb w hp => by
      have := chain_any Z zl zb [[97], [98]] (by decide) (by decide) B 2 cb (by omega) w hp
      rwa [hch] at this
  have HS1 : Hid (∀ (A B : Option Addr) (w : World), RdI w .u8 A 2 [97, 98] → RdI w .u8 B 2 [97, 98] → Calls Try.prog 26 #[.slice A 2 2, .slice B 2 2] w fun e w' => e = .returned (.bool true) ∧ Below w.heap.size w w') :=
    Lib.hid fun A B w h1 h2 => by
      have := same_any [97, 98] [97, 98] (by decide) (by decide) A B 2 2 2 2 (by decide) w h1 h2
      rwa [same_self] at this
  have HS2 : Hid (∀ (A : Option Addr) (w : World), RdI w .u8 A 1 [97] → Calls Try.prog 26 #[.slice A 1 1, .slice none 0 0] w fun e w' => e = .returned (.bool false) ∧ Below w.heap.size w w') :=
    Lib.hid fun A w h1 => same_any [97] [] (by decide) (by decide) A none 1 1 0 0 (by decide) w h1 (Rd.nil _ _ _)
  have HS3 : Hid (∀ (B : Option Addr) (w : World), RdI w .u8 B 0 [] → Calls Try.prog 26 #[.slice none 0 0, .slice B 0 0] w fun e w' => e = .returned (.bool true) ∧ Below w.heap.size w w') :=
    Lib.hid fun B w h2 => same_any [] [] (by decide) (by decide) none B 0 0 0 0 (by decide) w (Rd.nil _ _ _) h2
  have HSum : Hid (∀ (A : Option Addr) (w : World), RdP w A 2 [Z, [97]] → Calls Try.prog 22 #[.slice A 2 2] w fun e w' => e = .returned (.agg (ints .u8 X1)) ∧ Below w.heap.size w w') :=
    Lib.hid fun A w hp => by
      have hf : [Z, [97]].flatten = Z ++ [97] := by simp
      have := sum_any [Z, [97]] (by rw [hf, List.length_append, zl]; decide) (by
        rw [hf]
        intro x hx
        rcases List.mem_append.1 hx with h | h
        · exact zb x h
        · rw [List.mem_singleton.1 h]; decide) A 2 2 w hp (by decide)
      rwa [hf, ← hX1] at this
  have HSt : Hid (∀ (A : Option Addr) (w : World), RdP w A 1 [[98]] → Calls Try.prog 27 #[.agg (ints .u8 X1), .slice A 1 1] w fun e w' => e = .returned (.agg (ints .u8 X2)) ∧ Below w.heap.size w w') :=
    Lib.hid fun A w hp => by
      have := step_any X1 x1l x1b [[98]] (by decide) (by decide) A 1 1 (by omega) w hp
      rwa [show [[98]].flatten = [98] from rfl, ← hX2] at this
  have e1 : ∀ w, (binOp .eql 27 (.agg (ints .u8 X1)) (.agg (ints .u8 X1))).run Try.prog w = .ok (.bool true) w := fun w => by rw [run_eq27 w x1l x1l x1b x1b]; simp
  have e2 : ∀ w, (binOp .eql 27 (.agg (ints .u8 X2)) (.agg (ints .u8 X2))).run Try.prog w = .ok (.bool true) w := fun w => by rw [run_eq27 w x2l x2l x2b x2b]; simp
  have e3 : ∀ w, (binOp .neq 27 (.agg (ints .u8 X1)) (.agg (ints .u8 X2))).run Try.prog w = .ok (.bool true) w := fun w => by rw [run_ne27 w x1l x2l x1b x2b, decide_eq_false hx12]; rfl
  have g27 : ∀ (op : BinOp) (x y : Operand) (xs ys : Array Value) (w : World), (eqGuard op 27 x y (.agg xs) (.agg ys)).run Try.prog w = .ok () w := guard27
  have hu : ∀ l ∈ [X1, X2], l.length = 32 := by
    intro l h
    simp only [List.mem_cons, List.mem_nil_iff, or_false] at h
    rcases h with rfl | rfl
    · exact x1l
    · exact x2l
  have HU := Lib.hid hu
  have HZ := Lib.hid hZ
  clear hch hx12 hX1 hX2 zb x1b x2b hu hZ
  go_enter Try.func23, Try.ntmps23
  have hs := St.nil w
  go_wp2_with (first
    | ((with_reducible refine wpl_allocRow (o := ⟨some 1, _, _, _, _, _⟩) hs rfl 27 rfl _ (zero27 _) ?_); clear hs; intro g1 w1 hs; rw [← HZ.out] at hs)
    | (with_reducible refine wpl_loadRow (o := ⟨some 3, _, _, _, _, _⟩) hs rfl 27 _ rfl g1 rfl 27 _ .head row27 (sizeI zl) ?_)
    | ((with_reducible refine wpg_lit (o := ⟨some 4, _, _, _, _, _⟩) hs ?a4 22 1 _ rfl 5 (ints .u8 [97]) ?b4 ?_); (case a4 => rfl); (case b4 => intro w; simp only [List.map_toArray, List.map_cons, List.map_nil]; exact lit_97 w); clear hs; intro g4 w4 hs)
    | ((with_reducible refine wpg_mark (o := ⟨some 5, _, _, _, _, _⟩) hs ?a5 _ rfl (g := g4) (n := 1) (c := 1) (cs := ints .u8 [97]) rfl .head ?_); (case a5 => rfl); clear hs; intro w5 hs)
    | ((with_reducible refine wpg_lit (o := ⟨some 6, _, _, _, _, _⟩) hs ?a6 22 1 _ rfl 5 (ints .u8 [98]) ?b6 ?_); (case a6 => rfl); (case b6 => intro w; simp only [List.map_toArray, List.map_cons, List.map_nil]; exact lit_98 w); clear hs; intro g6 w6 hs)
    | ((with_reducible refine wpg_mark (o := ⟨some 7, _, _, _, _, _⟩) hs ?a7 _ rfl (g := g6) (n := 1) (c := 1) (cs := ints .u8 [98]) rfl .head ?_); (case a7 => rfl); clear hs; intro w7 hs)
    | ((with_reducible refine wpl_slice2 (o := ⟨some 8, _, _, _, _, _⟩) hs rfl 23 _ _ rfl 22 (.slice (some ⟨g4, 0, none⟩) 1 1) (.slice (some ⟨g6, 0, none⟩) 1 1) rfl rfl (lit2s _ _ _ _ _ _) ?_); clear hs; intro g8 w8 hs; have hpp := RdP.of_blk2 hs .head (Rd.of_lit hs (.tail (.tail .head)) (n := 1) rfl) (Rd.of_lit hs (.tail .head) (n := 1) rfl))
    | (go_at_call 24; refine (HC.out _ _ _ hpp).mono ?_; clear hpp; rintro e w9 ⟨A9, c9, rfl, ho9, hb9⟩; replace hs := hs.push hb9 ho9; clear hb9 ho9))
  obtain ⟨g9, rfl, _⟩ := own_some (hs.has_own .head) (by decide)
  have hrl := Rd.of_own (hs.has_own .head)
  have r1 := digest_at hrl HU.out (i := 0) rfl
  have r2 := digest_at hrl HU.out (i := 1) rfl
  have hz1 := Rd.of_ints hs (.tail (.tail (.tail (.tail .head)))) zl
  clear hrl
  refine reg_K 53 (Since0 w9.drew) (by kernel_rfl) (by kernel_rfl) ?_
  replace hs := hs.drew
  have hs0 := hs
  replace hs := St.nil w9.drew
  have r1' := Since0.range ((Below.refl _ _).drew : Since0 w9 w9.drew) r1
  have r2' := Since0.range ((Below.refl _ _).drew : Since0 w9 w9.drew) r2
  have hz2 := hz1.call ((Below.refl _ _).drew : Since0 w9 w9.drew)
  clear r1 r2 hz1
  refine K_meet 5 48 #[true, true, true, true, true, false, false, false, false, false, false, false, false, false, false, false, false, false, false, false, false, false, false, false, false, false, false, false, false, false, false, false, false, false, false, false, false, false, false, false, false, false, false, false, false, false, false, false, false, false, false, false, false, false] (fun a W => ∃ x0 x2 : Nat, a = { tmps := #[.bool false, .pointer (some ⟨g1, 0, none⟩), .slice (some ⟨g9, 0, none⟩) 2 c9, .agg (ints .u8 Z), .slice (some ⟨g4, 0, none⟩) 1 1, .slice (some ⟨g4, 0, none⟩) 1 1, .slice (some ⟨g6, 0, none⟩) 1 1, .slice (some ⟨g6, 0, none⟩) 1 1, .slice (some ⟨g8, 0, none⟩) 2 2, .slice (some ⟨g9, 0, none⟩) 2 c9, .slice (some ⟨x0, 0, none⟩) 2 2, .slice (some ⟨x0, 0, none⟩) 2 2, .slice (some ⟨x2, 0, none⟩) 2 2, .slice (some ⟨x2, 0, none⟩) 2 2, .bool true, undef, undef, undef, undef, undef, undef, undef, undef, undef, undef, undef, undef, undef, undef, undef, undef, undef, undef, undef, undef, undef, undef, undef, undef, undef, undef, undef, undef, undef, undef, undef, undef, undef, undef, undef, undef, undef, undef, undef, undef, undef, undef, undef, undef, undef, undef, undef, undef], defers := [] } ∧ St w9.drew W []) rfl ?_ ?_
  · refine KM_all (rs := [0, 2]) (by kernel_rfl) (by decide) (by decide) ?_
    intro i hi
    simp only [List.mem_cons, List.mem_nil_iff, or_false] at hi
    rcases hi with rfl | rfl
    · refine K_op (o := ⟨_, _, _, _, _, _⟩) rfl ?_
      intro KK hKK
      refine wpg_lit (o := ⟨_, _, _, _, _, _⟩) hs (by rfl) 22 2 _ rfl 5 (ints .u8 [97, 98]) (fun w => by simp only [List.map_toArray, List.map_cons, List.map_nil]; exact lit_ab w) ?_
      clear hs
      intro x0 Wx0 hs
      go_wp2_with fail
      refine kpost (hKK.out _ _ ⟨hs.below, ?_⟩)
      clear hKK KK
      refine KM_all (rs := [1, 2]) (by kernel_rfl) (by decide) (by decide) ?_
      intro i hi
      simp only [List.mem_cons, List.mem_nil_iff, or_false] at hi
      rcases hi with rfl | rfl
      · refine K_op (o := ⟨_, _, _, _, _, _⟩) rfl ?_
        intro KK hKK
        refine wpg_mark (o := ⟨_, _, _, _, _, _⟩) hs (by rfl) _ rfl (g := x0) (n := 2) (c := 2) (cs := ints .u8 [97, 98]) rfl .head ?_
        clear hs
        intro Vx0 hs
        go_wp2_with fail
        refine kpost (hKK.out _ _ ⟨hs.below, ?_⟩)
        clear hKK KK
        refine KM_one (i := 2) (by kernel_rfl) (by decide) ?_
        refine K_op (o := ⟨_, _, _, _, _, _⟩) rfl ?_
        intro KK hKK
        refine wpg_lit (o := ⟨_, _, _, _, _, _⟩) hs (by rfl) 22 2 _ rfl 5 (ints .u8 [97, 98]) (fun w => by simp only [List.map_toArray, List.map_cons, List.map_nil]; exact lit_ab w) ?_
        clear hs
        intro x2 Wx2 hs
        go_wp2_with fail
        refine kpost (hKK.out _ _ ⟨hs.below, ?_⟩)
        clear hKK KK
        refine KM_one (i := 3) (by kernel_rfl) (by decide) ?_
        refine K_op (o := ⟨_, _, _, _, _, _⟩) rfl ?_
        intro KK hKK
        refine wpg_mark (o := ⟨_, _, _, _, _, _⟩) hs (by rfl) _ rfl (g := x2) (n := 2) (c := 2) (cs := ints .u8 [97, 98]) rfl .head ?_
        clear hs
        intro Vx2 hs
        go_wp2_with fail
        refine kpost (hKK.out _ _ ⟨hs.below, ?_⟩)
        clear hKK KK
        refine KM_one (i := 4) (by kernel_rfl) (by decide) ?_
        refine K_op (o := ⟨_, _, _, _, _, _⟩) rfl ?_
        intro KK hKK
        go_wp2_with (go_at_call 26; refine (HS1.out _ _ _ (Rd.of_lit hs (.tail .head) (n := 2) rfl) (Rd.of_lit hs .head (n := 2) rfl)).mono ?_; rintro e Whb14 ⟨rfl, hb14⟩; replace hs := hs.call hb14; clear hb14)
        refine kpost (hKK.out _ _ ⟨hs.below, ?_⟩)
        clear hKK KK
        refine KM_done (by kernel_rfl) ?_
        exact ⟨_, _, rfl, hs.sub (List.nil_sublist _)⟩
      · refine K_op (o := ⟨_, _, _, _, _, _⟩) rfl ?_
        intro KK hKK
        refine wpg_lit (o := ⟨_, _, _, _, _, _⟩) hs (by rfl) 22 2 _ rfl 5 (ints .u8 [97, 98]) (fun w => by simp only [List.map_toArray, List.map_cons, List.map_nil]; exact lit_ab w) ?_
        clear hs
        intro x2 Wx2 hs
        go_wp2_with fail
        refine kpost (hKK.out _ _ ⟨hs.below, ?_⟩)
        clear hKK KK
        refine KM_all (rs := [1, 3]) (by kernel_rfl) (by decide) (by decide) ?_
        intro i hi
        simp only [List.mem_cons, List.mem_nil_iff, or_false] at hi
        rcases hi with rfl | rfl
        · refine K_op (o := ⟨_, _, _, _, _, _⟩) rfl ?_
          intro KK hKK
          refine wpg_mark (o := ⟨_, _, _, _, _, _⟩) hs (by rfl) _ rfl (g := x0) (n := 2) (c := 2) (cs := ints .u8 [97, 98]) rfl (.tail .head) ?_
          clear hs
          intro Vx0 hs
          go_wp2_with fail
          refine kpost (hKK.out _ _ ⟨hs.below, ?_⟩)
          clear hKK KK
          refine KM_one (i := 3) (by kernel_rfl) (by decide) ?_
          refine K_op (o := ⟨_, _, _, _, _, _⟩) rfl ?_
          intro KK hKK
          refine wpg_mark (o := ⟨_, _, _, _, _, _⟩) hs (by rfl) _ rfl (g := x2) (n := 2) (c := 2) (cs := ints .u8 [97, 98]) rfl .head ?_
          clear hs
          intro Vx2 hs
          go_wp2_with fail
          refine kpost (hKK.out _ _ ⟨hs.below, ?_⟩)
          clear hKK KK
          refine KM_one (i := 4) (by kernel_rfl) (by decide) ?_
          refine K_op (o := ⟨_, _, _, _, _, _⟩) rfl ?_
          intro KK hKK
          go_wp2_with (go_at_call 26; refine (HS1.out _ _ _ (Rd.of_lit hs (.tail .head) (n := 2) rfl) (Rd.of_lit hs .head (n := 2) rfl)).mono ?_; rintro e Whb14 ⟨rfl, hb14⟩; replace hs := hs.call hb14; clear hb14)
          refine kpost (hKK.out _ _ ⟨hs.below, ?_⟩)
          clear hKK KK
          refine KM_done (by kernel_rfl) ?_
          exact ⟨_, _, rfl, hs.sub (List.nil_sublist _)⟩
        · refine K_op (o := ⟨_, _, _, _, _, _⟩) rfl ?_
          intro KK hKK
          refine wpg_mark (o := ⟨_, _, _, _, _, _⟩) hs (by rfl) _ rfl (g := x2) (n := 2) (c := 2) (cs := ints .u8 [97, 98]) rfl .head ?_
          clear hs
          intro Vx2 hs
          go_wp2_with fail
          refine kpost (hKK.out _ _ ⟨hs.below, ?_⟩)
          clear hKK KK
          refine KM_one (i := 1) (by kernel_rfl) (by decide) ?_
          refine K_op (o := ⟨_, _, _, _, _, _⟩) rfl ?_
          intro KK hKK
          refine wpg_mark (o := ⟨_, _, _, _, _, _⟩) hs (by rfl) _ rfl (g := x0) (n := 2) (c := 2) (cs := ints .u8 [97, 98]) rfl (.tail .head) ?_
          clear hs
          intro Vx0 hs
          go_wp2_with fail
          refine kpost (hKK.out _ _ ⟨hs.below, ?_⟩)
          clear hKK KK
          refine KM_one (i := 4) (by kernel_rfl) (by decide) ?_
          refine K_op (o := ⟨_, _, _, _, _, _⟩) rfl ?_
          intro KK hKK
          go_wp2_with (go_at_call 26; refine (HS1.out _ _ _ (Rd.of_lit hs (.tail .head) (n := 2) rfl) (Rd.of_lit hs .head (n := 2) rfl)).mono ?_; rintro e Whb14 ⟨rfl, hb14⟩; replace hs := hs.call hb14; clear hb14)
          refine kpost (hKK.out _ _ ⟨hs.below, ?_⟩)
          clear hKK KK
          refine KM_done (by kernel_rfl) ?_
          exact ⟨_, _, rfl, hs.sub (List.nil_sublist _)⟩
    · refine K_op (o := ⟨_, _, _, _, _, _⟩) rfl ?_
      intro KK hKK
      refine wpg_lit (o := ⟨_, _, _, _, _, _⟩) hs (by rfl) 22 2 _ rfl 5 (ints .u8 [97, 98]) (fun w => by simp only [List.map_toArray, List.map_cons, List.map_nil]; exact lit_ab w) ?_
      clear hs
      intro x2 Wx2 hs
      go_wp2_with fail
      refine kpost (hKK.out _ _ ⟨hs.below, ?_⟩)
      clear hKK KK
      refine KM_all (rs := [0, 3]) (by kernel_rfl) (by decide) (by decide) ?_
      intro i hi
      simp only [List.mem_cons, List.mem_nil_iff, or_false] at hi
      rcases hi with rfl | rfl
      · refine K_op (o := ⟨_, _, _, _, _, _⟩) rfl ?_
        intro KK hKK
        refine wpg_lit (o := ⟨_, _, _, _, _, _⟩) hs (by rfl) 22 2 _ rfl 5 (ints .u8 [97, 98]) (fun w => by simp only [List.map_toArray, List.map_cons, List.map_nil]; exact lit_ab w) ?_
        clear hs
        intro x0 Wx0 hs
        go_wp2_with fail
        refine kpost (hKK.out _ _ ⟨hs.below, ?_⟩)
        clear hKK KK
        refine KM_all (rs := [1, 3]) (by kernel_rfl) (by decide) (by decide) ?_
        intro i hi
        simp only [List.mem_cons, List.mem_nil_iff, or_false] at hi
        rcases hi with rfl | rfl
        · refine K_op (o := ⟨_, _, _, _, _, _⟩) rfl ?_
          intro KK hKK
          refine wpg_mark (o := ⟨_, _, _, _, _, _⟩) hs (by rfl) _ rfl (g := x0) (n := 2) (c := 2) (cs := ints .u8 [97, 98]) rfl .head ?_
          clear hs
          intro Vx0 hs
          go_wp2_with fail
          refine kpost (hKK.out _ _ ⟨hs.below, ?_⟩)
          clear hKK KK
          refine KM_one (i := 3) (by kernel_rfl) (by decide) ?_
          refine K_op (o := ⟨_, _, _, _, _, _⟩) rfl ?_
          intro KK hKK
          refine wpg_mark (o := ⟨_, _, _, _, _, _⟩) hs (by rfl) _ rfl (g := x2) (n := 2) (c := 2) (cs := ints .u8 [97, 98]) rfl (.tail .head) ?_
          clear hs
          intro Vx2 hs
          go_wp2_with fail
          refine kpost (hKK.out _ _ ⟨hs.below, ?_⟩)
          clear hKK KK
          refine KM_one (i := 4) (by kernel_rfl) (by decide) ?_
          refine K_op (o := ⟨_, _, _, _, _, _⟩) rfl ?_
          intro KK hKK
          go_wp2_with (go_at_call 26; refine (HS1.out _ _ _ (Rd.of_lit hs .head (n := 2) rfl) (Rd.of_lit hs (.tail .head) (n := 2) rfl)).mono ?_; rintro e Whb14 ⟨rfl, hb14⟩; replace hs := hs.call hb14; clear hb14)
          refine kpost (hKK.out _ _ ⟨hs.below, ?_⟩)
          clear hKK KK
          refine KM_done (by kernel_rfl) ?_
          exact ⟨_, _, rfl, hs.sub (List.nil_sublist _)⟩
        · refine K_op (o := ⟨_, _, _, _, _, _⟩) rfl ?_
          intro KK hKK
          refine wpg_mark (o := ⟨_, _, _, _, _, _⟩) hs (by rfl) _ rfl (g := x2) (n := 2) (c := 2) (cs := ints .u8 [97, 98]) rfl (.tail .head) ?_
          clear hs
          intro Vx2 hs
          go_wp2_with fail
          refine kpost (hKK.out _ _ ⟨hs.below, ?_⟩)
          clear hKK KK
          refine KM_one (i := 1) (by kernel_rfl) (by decide) ?_
          refine K_op (o := ⟨_, _, _, _, _, _⟩) rfl ?_
          intro KK hKK
          refine wpg_mark (o := ⟨_, _, _, _, _, _⟩) hs (by rfl) _ rfl (g := x0) (n := 2) (c := 2) (cs := ints .u8 [97, 98]) rfl .head ?_
          clear hs
          intro Vx0 hs
          go_wp2_with fail
          refine kpost (hKK.out _ _ ⟨hs.below, ?_⟩)
          clear hKK KK
          refine KM_one (i := 4) (by kernel_rfl) (by decide) ?_
          refine K_op (o := ⟨_, _, _, _, _, _⟩) rfl ?_
          intro KK hKK
          go_wp2_with (go_at_call 26; refine (HS1.out _ _ _ (Rd.of_lit hs .head (n := 2) rfl) (Rd.of_lit hs (.tail .head) (n := 2) rfl)).mono ?_; rintro e Whb14 ⟨rfl, hb14⟩; replace hs := hs.call hb14; clear hb14)
          refine kpost (hKK.out _ _ ⟨hs.below, ?_⟩)
          clear hKK KK
          refine KM_done (by kernel_rfl) ?_
          exact ⟨_, _, rfl, hs.sub (List.nil_sublist _)⟩
      · refine K_op (o := ⟨_, _, _, _, _, _⟩) rfl ?_
        intro KK hKK
        refine wpg_mark (o := ⟨_, _, _, _, _, _⟩) hs (by rfl) _ rfl (g := x2) (n := 2) (c := 2) (cs := ints .u8 [97, 98]) rfl .head ?_
        clear hs
        intro Vx2 hs
        go_wp2_with fail
        refine kpost (hKK.out _ _ ⟨hs.below, ?_⟩)
        clear hKK KK
        refine KM_one (i := 0) (by kernel_rfl) (by decide) ?_
        refine K_op (o := ⟨_, _, _, _, _, _⟩) rfl ?_
        intro KK hKK
        refine wpg_lit (o := ⟨_, _, _, _, _, _⟩) hs (by rfl) 22 2 _ rfl 5 (ints .u8 [97, 98]) (fun w => by simp only [List.map_toArray, List.map_cons, List.map_nil]; exact lit_ab w) ?_
        clear hs
        intro x0 Wx0 hs
        go_wp2_with fail
        refine kpost (hKK.out _ _ ⟨hs.below, ?_⟩)
        clear hKK KK
        refine KM_one (i := 1) (by kernel_rfl) (by decide) ?_
        refine K_op (o := ⟨_, _, _, _, _, _⟩) rfl ?_
        intro KK hKK
        refine wpg_mark (o := ⟨_, _, _, _, _, _⟩) hs (by rfl) _ rfl (g := x0) (n := 2) (c := 2) (cs := ints .u8 [97, 98]) rfl .head ?_
        clear hs
        intro Vx0 hs
        go_wp2_with fail
        refine kpost (hKK.out _ _ ⟨hs.below, ?_⟩)
        clear hKK KK
        refine KM_one (i := 4) (by kernel_rfl) (by decide) ?_
        refine K_op (o := ⟨_, _, _, _, _, _⟩) rfl ?_
        intro KK hKK
        go_wp2_with (go_at_call 26; refine (HS1.out _ _ _ (Rd.of_lit hs .head (n := 2) rfl) (Rd.of_lit hs (.tail .head) (n := 2) rfl)).mono ?_; rintro e Whb14 ⟨rfl, hb14⟩; replace hs := hs.call hb14; clear hb14)
        refine kpost (hKK.out _ _ ⟨hs.below, ?_⟩)
        clear hKK KK
        refine KM_done (by kernel_rfl) ?_
        exact ⟨_, _, rfl, hs.sub (List.nil_sublist _)⟩
  rintro a W ⟨x0, x2, rfl, hsW⟩
  replace hs := hsW
  clear hsW
  refine K_one (i := 5) (by kernel_rfl) (by decide) ?_
  refine K_op (o := ⟨_, _, _, _, _, _⟩) rfl ?_
  intro KK hKK
  go_wp2_with fail
  refine kpost (hKK.out _ _ ⟨hs.below, ?_⟩)
  clear hKK KK
  refine K_one (i := 6) (by kernel_rfl) (by decide) ?_
  refine K_op (o := ⟨_, _, _, _, _, _⟩) rfl ?_
  intro KK hKK
  refine wpg_lit (o := ⟨_, _, _, _, _, _⟩) hs (by rfl) 22 1 _ rfl 5 (ints .u8 [97]) (fun w => by simp only [List.map_toArray, List.map_cons, List.map_nil]; exact lit_97 w) ?_
  clear hs
  intro x6 Wx6 hs
  go_wp2_with fail
  refine kpost (hKK.out _ _ ⟨hs.below, ?_⟩)
  clear hKK KK
  refine K_one (i := 7) (by kernel_rfl) (by decide) ?_
  refine K_op (o := ⟨_, _, _, _, _, _⟩) rfl ?_
  intro KK hKK
  refine wpg_mark (o := ⟨_, _, _, _, _, _⟩) hs (by rfl) _ rfl (g := x6) (n := 1) (c := 1) (cs := ints .u8 [97]) rfl .head ?_
  clear hs
  intro Vx6 hs
  go_wp2_with fail
  refine kpost (hKK.out _ _ ⟨hs.below, ?_⟩)
  clear hKK KK
  refine K_one (i := 8) (by kernel_rfl) (by decide) ?_
  refine K_op (o := ⟨_, _, _, _, _, _⟩) rfl ?_
  intro KK hKK
  go_wp2_with (go_at_call 26; refine (HS2.out _ _ (Rd.of_lit hs .head (n := 1) rfl)).mono ?_; rintro e Whb18 ⟨rfl, hb18⟩; replace hs := hs.call hb18; clear hb18)
  refine kpost (hKK.out _ _ ⟨hs.below, ?_⟩)
  clear hKK KK
  refine K_one (i := 9) (by kernel_rfl) (by decide) ?_
  refine K_op (o := ⟨_, _, _, _, _, _⟩) rfl ?_
  intro KK hKK
  go_wp2_with fail
  refine kpost (hKK.out _ _ ⟨hs.below, ?_⟩)
  clear hKK KK
  refine K_one (i := 10) (by kernel_rfl) (by decide) ?_
  refine K_op (o := ⟨_, _, _, _, _, _⟩) rfl ?_
  intro KK hKK
  go_wp2_with fail
  refine kpost (hKK.out _ _ ⟨hs.below, ?_⟩)
  clear hKK KK
  refine K_one (i := 11) (by kernel_rfl) (by decide) ?_
  refine K_op (o := ⟨_, _, _, _, _, _⟩) rfl ?_
  intro KK hKK
  go_wp2_with fail
  refine kpost (hKK.out _ _ ⟨hs.below, ?_⟩)
  clear hKK KK
  refine K_one (i := 12) (by kernel_rfl) (by decide) ?_
  refine K_op (o := ⟨_, _, _, _, _, _⟩) rfl ?_
  intro KK hKK
  refine wpg_lit (o := ⟨_, _, _, _, _, _⟩) hs (by rfl) 22 0 _ rfl 5 (ints .u8 []) (fun w => by simp only [List.map_toArray, List.map_nil]; exact lit_no w) ?_
  clear hs
  intro x12 Wx12 hs
  go_wp2_with fail
  refine kpost (hKK.out _ _ ⟨hs.below, ?_⟩)
  clear hKK KK
  refine K_one (i := 13) (by kernel_rfl) (by decide) ?_
  refine K_op (o := ⟨_, _, _, _, _, _⟩) rfl ?_
  intro KK hKK
  go_wp2_with (go_at_call 26; refine (HS3.out _ _ (Rd.of_lit hs .head (n := 0) rfl)).mono ?_; rintro e Whb23 ⟨rfl, hb23⟩; replace hs := hs.call hb23; clear hb23)
  refine kpost (hKK.out _ _ ⟨hs.below, ?_⟩)
  clear hKK KK
  refine K_one (i := 14) (by kernel_rfl) (by decide) ?_
  refine K_op (o := ⟨_, _, _, _, _, _⟩) rfl ?_
  intro KK hKK
  go_wp2_with fail
  refine kpost (hKK.out _ _ ⟨hs.below, ?_⟩)
  clear hKK KK
  refine K_one (i := 15) (by kernel_rfl) (by decide) ?_
  refine K_op (o := ⟨_, _, _, _, _, _⟩) rfl ?_
  intro KK hKK
  go_wp2_with fail
  refine kpost (hKK.out _ _ ⟨hs.below, ?_⟩)
  clear hKK KK
  refine K_one (i := 16) (by kernel_rfl) (by decide) ?_
  refine K_op (o := ⟨_, _, _, _, _, _⟩) rfl ?_
  intro KK hKK
  go_wp2_with fail
  refine kpost (hKK.out _ _ ⟨hs.below, ?_⟩)
  clear hKK KK
  refine K_one (i := 17) (by kernel_rfl) (by decide) ?_
  refine K_op (o := ⟨_, _, _, _, _, _⟩) rfl ?_
  intro KK hKK
  go_wp2_with fail
  refine kpost (hKK.out _ _ ⟨hs.below, ?_⟩)
  clear hKK KK
  refine K_one (i := 18) (by kernel_rfl) (by decide) ?_
  refine K_op (o := ⟨_, _, _, _, _, _⟩) rfl ?_
  intro KK hKK
  go_wp2_with fail
  refine kpost (hKK.out _ _ ⟨hs.below, ?_⟩)
  clear hKK KK
  refine K_one (i := 19) (by kernel_rfl) (by decide) ?_
  refine K_op (o := ⟨_, _, _, _, _, _⟩) rfl ?_
  intro KK hKK
  go_wp2_with fail
  refine kpost (hKK.out _ _ ⟨hs.below, ?_⟩)
  clear hKK KK
  refine K_one (i := 20) (by kernel_rfl) (by decide) ?_
  refine K_op (o := ⟨_, _, _, _, _, _⟩) rfl ?_
  intro KK hKK
  go_wp2_with fail
  refine kpost (hKK.out _ _ ⟨hs.below, ?_⟩)
  clear hKK KK
  refine K_take (i := 21) (oi := ⟨some 31, _, _, _, _, _⟩) rfl (by decide) (by kernel_rfl) (by kernel_rfl) (fun _ _ _ h => h) (v := .slice (some ⟨g9, 0, none⟩) 2 c9) (Or.inl ⟨by rfl, fun w' _ => by go_simp⟩) hs.below ?_
  simp only [Act.put, List.setIfInBounds_toArray, List.set_cons_zero, List.set_cons_succ]
  refine K_take (i := 22) (oi := ⟨some 32, _, _, _, _, _⟩) rfl (by decide) (by kernel_rfl) (by kernel_rfl) (fun _ _ _ h => h) (v := .pointer (some ⟨g9, 0, none⟩)) (Or.inl ⟨by rfl, fun w' _ => by go_simp⟩) hs.below ?_
  simp only [Act.put, List.setIfInBounds_toArray, List.set_cons_zero, List.set_cons_succ]
  refine K_take (i := 23) (oi := ⟨some 33, _, _, _, _, _⟩) rfl (by decide) (by kernel_rfl) (by kernel_rfl) (fun _ _ _ h => h) (v := .agg (ints .u8 X1)) (yields_load (by rfl) 27 _ rfl _ rfl (fun w' hS => load_digest (Since0.range hS r1') x1l)) hs.below ?_
  simp only [Act.put, List.setIfInBounds_toArray, List.set_cons_zero, List.set_cons_succ]
  refine K_take (i := 24) (oi := ⟨some 34, _, _, _, _, _⟩) rfl (by decide) (by kernel_rfl) (by kernel_rfl) (fun _ _ _ h => h) (v := .slice (some ⟨g1, 0, none⟩) 32 32) (Or.inl ⟨by rfl, fun w' _ => by go_simp⟩) hs.below ?_
  simp only [Act.put, List.setIfInBounds_toArray, List.set_cons_zero, List.set_cons_succ]
  refine K_one (i := 25) (by kernel_rfl) (by decide) ?_
  refine K_op (o := ⟨_, _, _, _, _, _⟩) rfl ?_
  intro KK hKK
  refine wpg_lit (o := ⟨_, _, _, _, _, _⟩) hs (by rfl) 22 1 _ rfl 5 (ints .u8 [97]) (fun w => by simp only [List.map_toArray, List.map_cons, List.map_nil]; exact lit_97 w) ?_
  clear hs
  intro x25 Wx25 hs
  go_wp2_with fail
  refine kpost (hKK.out _ _ ⟨hs.below, ?_⟩)
  clear hKK KK
  refine K_one (i := 26) (by kernel_rfl) (by decide) ?_
  refine K_op (o := ⟨_, _, _, _, _, _⟩) rfl ?_
  intro KK hKK
  refine wpg_mark (o := ⟨_, _, _, _, _, _⟩) hs (by rfl) _ rfl (g := x25) (n := 1) (c := 1) (cs := ints .u8 [97]) rfl .head ?_
  clear hs
  intro Vx25 hs
  go_wp2_with fail
  refine kpost (hKK.out _ _ ⟨hs.below, ?_⟩)
  clear hKK KK
  refine K_one (i := 27) (by kernel_rfl) (by decide) ?_
  refine K_op (o := ⟨_, _, _, _, _, _⟩) rfl ?_
  intro KK hKK
  refine wpg_slice (o := ⟨_, _, _, _, _, _⟩) hs (by rfl) 23 2 _ rfl 22 ((Value.slice (some ⟨g1, 0, none⟩) 32 32).cells ++ (Value.slice (some ⟨x25, 0, none⟩) 1 1).cells) (fun w => by simp only [List.map_toArray, List.map_cons, List.map_nil]; exact lit2s _ _ _ _ _ _ w) ?_
  clear hs
  intro x27 Wx27 hs
  go_wp2_with fail
  refine kpost (hKK.out _ _ ⟨hs.below, ?_⟩)
  clear hKK KK
  refine K_one (i := 28) (by kernel_rfl) (by decide) ?_
  refine K_op (o := ⟨_, _, _, _, _, _⟩) rfl ?_
  intro KK hKK
  go_wp2_with (go_at_call 22; refine (HSum.out _ _ (RdP.of_blk2 hs .head (hz2.st hs) (Rd.of_lit hs (.tail .head) (n := 1) rfl))).mono ?_; rintro e Whb38 ⟨rfl, hb38⟩; replace hs := hs.call hb38; clear hb38)
  refine kpost (hKK.out _ _ ⟨hs.below, ?_⟩)
  clear hKK KK
  refine K_one (i := 29) (by kernel_rfl) (by decide) ?_
  refine K_op (o := ⟨_, _, _, _, _, _⟩) rfl ?_
  intro KK hKK
  go_wp2_with fail
  refine kpost (hKK.out _ _ ⟨hs.below, ?_⟩)
  clear hKK KK
  refine K_one (i := 30) (by kernel_rfl) (by decide) ?_
  refine K_op (o := ⟨_, _, _, _, _, _⟩) rfl ?_
  intro KK hKK
  go_wp2_with fail
  refine kpost (hKK.out _ _ ⟨hs.below, ?_⟩)
  clear hKK KK
  refine K_one (i := 31) (by kernel_rfl) (by decide) ?_
  refine K_op (o := ⟨_, _, _, _, _, _⟩) rfl ?_
  intro KK hKK
  go_wp2_with fail
  refine kpost (hKK.out _ _ ⟨hs.below, ?_⟩)
  clear hKK KK
  refine K_take (i := 32) (oi := ⟨some 42, _, _, _, _, _⟩) rfl (by decide) (by kernel_rfl) (by kernel_rfl) (fun _ _ _ h => h) (v := .slice (some ⟨g9, 0, none⟩) 2 c9) (Or.inl ⟨by rfl, fun w' _ => by go_simp⟩) hs.below ?_
  simp only [Act.put, List.setIfInBounds_toArray, List.set_cons_zero, List.set_cons_succ]
  refine K_take (i := 33) (oi := ⟨some 43, _, _, _, _, _⟩) rfl (by decide) (by kernel_rfl) (by kernel_rfl) (fun _ _ _ h => h) (v := .pointer (some ⟨g9, 32, none⟩)) (Or.inl ⟨by rfl, fun w' _ => by go_simp⟩) hs.below ?_
  simp only [Act.put, List.setIfInBounds_toArray, List.set_cons_zero, List.set_cons_succ]
  refine K_take (i := 34) (oi := ⟨some 44, _, _, _, _, _⟩) rfl (by decide) (by kernel_rfl) (by kernel_rfl) (fun _ _ _ h => h) (v := .agg (ints .u8 X2)) (yields_load (by rfl) 27 _ rfl _ rfl (fun w' hS => load_digest (Since0.range hS r2') x2l)) hs.below ?_
  simp only [Act.put, List.setIfInBounds_toArray, List.set_cons_zero, List.set_cons_succ]
  refine K_take (i := 35) (oi := ⟨some 45, _, _, _, _, _⟩) rfl (by decide) (by kernel_rfl) (by kernel_rfl) (fun _ _ _ h => h) (v := .slice (some ⟨g9, 0, none⟩) 2 c9) (Or.inl ⟨by rfl, fun w' _ => by go_simp⟩) hs.below ?_
  simp only [Act.put, List.setIfInBounds_toArray, List.set_cons_zero, List.set_cons_succ]
  refine K_take (i := 36) (oi := ⟨some 46, _, _, _, _, _⟩) rfl (by decide) (by kernel_rfl) (by kernel_rfl) (fun _ _ _ h => h) (v := .pointer (some ⟨g9, 0, none⟩)) (Or.inl ⟨by rfl, fun w' _ => by go_simp⟩) hs.below ?_
  simp only [Act.put, List.setIfInBounds_toArray, List.set_cons_zero, List.set_cons_succ]
  refine K_take (i := 37) (oi := ⟨some 47, _, _, _, _, _⟩) rfl (by decide) (by kernel_rfl) (by kernel_rfl) (fun _ _ _ h => h) (v := .agg (ints .u8 X1)) (yields_load (by rfl) 27 _ rfl _ rfl (fun w' hS => load_digest (Since0.range hS r1') x1l)) hs.below ?_
  simp only [Act.put, List.setIfInBounds_toArray, List.set_cons_zero, List.set_cons_succ]
  refine K_one (i := 38) (by kernel_rfl) (by decide) ?_
  refine K_op (o := ⟨_, _, _, _, _, _⟩) rfl ?_
  intro KK hKK
  refine wpg_lit (o := ⟨_, _, _, _, _, _⟩) hs (by rfl) 22 1 _ rfl 5 (ints .u8 [98]) (fun w => by simp only [List.map_toArray, List.map_cons, List.map_nil]; exact lit_98 w) ?_
  clear hs
  intro x38 Wx38 hs
  go_wp2_with fail
  refine kpost (hKK.out _ _ ⟨hs.below, ?_⟩)
  clear hKK KK
  refine K_one (i := 39) (by kernel_rfl) (by decide) ?_
  refine K_op (o := ⟨_, _, _, _, _, _⟩) rfl ?_
  intro KK hKK
  refine wpg_mark (o := ⟨_, _, _, _, _, _⟩) hs (by rfl) _ rfl (g := x38) (n := 1) (c := 1) (cs := ints .u8 [98]) rfl .head ?_
  clear hs
  intro Vx38 hs
  go_wp2_with fail
  refine kpost (hKK.out _ _ ⟨hs.below, ?_⟩)
  clear hKK KK
  refine K_one (i := 40) (by kernel_rfl) (by decide) ?_
  refine K_op (o := ⟨_, _, _, _, _, _⟩) rfl ?_
  intro KK hKK
  refine wpg_slice (o := ⟨_, _, _, _, _, _⟩) hs (by rfl) 23 1 _ rfl 22 ((Value.slice (some ⟨x38, 0, none⟩) 1 1).cells) (fun w => by simp only [List.map_toArray, List.map_cons, List.map_nil]; exact lit1s _ _ _ w) ?_
  clear hs
  intro x40 Wx40 hs
  go_wp2_with fail
  refine kpost (hKK.out _ _ ⟨hs.below, ?_⟩)
  clear hKK KK
  refine K_one (i := 41) (by kernel_rfl) (by decide) ?_
  refine K_op (o := ⟨_, _, _, _, _, _⟩) rfl ?_
  intro KK hKK
  go_wp2_with (go_at_call 27; refine (HSt.out _ _ (RdP.of_blk1 hs .head (Rd.of_lit hs (.tail .head) (n := 1) rfl))).mono ?_; rintro e Whb51 ⟨rfl, hb51⟩; replace hs := hs.call hb51; clear hb51)
  refine kpost (hKK.out _ _ ⟨hs.below, ?_⟩)
  clear hKK KK
  refine K_one (i := 42) (by kernel_rfl) (by decide) ?_
  refine K_op (o := ⟨_, _, _, _, _, _⟩) rfl ?_
  intro KK hKK
  go_wp2_with fail
  refine kpost (hKK.out _ _ ⟨hs.below, ?_⟩)
  clear hKK KK
  refine K_one (i := 43) (by kernel_rfl) (by decide) ?_
  refine K_op (o := ⟨_, _, _, _, _, _⟩) rfl ?_
  intro KK hKK
  go_wp2_with fail
  refine kpost (hKK.out _ _ ⟨hs.below, ?_⟩)
  clear hKK KK
  refine K_one (i := 44) (by kernel_rfl) (by decide) ?_
  refine K_op (o := ⟨_, _, _, _, _, _⟩) rfl ?_
  intro KK hKK
  go_wp2_with fail
  refine kpost (hKK.out _ _ ⟨hs.below, ?_⟩)
  clear hKK KK
  refine K_take (i := 45) (oi := ⟨some 55, _, _, _, _, _⟩) rfl (by decide) (by kernel_rfl) (by kernel_rfl) (fun _ _ _ h => h) (v := .slice (some ⟨g9, 0, none⟩) 2 c9) (Or.inl ⟨by rfl, fun w' _ => by go_simp⟩) hs.below ?_
  simp only [Act.put, List.setIfInBounds_toArray, List.set_cons_zero, List.set_cons_succ]
  refine K_take (i := 46) (oi := ⟨some 56, _, _, _, _, _⟩) rfl (by decide) (by kernel_rfl) (by kernel_rfl) (fun _ _ _ h => h) (v := .pointer (some ⟨g9, 0, none⟩)) (Or.inl ⟨by rfl, fun w' _ => by go_simp⟩) hs.below ?_
  simp only [Act.put, List.setIfInBounds_toArray, List.set_cons_zero, List.set_cons_succ]
  refine K_take (i := 47) (oi := ⟨some 57, _, _, _, _, _⟩) rfl (by decide) (by kernel_rfl) (by kernel_rfl) (fun _ _ _ h => h) (v := .agg (ints .u8 X1)) (yields_load (by rfl) 27 _ rfl _ rfl (fun w' hS => load_digest (Since0.range hS r1') x1l)) hs.below ?_
  simp only [Act.put, List.setIfInBounds_toArray, List.set_cons_zero, List.set_cons_succ]
  refine K_take (i := 48) (oi := ⟨some 58, _, _, _, _, _⟩) rfl (by decide) (by kernel_rfl) (by kernel_rfl) (fun _ _ _ h => h) (v := .slice (some ⟨g9, 0, none⟩) 2 c9) (Or.inl ⟨by rfl, fun w' _ => by go_simp⟩) hs.below ?_
  simp only [Act.put, List.setIfInBounds_toArray, List.set_cons_zero, List.set_cons_succ]
  refine K_take (i := 49) (oi := ⟨some 59, _, _, _, _, _⟩) rfl (by decide) (by kernel_rfl) (by kernel_rfl) (fun _ _ _ h => h) (v := .pointer (some ⟨g9, 32, none⟩)) (Or.inl ⟨by rfl, fun w' _ => by go_simp⟩) hs.below ?_
  simp only [Act.put, List.setIfInBounds_toArray, List.set_cons_zero, List.set_cons_succ]
  refine K_take (i := 50) (oi := ⟨some 60, _, _, _, _, _⟩) rfl (by decide) (by kernel_rfl) (by kernel_rfl) (fun _ _ _ h => h) (v := .agg (ints .u8 X2)) (yields_load (by rfl) 27 _ rfl _ rfl (fun w' hS => load_digest (Since0.range hS r2') x2l)) hs.below ?_
  simp only [Act.put, List.setIfInBounds_toArray, List.set_cons_zero, List.set_cons_succ]
  refine K_one (i := 51) (by kernel_rfl) (by decide) ?_
  refine K_op (o := ⟨_, _, _, _, _, _⟩) rfl ?_
  intro KK hKK
  go_wp2_with fail
  refine kpost (hKK.out _ _ ⟨hs.below, ?_⟩)
  clear hKK KK
  refine K_one (i := 52) (by kernel_rfl) (by decide) ?_
  refine K_op (o := ⟨_, _, _, _, _, _⟩) rfl ?_
  intro KK hKK
  go_wp2_with fail
  refine kpost (hKK.out _ _ ⟨hs.below, ?_⟩)
  clear hKK KK
  refine K_done (by kernel_rfl) ?_
  simp only [List.drop_succ_cons, List.drop_zero]
  replace hs := hs0.since hs
  clear hs0
  go_wp2_with fail
  go_ret
  exact ⟨rfl, hs.below⟩
end Go.Proofs.Ytleabipplchbpaa
