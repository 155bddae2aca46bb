/-
  Walks over SHA-256, part 9: sha.Sum.
-/
import Derived.Test.YtleabipplchbpaaShaH
namespace Go.Proofs.Ytleabipplchbpaa
open Go.RowKit
set_option maxRecDepth 100000
attribute [local go_sem] Oper.semAt_some
theorem still_load {P : Program} {ops : Array Oper} {w : World} {Q : Act → Prop} {a : Act} {o : Oper} {rest : List Oper} (hgd : o.guard = none) (ty : TypeId) (x : Operand) (ho : o.op = .load ty x) (v u : Value) (hx : a.eval x = v)
    (hr : (Instr.loadAt ty v).run P w = .ok u w) (h : wpStill P ops w Q rest (a.put o.dst u)) : wpStill P ops w Q (o :: rest) a := by
  refine wpStill_step fun K hK => ?_
  simp only [Region.wanted, hgd, if_true]
  unfold Oper.still execOp
  simp only [ho, hx, Sem.run_bind, hr, Result.andThen_ok]
  exact ⟨rfl, hK _ h⟩

def chunkOf (p : List Nat) (k : Nat) : List Nat := (p.drop (64 * k)).take 64
/-- The state after the chunks s. -/
def foldS (p : List Nat) {N : Nat} (s : List (Fin N)) : List Nat := (s.map Fin.val).foldl (fun h k => turn h (chunkOf p k)) start
theorem fold_range (p : List Nat) : ∀ k, (List.range k).foldl (fun h k => turn h (chunkOf p k)) start = blocks p k
  | 0 => rfl
  | k + 1 => by rw [List.range_succ, List.foldl_append, fold_range p k]; rfl
theorem foldS_snoc (p : List Nat) {N : Nat} (s : List (Fin N)) (x : Fin N) : foldS p (s ++ [x]) = turn (foldS p s) (chunkOf p x.val) := by simp [foldS]
theorem foldS_all (p : List Nat) {N k : Nat} {s : List (Fin N)} (h : s.map Fin.val = List.range k) : foldS p s = blocks p k := by rw [foldS, h, fold_range]
theorem fold_ok (p : List Nat) : ∀ (l : List Nat) (h : List Nat), h.length = 8 → (∀ x ∈ h, x < 4294967296) → (l.foldl (fun h k => turn h (chunkOf p k)) h).length = 8 ∧ ∀ x ∈ l.foldl (fun h k => turn h (chunkOf p k)) h, x < 4294967296
  | [], _, h1, h2 => ⟨h1, h2⟩
  | _ :: l, _, h1, _ => fold_ok p l _ (turn_len h1 _) (turn_lt _ _)
theorem foldS_len (p : List Nat) {N : Nat} (s : List (Fin N)) : (foldS p s).length = 8 := (fold_ok p _ _ start_len start_lt).1
theorem foldS_lt (p : List Nat) {N : Nat} (s : List (Fin N)) : ∀ x ∈ foldS p s, x < 4294967296 := (fold_ok p _ _ start_len start_lt).2
def sumL (g2 g5 bs bn gp T c : Nat) (p h : List Nat) : List Res :=
  [.blk bn 3 #[.int .i64 64], .blk bs 22 #[.slice (some ⟨gp, 0, none⟩) T c], .blk g5 87 (ints .u32 h), numsR (some ⟨gp, 0, none⟩) T c 5 .u8 p, .blk g2 27 (ints .u8 (List.replicate 32 0))]
theorem byte_at (h : List Nat) (i j : Nat) (hj : j < 4) : IntKind.u8.wrap ((at_ h i : Int) / 2 ^ (24 - 8 * j)) = ((byteAt h (4 * i + j) : Nat) : Int) := by
  have := byte_int h (4 * i + j)
  rwa [show (4 * i + j) / 4 = i by omega, show (4 * i + j) % 4 = j by omega] at this
theorem keeps_below {w w' : World} (h : Below w.heap.size w w') : KeepsOthers w w' := ⟨h.size, fun k _ hk _ => (h.block k (Array.getElem?_eq_some_iff.1 hk).1).trans hk⟩
set_option maxHeartbeats 2000000 in
theorem sum_any (ps : List (List Nat)) (hps : ps.flatten.length ≤ 500000) (hbyte : ∀ x ∈ ps.flatten, x < 256) (A : Option Addr) (n c : Nat) (w : World) (hp : RdP w A n ps) (hn : n ≤ 1000000) :
    Calls Try.prog 22 #[.slice A n c] w fun e w' => e = .returned (.agg (ints .u8 (hash ps.flatten))) ∧ Below w.heap.size w w' := by
  refine (callsIn_wide (n := 10)).1 (callsIn_of_wp_marks Try.func22 rfl trivial (wpIn_wide.2 ?_))
  simp only [Try.ntmps22, List.size_toArray, List.length_cons, List.length_nil, Nat.reduceAdd, Nat.reduceSub, Array.replicate_succ, Array.replicate_zero, List.push_toArray, List.append_toArray, List.nil_append, List.cons_append]
  have hs := St.nil w
  obtain ⟨m, hm⟩ : ∃ m, m = ps.flatten.length := ⟨_, rfl⟩
  have hcc := concat_any ps hps A n c
  rw [← hm] at hcc hps
  have HC := Lib.hid hcc
  have HM2 := Lib.hid hm
  clear hcc hm
  have hpb : (pad m).length ≤ 80 := by rw [pad_len]; omega
  go_wp2_with (first
    | (with_reducible refine wpl_allocRow (o := ⟨some 2, _, _, _, _, _⟩) hs rfl 27 rfl _ (zero27 _) ?_; clear hs; intro g2 w2 hs)
    | (go_at_call 47; refine (HC.out _ (hp.st hs) hn).mono ?_; rintro e w3 ⟨A3, c3, rfl, ho3, hb3⟩; replace hs := hs.push hb3 ho3; clear hb3 ho3)
    | (go_at_call 48; refine (start_any _).mono ?_; rintro e w5 ⟨rfl, hb5⟩; replace hs := hs.call hb5; clear hb5)
    | (with_reducible refine wpl_allocRow (o := ⟨some 4, _, _, _, _, _⟩) hs rfl 87 rfl _ (zero87 _) ?_; clear hs; intro g5 w6 hs)
    | (with_reducible refine wpl_storeRow hs rfl 87 _ _ rfl g5 (ints .u32 start) rfl rfl 87 _ .head row87 (sizeI start_len) (sizeI List.length_replicate) (ints_oneCell _ _) ?_; clear hs; intro w7 hs)
    | (go_at_call 50; refine (pad_any m (by omega) _).mono ?_; rintro e w8 ⟨A8, c8, rfl, ho8, hb8⟩; replace hs := hs.push hb8 ho8; clear hb8 ho8)
    | (at_builtin; go_must (with_reducible refine wpl_appendI (m := (pad m).length) hs rfl _ _ 22 rfl rfl rfl (fun _ _ => .tail (.tail .head)) (Rd.of_own (hs.has_nums .head)) Try.underlying22 el5 (by unfold maxLen; omega) (by omega) ?_); clear hs; intro A4 c4 w4 _ hs; replace hs := hs.pop)
    | (go_at_call 49; refine (chunk_any _ _ _ _).mono ?_; rintro e w9 ⟨bs, bn, rfl, hs9⟩; replace hs := hs.join hs9; clear hs9))
  clear w2 w3 w5 w6 w7 w8 w4
  obtain ⟨p, hpp⟩ : ∃ p, p = ps.flatten ++ pad m := ⟨_, rfl⟩
  obtain ⟨T, hT⟩ : ∃ T, T = m + (pad m).length := ⟨_, rfl⟩
  have hplen : p.length = T := by rw [hpp, List.length_append, ← HM2.out, hT]
  have hpsm : ∀ x ∈ p, x < 256 := by
    intro x hx
    rw [hpp] at hx
    rcases List.mem_append.1 hx with h | h
    · exact hbyte x h
    · exact pad_lt _ x h
  have hw64 : T % 64 = 0 := by rw [hT]; exact pad_whole m
  have hT2 : 0 < T ∧ T ≤ 500100 := by rw [hT, pad_len]; omega
  have hhash : hash ps.flatten = bytesOf (blocks p (T / 64)) := by rw [hash_eq, ← HM2.out, ← hpp, hplen]
  rw [← hT, ← hpp] at hs
  rw [← hT]
  have HH := Lib.hid hhash
  clear hT hpp hhash hpb HM2 hps HC
  obtain ⟨gp, hA4, hc4⟩ := own_some (hs.has_nums (.tail (.tail (.tail .head)))) hT2.1
  subst hA4
  obtain ⟨T0, T1⟩ := hT2
  have c1 := hs.cell (.tail .head) 0
  have c2 := hs.cell .head 0
  have hsz := hs.size
  have hbn : bn < w9.heap.size := hs.lt (List.mem_cons_self ..) rfl
  have hbs : bs < w9.heap.size := hs.lt (List.mem_cons_of_mem _ (List.mem_cons_self ..)) rfl
  obtain ⟨N, hN⟩ : ∃ N, N = T / 64 := ⟨_, rfl⟩
  have hTN : T = 64 * N := by omega
  refine (wpIn_wide (n := 10)).1 (wpIn_rangeFunc_ownF (F := Fence.wide) (n := 10) rfl (by decide) (gf := 61) (lb := #[.pointer (some ⟨bs, 0, none⟩), .pointer (some ⟨bn, 0, none⟩)]) rfl trivial (enters_of Try.func61 (by kernel_rfl) rfl)
    (α := Fin N) (encs := fun x => #[.slice (some ⟨gp, 64 * x.val, none⟩) 64 64]) (Kp := KeepTwo bs bn) (S := fun xs => xs.map Fin.val = List.range N) (Sp := fun _ => True) (N := N) (w0 := w9)
    (fun l J Jx W hW hJ hJx hY h0 => chunk1 9 N c4 gp bs bn l (by omega) (by omega) J Jx W hJ hY (by rw [← hTN]; exact (hW.cell (p := ⟨bs, 0, none⟩) hbs).trans c1) ((hW.cell (p := ⟨bn, 0, none⟩) hbn).trans c2) h0)
    KeepTwo.trans (fun W l o o' hl ho _ _ => ⟨World.putObj_heap_other (by omega), World.putObj_heap_other (by omega)⟩) (Below.refl _ _) (fun _ => rfl)
    (fun s W => St w W (sumL g2 g5 bs bn gp T c4 p (foldS p s))) (fun _ _ _ => False) (St.ownFrom _ hsz) (fun _ _ _ _ _ h _ _ => h.elim) hs
    (fun x => { tmps := #[.slice A n c, undef, .pointer (some ⟨g2, 0, none⟩), .slice A3 m c3, .pointer (some ⟨g5, 0, none⟩), .slice (some ⟨gp, 64 * x.val, none⟩) 64 64, undef, undef, undef, undef, .slice A n c,
          .slice A3 m c3, .agg (ints .u32 start), .slice A3 m c3, .slice A3 m c3, .int .i64 m, .int .u64 m, .slice A8 (pad m).length c8, .slice (some ⟨gp, 0, none⟩) T c4,
          .func (.func 61) #[] #[.pointer (some ⟨bs, 0, none⟩), .pointer (some ⟨bn, 0, none⟩)], .slice (some ⟨gp, 64 * x.val, none⟩) 64 64,
          undef, undef, undef, undef, undef, undef, undef, undef, undef, undef, undef, undef, undef, undef, undef, undef, undef, undef, undef, undef, undef, undef, undef, undef, undef, undef, undef], defers := [] }) ?assign ?body ?done ?stop)
  case assign =>
    intro l x W K hK
    clear hN hTN hw64
    gi_wp2
    exact hK
  case body =>
    rintro l pre x W hI hlen
    have hxN := x.isLt
    obtain ⟨q, hq⟩ : ∃ q, q = 64 * x.val := ⟨_, rfl⟩
    have hqT : q + 64 ≤ T := by omega
    have hck : chunkOf p x.val = (p.drop q).take 64 := by rw [chunkOf, hq]
    have ck : ((p.drop q).take 64).length = 64 := by rw [List.length_take, List.length_drop]; omega
    have csm : ∀ x ∈ (p.drop q).take 64, x < 256 := fun x hx => hpsm x (List.mem_of_mem_drop (List.mem_of_mem_take hx))
    obtain ⟨h, hh⟩ : ∃ h, h = foldS p pre := ⟨_, rfl⟩
    have bl : h.length = 8 := by rw [hh]; exact foldS_len p pre
    have bsm : ∀ x ∈ h, x < 4294967296 := by rw [hh]; exact foldS_lt p pre
    have hnext : foldS p (pre ++ [x]) = turn h ((p.drop q).take 64) := by rw [foldS_snoc, ← hh, hck]
    rw [← hh] at hI
    have HN := Lib.hid hnext
    have HTN := Lib.hid hTN
    clear hN hTN hw64 hnext hh hck hpsm hplen hs
    rw [← hq]
    have HQ := Lib.hid hq
    clear hq
    gi_wp2
    have hs := hI
    unfold sumL at hs
    refine regIn_tail hs 4 (fun ⟨_, _, h⟩ => h) (by intro o ho c hc; simp only [List.mem_cons, List.mem_nil_iff, or_false] at ho; rcases ho with rfl | rfl | rfl | rfl | rfl | rfl <;> cases hc) (by kernel_rfl) (by kernel_rfl) ?_
    rintro w4 hs4 hw4
    have HW4 := Lib.hid hw4
    clear hw4
    have hl0 : (Instr.arrayAt 31 (.slice (some ⟨gp, q, none⟩) 64 64)).run Try.prog w4 = .ok (.pointer (some ⟨gp, q, none⟩)) w4 := by
      simp [Instr.arrayAt, run_underlying Try.underlying31]
    have hl1 : (Instr.loadAt 87 (.pointer (some ⟨g5, 0, none⟩))).run Try.prog w4 = .ok (.agg (ints .u32 h)) w4 := by
      have := run_loadAt_mid (P := Try.prog) w4 g5 0 87 (cellsI .u32 h) _ (fun j v hv => (hs4.cell (.tail (.tail .head)) (0 + j)).trans (by rw [Nat.zero_add, ← hv, ← ints_toList]; simp)) Try.underlying87 rfl (by rw [cellsI_len, bl]; exact row87.2)
      rwa [← ints_toList] at this
    have hr := Rd.part (lo := q) (m := 64) (Rd.of_own (hs4.has_nums (.tail (.tail (.tail .head))))) (by omega)
    rw [Nat.zero_add] at hr
    have hl2 : (Instr.loadAt 31 (.pointer (some ⟨gp, q, none⟩))).run Try.prog w4 = .ok (.agg (ints .u8 ((p.drop q).take 64))) w4 := by
      have := run_loadAt_mid (P := Try.prog) w4 gp q 31 (cellsI .u8 ((p.drop q).take 64)) _ (fun j v hv => by obtain ⟨ad, e, hc⟩ := hr.2 j v hv; cases e; rw [Addr.add_mid] at hc; exact hc) Try.underlying31 rfl (by rw [cellsI_len, ck]; exact row31.2)
      rwa [← ints_toList] at this
    clear hr hI
    simp only [List.take_succ_cons, List.take_zero, List.drop_succ_cons, List.drop_zero]
    refine still_load rfl 87 _ rfl _ _ rfl hl1 ?_
    iterate 2 (refine wpStill_step (fun K hK => ?_); go_simp; (refine hK _ ?_; clear hK K))
    refine still_load rfl 31 _ rfl _ _ rfl hl2 ?_
    refine wpStill_nil ?_
    have hap := hs4.apart
    simp only [List.pairwise_cons, List.mem_cons, List.mem_nil_iff, or_false, forall_eq_or_imp, forall_eq, Res.block, Option.some.injEq, ne_eq] at hap
    have n1 : bn ≠ g5 := fun e => hap.1.2.1 bn rfl e.symm
    have n2 : bs ≠ g5 := fun e => hap.2.1.1 bs rfl e.symm
    clear hap hl0 hl1 hl2
    have hi1 : (Try.prog.info? 87).map (·.size) = some (ints .u32 (turn h ((p.drop q).take 64))).size := by rw [sizeI (turn_len bl _)]; exact row87.2
    have hi2 : (ints .u32 h).size = (ints .u32 (turn h ((p.drop q).take 64))).size := by rw [sizeI bl, sizeI (turn_len bl _)]
    go_wp2_with (first
      | (go_at_call 51; refine (turn_any h ((p.drop q).take 64) bsm bl csm ck _).mono ?_; rintro e w5 ⟨rfl, hb5⟩; have hs5 := hs4.call hb5)
      | (with_reducible refine wpList_store_row rfl 87 _ _ rfl g5 (ints .u32 (turn h ((p.drop q).take 64))) rfl rfl 87 (ints .u32 h) (hs5.row (.tail (.tail .head))) hi1 hi2 (ints_oneCell _ _) ?_))
    have hw4 := HW4.out
    have hk5 : KeepsOthers W w5 := by rw [hw4] at hb5; exact (KeepsOthers.drew W).trans (keeps_below hb5)
    have hs6 := hs5.setRow (cs' := ints .u32 (turn h ((p.drop q).take 64))) (.tail (.tail .head))
    have lbn : bn < W.heap.size := hs.lt (List.mem_cons_self ..) rfl
    have lbs : bs < W.heap.size := hs.lt (List.mem_cons_of_mem _ (List.mem_cons_self ..)) rfl
    refine ⟨hk5.trans (KeepsOthers.of_grownBy (grownBy_setRow w5 g5 _) (fun j o e ho => by cases e; rw [hs5.row (.tail (.tail .head))] at ho; cases ho; rfl)), ⟨?_, ?_⟩, ?_⟩
    · rw [setRow_other w5 g5 bs _ n2]
      rw [hw4] at hb5
      exact hb5.block bs lbs
    · rw [setRow_other w5 g5 bn _ n1]
      rw [hw4] at hb5
      exact hb5.block bn lbn
    · show St w _ (sumL g2 g5 bs bn gp T c4 p (foldS p (pre ++ [x])))
      rw [HN.out]
      exact hs6
  case done =>
    rintro D xs W hD hS hI hK
    have hI2 : St w W (sumL g2 g5 bs bn gp T c4 p (foldS p xs)) := hI
    rw [foldS_all p hS, hN] at hI2
    obtain ⟨h, hh⟩ : ∃ h, h = blocks p (T / 64) := ⟨_, rfl⟩
    have bl : h.length = 8 := by rw [hh]; exact blocks_len p _
    have bsm : ∀ x ∈ h, x < 4294967296 := by rw [hh]; exact blocks_lt p _
    rw [← hh] at hI2
    have HH2 := Lib.hid hh
    have HK := Lib.hid hK
    clear hs hI hh hN hTN hw64 hplen hpsm hK
    have hs0 : St W W [] := St.nil W
    unfold sumL at hI2
    go_wp2_with (first
      | (with_reducible refine wpl_allocRow (o := ⟨some 6, _, _, _, _, _⟩) hs0 rfl 27 rfl _ (zero27 _) ?_; clear hs0; intro g6 w1 hs)
      | (with_reducible refine wpl_loadRow (o := ⟨some 26, _, _, _, _, _⟩) (hI2.call hs.below) rfl 87 _ rfl g5 rfl 87 _ (.tail (.tail .head)) row87 (sizeI bl) ?_))
    rw [← frow_zero (byteAt h)] at hs
    go_loopw [27] (fun t wr => ∃ i : Nat, i ≤ 8 ∧ t = .int .i64 i ∧ St W wr [.blk g6 27 (ints .u8 (frow (byteAt h) 32 (4 * i)))]) (fun t _ => 8 - (intOf t).toNat)
    case atStart => exact ⟨0, by omega, rfl, hs⟩
    case round =>
      clear hs
      obtain ⟨i, hi, rfl, hs⟩ := hrel
      by_cases h8 : i < 8
      · have d1 : decide ((i : Int) < 8) = true := by simp; omega
        have i1 : (i : Int) < 8 := by omega
        go_wp2_with (with_reducible refine wpl_indexInt (o := ⟨some 30, _, _, _, _, _⟩) rfl 87 _ _ rfl .u32 .i64 h i rfl rfl Try.underlying87 Try.underlying86 info86 bl h8 ?_)
        go_loopw [31] (fun t wr => ∃ j : Nat, j ≤ 4 ∧ t = .int .i64 j ∧ St W wr [.blk g6 27 (ints .u8 (frow (byteAt h) 32 (4 * i + j)))]) (fun t _ => 4 - (intOf t).toNat)
        case atStart => exact ⟨0, by omega, rfl, hs⟩
        case round =>
          clear hs
          obtain ⟨j, hj, rfl, hs⟩ := hrel
          by_cases h4 : j < 4
          · have d2 : decide ((j : Int) < 4) = true := by simp; omega
            have i2 : (j : Int) < 4 := by omega
            have e1 : (4 * (i : Int) + (j : Int)).toNat = 4 * i + j := by omega
            have e2 : 0 ≤ 4 * (i : Int) + (j : Int) := by omega
            have e3 : 4 * (i : Int) + (j : Int) < 32 := by omega
            have e4 : (24 - 8 * (j : Int)).toNat = 24 - 8 * j := by omega
            have e5 : 0 ≤ 24 - 8 * (j : Int) := by omega
            have e6 : 24 - 8 * (j : Int) < 32 := by omega
            have hv := byte_at h i j h4
            have fl_ := frow_len (byteAt h) (N := 32) (k := 4 * i + j) (by omega)
            have hlt : 4 * i + j < (frow (byteAt h) 32 (4 * i + j)).length := by rw [fl_]; omega
            have h32 : 4 * i + j < 32 := by omega
            go_wp2_with (with_reducible refine wpl_storeInt hs rfl 5 _ _ rfl g6 (4 * i + j) .u8 (byteAt h (4 * i + j)) rfl rfl 27 _ .head hlt info5 ?_; clear hs; intro w9 hs)
            rw [frow_set _ h32] at hs
            go_roundw
            case rel => exact ⟨j + 1, by omega, by go_num, hs⟩
            case measure => simp [intOf]; omega
          · have d2 : decide ((j : Int) < 4) = false := by simp; omega
            have i2 : (4 : Int) ≤ (j : Int) := by omega
            go_wp2_with fail
            go_roundw
            case rel => exact ⟨i + 1, by omega, by go_num, by rw [show 4 * (i + 1) = 4 * i + j by omega]; exact hs⟩
            case measure => simp [intOf]; omega
      · have d1 : decide ((i : Int) < 8) = false := by simp; omega
        have i1 : (8 : Int) ≤ (i : Int) := by omega
        have hB : frow (byteAt h) 32 (4 * i) = hash ps.flatten := by rw [show 4 * i = 32 from by omega, frow_full, HH.out, ← HH2.out]; rfl
        obtain ⟨B, hBd⟩ : ∃ B, B = hash ps.flatten := ⟨_, rfl⟩
        have dl : B.length = 32 := by rw [hBd, ← hB]; exact frow_len _ (by omega)
        rw [hB, ← hBd] at hs
        have HD := Lib.hid hBd
        clear hB hBd
        have z1 : (Try.prog.info? 27).map (·.size) = some (ints .u8 B).size := by rw [sizeI dl]; exact row27.2
        have z2 : (ints .u8 (List.replicate 32 0)).size = (ints .u8 B).size := by rw [sizeI dl]; rfl
        go_wp2_with (first
          | (with_reducible refine wpl_loadRow hs rfl 27 _ rfl g6 rfl 27 _ .head row27 (sizeI dl) ?_)
          | (with_reducible refine wpList_store_row rfl 27 _ _ rfl g2 (ints .u8 B) rfl rfl 27 (ints .u8 (List.replicate 32 0)) ((hI2.call hs.below).row (.tail (.tail (.tail (.tail .head))))) z1 z2 (ints_oneCell _ _) ?_))
        have hs2 := hI2.call hs.below
        have r2 := hs2.row (.tail (.tail (.tail (.tail .head))))
        have hDl := (Array.getElem?_eq_some_iff.1 HK.out).1
        have hKw := (hs.below.block D hDl).trans HK.out
        have hne : D ≠ g2 := by
          intro e
          rw [e, r2] at hKw
          cases hKw
        have hK2 := (setRow_other wr g2 D (ints .u8 B) hne).trans hKw
        refine ⟨by simp, .inl ⟨_, _, rfl, run_takeDeferred hK2, ?_⟩⟩
        have hrow := (World.putObj_heap_other (w := wr.setRow g2 (ints .u8 B)) (r := D) (o := .deferred none) (Ne.symm hne)).trans (setRow_heap wr g2 _ (ints .u8 B) 27 _ r2)
        exact ⟨_, results_cell_row rfl _ _ g2 27 (ints .u8 B) (0, 0) _ rfl hrow Try.underlying27 rfl z1, by rw [HD.out],
          (hs2.setRow (cs' := ints .u8 B) (.tail (.tail (.tail (.tail .head))))).below.trans (belowK_b (w := w) (Nat.le_refl _) _ D _ _ (by omega) hK2 rfl rfl)⟩
  case stop =>
    rintro D c pre W _ _ h _
    exact h.elim
end Go.Proofs.Ytleabipplchbpaa
