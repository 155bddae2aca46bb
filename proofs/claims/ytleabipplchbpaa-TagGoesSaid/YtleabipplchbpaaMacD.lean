/-
  Walks over the keyed hash, part 4: slices.Insert at the head.
-/
import Derived.Test.YtleabipplchbpaaMacC
namespace Go.Proofs.Ytleabipplchbpaa
open Go.RowKit
set_option maxRecDepth 100000
theorem Rd.one {w0 w : World} {L : List Res} (hs : St w0 w L) {g : Nat} {t : TypeId} {B : Option Addr} {m cb : Nat} (hm : Has (Res.blk g t (Value.slice B m cb).cells) L) : Rd w 1 (some ⟨g, 0, none⟩) 1 [.slice B m cb] :=
  Rd.of_blk hs hm rfl fun j u h => by
    match j, h with
    | 0, h => cases h; rfl
    | j + 1, h => simp at h
theorem one_one (B : Option Addr) (m cb : Nat) : ∀ u ∈ [Value.slice B m cb], u.oneCell' = true := by
  intro u hu
  rw [List.mem_singleton.1 hu]
  rfl
theorem own_nil {w : World} {base : Nat} {e : TypeId} {n c : Nat} {xs : List Value} (h : w.ownsRow base e 1 (.slice none n c) n xs) : n = 0 ∧ c = 0 ∧ xs = [] := by
  rcases h.2 with ⟨hv, hn⟩ | ⟨_, _, _, hv, _⟩
  · injection hv with _ _ hc
    exact ⟨hn, hc, List.eq_nil_of_length_eq_zero (by rw [h.1, hn])⟩
  · cases hv
set_option maxHeartbeats 1000000 in
theorem insert_none {w0 w : World} {L : List Res} (gv : Nat) (B : Option Addr) (m cb : Nat) (hs : St w0 w (.blk gv 22 (Value.slice B m cb).cells :: rowR none 0 0 22 1 [] :: L)) :
    Calls Try.prog 43 #[.slice none 0 0, .int .i64 0, .slice (some ⟨gv, 0, none⟩) 1 1] w fun e w' => ∃ A' c', e = .returned (.slice A' 1 c') ∧ St w0 w' (rowR A' 1 c' 22 1 [.slice B m cb] :: L) := by
  have hr := Rd.one hs .head
  have h1 := one_one B m cb
  go_enter Try.func43, Try.ntmps43
  go_wp2_with (at_builtin; go_must (with_reducible refine wpl_append (news := [.slice B m cb]) hs rfl _ _ 23 rfl rfl rfl (fun _ _ => .tail .head) hr h1 Try.underlying23 el22 (by decide) (by decide) ?_); clear hs hr; intro A' c' w3 _ hs)
  go_ret
  exact ⟨A', c', rfl, hs.pop⟩
set_option maxHeartbeats 1000000 in
theorem insert_empty {w0 w : World} {L : List Res} (g c gv : Nat) (B : Option Addr) (m cb : Nat) (hs : St w0 w (.blk gv 22 (Value.slice B m cb).cells :: rowR (some ⟨g, 0, none⟩) 0 c 22 1 [] :: L)) :
    Calls Try.prog 43 #[.slice (some ⟨g, 0, none⟩) 0 c, .int .i64 0, .slice (some ⟨gv, 0, none⟩) 1 1] w fun e w' => ∃ A' c', e = .returned (.slice A' 1 c') ∧ St w0 w' (rowR A' 1 c' 22 1 [.slice B m cb] :: L) := by
  have hr := Rd.one hs .head
  have h1 := one_one B m cb
  by_cases hc : c = 0
  · subst hc
    go_enter Try.func43, Try.ntmps43
    go_wp2_with (at_builtin; go_must (with_reducible refine wpl_append (news := [.slice B m cb]) hs rfl _ _ 23 rfl rfl rfl (fun _ _ => .tail .head) hr h1 Try.underlying23 el22 (by decide) (by decide) ?_); clear hs hr; intro A' c' w3 _ hs)
    go_ret
    exact ⟨A', c', rfl, hs.pop⟩
  · go_enter Try.func43, Try.ntmps43
    go_wp2_with (at_builtin; go_must (with_reducible refine wpl_append (news := [.slice B m cb]) hs rfl _ _ 23 rfl rfl rfl (fun _ _ => .tail .head) hr h1 Try.underlying23 el22 (by decide) (by decide) ?_); clear hs hr; intro A' c' w3 _ hs)
    go_ret
    exact ⟨A', c', rfl, hs.pop⟩
theorem put_size {cs : Array Value} {xs : List Value} {off m : Nat} (hl : xs.length = m) (h : off + m ≤ cs.size) : (cs.toList.take off ++ (xs ++ cs.toList.drop (off + m))).toArray.size = cs.size := by
  simp only [List.size_toArray, List.length_append, List.length_take, List.length_drop, Array.length_toList]
  omega
theorem put_grow {cs : Array Value} {v : Value} {xs : List Value} {n : Nat} (hl : xs.length = n) (_ : n + 1 ≤ cs.size) :
    ((cs.toList.take 0 ++ ([v] ++ cs.toList.drop (0 + 1))).toArray.toList.take 1 ++ (xs ++ (cs.toList.take 0 ++ ([v] ++ cs.toList.drop (0 + 1))).toArray.toList.drop (1 + n))).toArray.toList.take (n + 1) = v :: xs := by
  simp [hl]
theorem put_room {cs : Array Value} {v : Value} {xs : List Value} {n : Nat} (hl : xs.length = n) (h : n + 1 ≤ cs.size) :
    ((cs.toList.take 1 ++ (xs ++ cs.toList.drop (1 + n))).toArray.toList.take 0 ++ ([v] ++ (cs.toList.take 1 ++ (xs ++ cs.toList.drop (1 + n))).toArray.toList.drop (0 + 1))).toArray.toList.take (n + 1) = v :: xs := by
  have h1 : (cs.toList.take 1).length = 1 := by rw [List.length_take, Array.length_toList]; omega
  simp only [List.take_zero, List.nil_append, List.cons_append, List.take_succ_cons, Nat.zero_add, List.drop_append, h1]
  simp [hl]
set_option maxHeartbeats 1000000 in
theorem insert_grow {w0 w : World} {L : List Res} (g n c gv : Nat) (xs : List Value) (h1 : ∀ u ∈ xs, u.oneCell' = true) (B : Option Addr) (m cb : Nat) (h0 : 0 < n) (hn : n ≤ 100000) (hnc : n ≤ c) (hc : c < n + 1) (hs : St w0 w (.blk gv 22 (Value.slice B m cb).cells :: rowR (some ⟨g, 0, none⟩) n c 22 1 xs :: L)) :
    Calls Try.prog 43 #[.slice (some ⟨g, 0, none⟩) n c, .int .i64 0, .slice (some ⟨gv, 0, none⟩) 1 1] w fun e w' => ∃ A' c', e = .returned (.slice A' (n + 1) c') ∧ St w0 w' (rowR A' (n + 1) c' 22 1 (.slice B m cb :: xs) :: L) := by
  have z1 : ¬ ((0 : Int) = (n : Int)) := by omega
  have d0 : ((0 : Int) == (n : Int)) = false := by simpa using z1
  have d1 : decide ((c : Int) < (n : Int) + 1) = true := by simp; omega
  have z2 : (c : Int) < (n : Int) + 1 := by omega
  have z3 : ¬ (c = 0) := by omega
  have z4 : (n : Int) + 1 = ((n + 1 : Nat) : Int) := by omega
  have Z4 := Lib.hid z4
  clear z4
  have HMIN := Lib.hid (show 1 = Nat.min 1 (n + 1) by show 1 = min 1 (n + 1); omega)
  have HMIN2 := Lib.hid (show n = Nat.min n n by show n = min n n; omega)
  have z5 : ¬ (n = 0) := by omega
  have g1 := one_one B m cb
  have hl : xs.length = n := by have := (hs.has_own (.tail .head)).1; omega
  go_enter Try.func43, Try.ntmps43
  go_wp2_with (first
    | (with_reducible refine wpl_appendZeros (o := ⟨some 40, _, _, _, _, _⟩) (k := n + 1) hs rfl _ _ 23 3 rfl rfl rfl Z4.out Try.underlying23 Try.underlying3 el22 (by omega) hc (by unfold maxLen; omega) (by omega) ?_; clear hs; intro g2 w2 cs hsz hmx hs; have y1 : ¬ (cs.size = 0) := (by omega); have hrv := Rd.one hs (.tail .head); have hfit : 0 + 1 ≤ cs.size := (by omega))
    | (with_reducible refine wpl_copyV (o := ⟨some 45, _, _, _, _, _⟩) (off := 0) (m := 1) (xs := [.slice B m cb]) (cs := cs) hs rfl _ _ 23 23 rfl rfl rfl .head hrv g1 (by decide) HMIN.out hfit Try.underlying23 info22 ?_; clear hs hrv; intro w3 hs))
  have y2 : (1 : Int) ≤ (cs.size : Int) := by omega
  have hz := put_size (cs := cs) (xs := [Value.slice B m cb]) (off := 0) (m := 1) rfl (by omega)
  obtain ⟨cs2, hcs2⟩ : ∃ cs2, cs2 = (cs.toList.take 0 ++ ([Value.slice B m cb] ++ cs.toList.drop (0 + 1))).toArray := ⟨_, rfl⟩
  rw [← hcs2] at hs hz
  have HCS := Lib.hid hcs2
  clear hcs2
  have y3 : ¬ (cs.size = 1) := by omega
  have y4 : (1 : Int) ≤ (n : Int) + 1 := by omega
  have y5 : IntKind.i64.wrap 1 = 1 := by rw [IntKind.wrap_i64]; rfl
  refine reg_tail hs 8 (by kernel_rfl) (by kernel_rfl) ?_
  clear hs
  intro w4 hs
  simp only [List.take_succ_cons, List.take_zero, List.drop_succ_cons, List.drop_zero]
  repeat (refine wpStill_step (fun K hK => ?_); go_simp; refine hK _ ?_; clear hK K)
  refine wpStill_nil ?_
  have hrx := Rd.of_own (hs.has_own (.tail (.tail .head)))
  have hfit2 : 1 + n ≤ cs2.size := by omega
  go_wp2_with (with_reducible refine wpl_copyV (o := ⟨some 54, _, _, _, _, _⟩) (off := 1) (m := n) (xs := xs) (cs := cs2) hs rfl _ _ 23 23 rfl rfl rfl .head hrx h1 h0 HMIN2.out hfit2 Try.underlying23 info22 ?_; clear hs hrx; intro w5 hs)
  obtain ⟨cs3, h3⟩ : ∃ cs3, cs3 = (cs2.toList.take 1 ++ (xs ++ cs2.toList.drop (1 + n))).toArray := ⟨_, rfl⟩
  have hz3 : cs3.size = cs.size := by rw [h3, put_size hl hfit2, hz]
  have ht3 : cs3.toList.take (n + 1) = .slice B m cb :: xs := by rw [h3, HCS.out]; exact put_grow hl hsz
  rw [← h3] at hs
  have hs3 := hs.blk_own (n := n + 1) (by rw [hz3]; exact hsz) (by rw [hz3]; exact hmx) ht3 .head
  rw [hz3] at hs3
  go_ret
  exact ⟨_, _, rfl, hs3.sub (.cons_cons _ (.cons _ (.cons _ (List.Sublist.refl _))))⟩
set_option maxHeartbeats 1000000 in
theorem insert_room {w0 w : World} {L : List Res} (g n c gv : Nat) (xs : List Value) (h1 : ∀ u ∈ xs, u.oneCell' = true) (B : Option Addr) (m cb : Nat) (h0 : 0 < n) (hn : n ≤ 100000) (hc : n + 1 ≤ c) (hs : St w0 w (.blk gv 22 (Value.slice B m cb).cells :: rowR (some ⟨g, 0, none⟩) n c 22 1 xs :: L)) :
    Calls Try.prog 43 #[.slice (some ⟨g, 0, none⟩) n c, .int .i64 0, .slice (some ⟨gv, 0, none⟩) 1 1] w fun e w' => ∃ A' c', e = .returned (.slice A' (n + 1) c') ∧ St w0 w' (rowR A' (n + 1) c' 22 1 (.slice B m cb :: xs) :: L) := by
  have z1 : ¬ ((0 : Int) = (n : Int)) := by omega
  have d0 : ((0 : Int) == (n : Int)) = false := by simpa using z1
  have d1 : decide ((c : Int) < (n : Int) + 1) = false := by simp; omega
  have z2 : (n : Int) + 1 ≤ (c : Int) := by omega
  have z3 : ¬ (c = 0) := by omega
  have z4 : ((n : Int) + 1).toNat = n + 1 := by omega
  have z5 : ¬ (n = 0) := by omega
  have z6 : 0 ≤ (n : Int) + 1 := by omega
  have z7 : ¬ (c = 1) := by omega
  have z8 : (1 : Int) ≤ (n : Int) + 1 := by omega
  have y5 : IntKind.i64.wrap 1 = 1 := by rw [IntKind.wrap_i64]; rfl
  have HMIN := Lib.hid (show 1 = Nat.min 1 (n + 1) by show 1 = min 1 (n + 1); omega)
  have HMIN2 := Lib.hid (show n = Nat.min (n + 1) n by show n = min (n + 1) n; omega)
  have g1 := one_one B m cb
  have hl : xs.length = n := by have := (hs.has_own (.tail .head)).1; omega
  obtain ⟨cur, hcz, htk, hnc, hmx, hto⟩ := hs.own_blk (.tail .head)
  have hs2 := hto _ (.tail .head)
  have hap := hs2.apart
  clear hto hs
  have hne : gv ≠ g := fun e => (List.pairwise_cons.1 hap).1 _ (List.mem_cons_self ..) gv rfl (by rw [e]; rfl)
  clear hap
  have hov := no_overlap hs2 .head (.tail .head) hne (by omega)
  have hs := hs2
  clear hs2
  have HTK := Lib.hid htk
  clear htk
  have HCZ := Lib.hid hcz
  go_enter Try.func43, Try.ntmps43
  clear hcz
  go_wp2_with fail
  refine reg_tail hs 8 (by kernel_rfl) (by kernel_rfl) ?_
  clear hs
  intro w4 hs
  simp only [List.take_succ_cons, List.take_zero, List.drop_succ_cons, List.drop_zero]
  repeat (refine wpStill_step (fun K hK => ?_); go_simp; refine hK _ ?_; clear hK K)
  refine wpStill_nil ?_
  have hrx : Rd w4 1 (some ⟨g, 0, none⟩) n xs := Rd.of_blk hs (.tail .head) (by omega) fun j u hj => by
    rw [← HTK.out, List.getElem?_take] at hj
    split at hj
    · rw [Nat.zero_add, ← hj]; simp
    · cases hj
  have hfit2 : 1 + n ≤ cur.size := by have := HCZ.out; omega
  go_wp2_with (first
    | (with_reducible refine wpl_copyV (o := ⟨some 77, _, _, _, _, _⟩) (off := 1) (m := n) (xs := xs) (cs := cur) hs rfl _ _ 23 23 rfl rfl rfl (.tail .head) hrx h1 h0 HMIN2.out hfit2 Try.underlying23 info22 ?_; clear hs hrx; intro w5 hs; have hrv := Rd.one hs .head; have hz := put_size hl hfit2; have hfit3 : 0 + 1 ≤ (cur.toList.take 1 ++ (xs ++ cur.toList.drop (1 + n))).toArray.size := (by omega))
    | (with_reducible refine wpl_copyV (o := ⟨some 82, _, _, _, _, _⟩) (off := 0) (m := 1) (xs := [.slice B m cb]) (cs := (cur.toList.take 1 ++ (xs ++ cur.toList.drop (1 + n))).toArray) hs rfl _ _ 23 23 rfl rfl rfl (.tail .head) hrv g1 (by decide) HMIN.out hfit3 Try.underlying23 info22 ?_; clear hs hrv; intro w6 hs))
  obtain ⟨cs2, h2⟩ : ∃ cs2, cs2 = (cur.toList.take 1 ++ (xs ++ cur.toList.drop (1 + n))).toArray := ⟨_, rfl⟩
  have hz2 : cs2.size = cur.size := by rw [h2]; exact hz
  obtain ⟨cs3, h3⟩ : ∃ cs3, cs3 = (cs2.toList.take 0 ++ ([Value.slice B m cb] ++ cs2.toList.drop (0 + 1))).toArray := ⟨_, rfl⟩
  have hz3 : cs3.size = c := by rw [h3, put_size (m := 1) rfl (by have := HCZ.out; omega), hz2, HCZ.out]
  have ht3 : cs3.toList.take (n + 1) = .slice B m cb :: xs := by rw [h3, h2]; exact put_room hl (by have := HCZ.out; omega)
  have hs4 : St w0 w6 (.blk gv 22 (Value.slice B m cb).cells :: .blk g 22 cs3 :: L) := by rw [h3, h2]; exact hs
  have hs3 := hs4.blk_own (n := n + 1) (by rw [hz3]; exact hc) (by rw [hz3]; exact hmx) ht3 (.tail .head)
  rw [hz3] at hs3
  go_ret
  exact ⟨_, _, rfl, hs3.pop⟩
theorem insert_any {w0 w : World} {L : List Res} (A : Option Addr) (n c gv : Nat) (xs : List Value) (h1 : ∀ u ∈ xs, u.oneCell' = true) (B : Option Addr) (m cb : Nat) (hn : n ≤ 100000) (hs : St w0 w (.blk gv 22 (Value.slice B m cb).cells :: rowR A n c 22 1 xs :: L)) :
    Calls Try.prog 43 #[.slice A n c, .int .i64 0, .slice (some ⟨gv, 0, none⟩) 1 1] w fun e w' => ∃ A' c', e = .returned (.slice A' (n + 1) c') ∧ St w0 w' (rowR A' (n + 1) c' 22 1 (.slice B m cb :: xs) :: L) := by
  have ho := hs.has_own (.tail .head)
  rcases ho.2 with ⟨hv, hn0⟩ | ⟨g, cap, _, hv, _, _, hnc, _⟩
  · injection hv with hA _ hc
    have hx : xs = [] := List.eq_nil_of_length_eq_zero (by rw [ho.1, hn0])
    subst hA hc hn0 hx
    exact insert_none gv B m cb hs
  · injection hv with hA _ hc
    subst hA hc
    rcases Nat.eq_zero_or_pos n with h0 | h0
    · have hx : xs = [] := List.eq_nil_of_length_eq_zero (by rw [ho.1, h0])
      subst h0 hx
      exact insert_empty g _ gv B m cb hs
    · by_cases hc : n + 1 ≤ c
      · exact insert_room g n _ gv xs h1 B m cb h0 hn hc hs
      · exact insert_grow g n _ gv xs h1 B m cb h0 hn hnc (by omega) hs
end Go.Proofs.Ytleabipplchbpaa
