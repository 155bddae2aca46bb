/-
  The statement MacTags, walked.
-/
import Derived.Test.YtleabipplchbpaaLawB
import Derived.Test.YtleabipplchbpaaLawC
import Derived.Test.YtleabipplchbpaaMacF
namespace Go.Proofs.Ytleabipplchbpaa
open Go.RowKit
set_option maxRecDepth 100000
theorem flat_part {l : List Nat} : ∀ {ps : List (List Nat)}, l ∈ ps → l.length ≤ ps.flatten.length
  | p :: ps, h => by
    rw [List.flatten_cons, List.length_append]
    rcases List.mem_cons.1 h with rfl | h
    · omega
    · have := flat_part h; omega
theorem same_self (l : List Nat) : sameB l l = true := by simp [sameB]
set_option maxHeartbeats 2000000 in
theorem mactags_any (key : List Nat) (hk : ∀ x ∈ key, x < 256) (ps : List (List Nat)) (hpb : ∀ x ∈ ps.flatten, x < 256) (A B : Option Addr) (n c m cb : Nat) (hn : n ≤ 9223372036854775807) (hm : m ≤ 9223372036854775807) (w : World) (hr : RdI w .u8 A n key) (hp : RdP w B m ps) :
    Calls Try.prog 3 #[.slice A n c, .slice B m cb] w fun e w' => e = .returned (.bool true) ∧ Below w.heap.size w w' := by
  have HFair := Lib.hid fun w hp => fair_any ps B m cb hm w hp
  have hpl := hp.1
  by_cases h3 : 300 < n
  · have d1 : decide ((300 : Int) < (n : Int)) = true := by simp; omega
    have i1 : (300 : Int) < (n : Int) := by omega
    clear hpl
    go_enter Try.func3, Try.ntmps3
    have hs := St.nil w
    go_wp2_with (go_at_call 15; refine (wakes02_any _).mono ?_; rintro e w3 ⟨rfl, hb3⟩; replace hs := hs.call hb3; clear hb3)
    go_ret
    exact ⟨rfl, hs.below⟩
  · have d1 : decide ((300 : Int) < (n : Int)) = false := by simp; omega
    have i1 : (n : Int) ≤ 300 := by omega
    cases hf : fairB ps with
    | false =>
      rw [hf] at HFair
      clear hpl hf
      go_enter Try.func3, Try.ntmps3
      have hs := St.nil w
      go_wp2_with (first
        | (go_at_call 14; refine (HFair.out _ (hp.st hs)).mono ?_; rintro e w3 ⟨rfl, rfl⟩)
        | (go_at_call 15; refine (wakes02_any _).mono ?_; rintro e w3 ⟨rfl, hb3⟩; replace hs := hs.call hb3; clear hb3))
      go_ret
      exact ⟨rfl, hs.below⟩
    | true =>
      obtain ⟨hfl, hm60⟩ := fair_len hf
      rw [hf] at HFair
      rw [hpl] at hm60
      have hparts : ∀ l ∈ ps, l.length ≤ 100000 := by
        intro l hl
        have := flat_part hl
        omega
      obtain ⟨R, hR⟩ : ∃ R, R = macOf key ps.flatten := ⟨_, rfl⟩
      have rl : R.length = 32 := by rw [hR]; exact macOf_len _ _
      have rb : ∀ x ∈ R, x < 256 := by rw [hR]; exact macOf_lt _ _
      obtain ⟨b, hb⟩ : ∃ b, b = blk64 key := ⟨_, rfl⟩
      have bl : b.length = 64 := by rw [hb]; exact blk_len key
      have bb : ∀ x ∈ b, x < 256 := by rw [hb]; exact blk_lt hk
      have h300 : n ≤ 300 := by omega
      have HM : Hid (∀ (A B : Option Addr) (c cb : Nat) (w : World), RdI w .u8 A n key → RdP w B m ps → Calls Try.prog 16 #[.slice A n c, .slice B m cb] w fun e w' => e = .returned (.agg (ints .u8 R)) ∧ Below w.heap.size w w') :=
        Lib.hid fun A B c cb w hr hp => by
          rw [hR]
          exact mac_any key hk ps hpb (by omega) A B n c m cb (by omega) (by omega) w hr hp
      have HMr : Hid (∀ (w : World), RdI w .u8 A n key → RdP w B m ps → Calls Try.prog 18 #[.slice A n c, .slice B m cb] w fun e w' => e = .returned (.agg (ints .u8 R)) ∧ Below w.heap.size w w') :=
        Lib.hid fun w hr hp => by
          rw [hR]
          exact rmac_any key hk ps hpb (by omega) A B n c m cb (by omega) (by omega) w hr hp
      have HB : Hid (∀ (A : Option Addr) (c : Nat) (w : World), RdI w .u8 A n key → Calls Try.prog 19 #[.slice A n c] w fun e w' => e = .returned (.agg (ints .u8 b)) ∧ Below w.heap.size w w') :=
        Lib.hid fun A c w hr => by
          rw [hb]
          exact block_any key hk A n c (by omega) w hr
      have HBr : Hid (∀ (w : World), RdI w .u8 A n key → Calls Try.prog 20 #[.slice A n c] w fun e w' => e = .returned (.agg (ints .u8 b)) ∧ Below w.heap.size w w') :=
        Lib.hid fun w hr => by
          rw [hb]
          exact rblock_any key hk A n c (by omega) w hr
      have HC : Hid (∀ w, RdP w B m ps → Calls Try.prog 17 #[.slice B m cb] w fun e w' => ∃ A' c', e = .returned (.slice A' m c') ∧ RdP w' A' m ps ∧ Below w.heap.size w w') :=
        Lib.hid fun w hp => copy_any ps hparts B m cb (by omega) w hp
      have heq : ∀ w, (binOp .eql 27 (.agg (ints .u8 R)) (.agg (ints .u8 R))).run Try.prog w = .ok (.bool true) w := fun w => by
        rw [run_eq27 w rl rl rb rb]; simp
      have heb : ∀ w, (binOp .eql 31 (.agg (ints .u8 b)) (.agg (ints .u8 b))).run Try.prog w = .ok (.bool true) w := fun w => by
        rw [run_eq31 w bl bl bb bb]; simp
      have HBy : Hid (∀ (A' : Option Addr) (c' : Nat) (w : World), RdI w .u8 A' n key → RdI w .u8 A n key → Calls Try.prog 21 #[.slice A' n c', .slice A n c] w fun e w' => e = .returned (.bool true) ∧ w = w') :=
        Lib.hid fun A' c' w h1 h2 => by
          have := bytes_any key key hk hk A' A n c' n c w h1 h2
          rwa [same_self] at this
      have g27 : ∀ (op : BinOp) (x y : Operand) (xs ys : Array Value) (w : World), (eqGuard op 27 x y (.agg xs) (.agg ys)).run Try.prog w = .ok () w := guard27
      have g31 : ∀ (op : BinOp) (x y : Operand) (xs ys : Array Value) (w : World), (eqGuard op 31 x y (.agg xs) (.agg ys)).run Try.prog w = .ok () w := guard31
      clear hpl hf hR hb hparts hk hpb rb bb
      go_enter Try.func3, Try.ntmps3
      have hs := St.nil w
      go_wp2_with (first
        | (go_at_call 14; refine (HFair.out _ (hp.st hs)).mono ?_; rintro e w3 ⟨rfl, rfl⟩)
        | ((with_reducible refine wpl_slice0 (o := ⟨some 15, _, _, _, _, _⟩) hs rfl 22 rfl 5 1 lit0b ?_); clear hs; intro g15 w2 hs; replace hs : St w w2 (numsR (some ⟨g15, 0, none⟩) 0 0 5 .u8 [] :: _) := hs; have hr2 := hr.st hs)
        | ((with_reducible refine wpl_appendI (o := ⟨some 17, _, _, _, _, _⟩) (m := n) hs rfl _ _ 22 rfl rfl rfl (fun _ _ => .head) hr2 Try.underlying22 el5 (by unfold maxLen; omega) (by omega) ?_); clear hs hr2; intro A5 c5 w4 _ hs; rw [List.nil_append] at hs; rw [Nat.zero_add] at hs ⊢)
        | (go_at_call 17; refine (HC.out _ (hp.st hs)).mono ?_; rintro e w17 ⟨A20, c20, rfl, hp20, hb17⟩; replace hs := hs.call hb17; clear hb17)
        | (go_at_call 16; refine (HM.out _ _ _ _ _ (Rd.of_own (hs.has_nums .head)) hp20).mono ?_; clear hp20; rintro e w16 ⟨rfl, hb16⟩; replace hs := hs.call hb16; clear hb16)
        | (go_at_call 18; refine (HMr.out _ (hr.st hs) (hp.st hs)).mono ?_; rintro e w18 ⟨rfl, hb18⟩; replace hs := hs.call hb18; clear hb18)
        | (go_at_call 19; refine (HB.out _ _ _ (Rd.of_own (hs.has_nums .head))).mono ?_; rintro e w19 ⟨rfl, hb19⟩; replace hs := hs.call hb19; clear hb19)
        | (go_at_call 20; refine (HBr.out _ (hr.st hs)).mono ?_; rintro e w20 ⟨rfl, hb20⟩; replace hs := hs.call hb20; clear hb20)
        | (go_at_call 21; refine (HBy.out _ _ _ (Rd.of_own (hs.has_nums .head)) (hr.st hs)).mono ?_; rintro e w21 ⟨rfl, rfl⟩)
        | (go_at_call 15; refine (wakes02_any _).mono ?_; rintro e w15 ⟨rfl, hb15⟩; replace hs := hs.call hb15; clear hb15))
      go_ret
      exact ⟨rfl, hs.below⟩
end Go.Proofs.Ytleabipplchbpaa
