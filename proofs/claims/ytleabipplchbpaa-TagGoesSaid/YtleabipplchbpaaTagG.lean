/-
  The statement TagGoes, walked.
-/
import Derived.Test.YtleabipplchbpaaTagGz
import Derived.Test.YtleabipplchbpaaTagGp
namespace Go.Proofs.Ytleabipplchbpaa
open Go.RowKit
set_option maxRecDepth 100000
set_option maxHeartbeats 2000000 in
theorem taggoes_any (h : List Nat) (hh : ∀ x ∈ h, x < 256) (hl : h.length = 32) (ps : List (List Nat)) (hpb : ∀ x ∈ ps.flatten, x < 256) (B : Option Addr) (m cb : Nat) (hm : m ≤ 9223372036854775807) (hmc : m ≤ cb) (u : Nat) (hu : u < 256) (w : World) (hp : RdP w B m ps) :
    Calls Try.prog 7 #[.agg (chainedC h B m cb), .int .u8 u] w fun e w' => e = .returned (.bool true) ∧ Below w.heap.size w w' := by
  cases hf : fairB ps with
  | false =>
    have HFair := Lib.hid fun w hp => fair_any ps B m cb hm w hp
    rw [hf] at HFair
    clear hf
    go_enter Try.func7, Try.ntmps7
    have hs := St.nil w
    go_wp2_with (first
      | ((with_reducible refine wpl_boxRow (o := ⟨some 2, _, _, _, _, _⟩) hs rfl 39 _ rfl (chainedC h B m cb) rfl ?_); clear hs; intro g5 w1 hs; have hc5 := (hs.chained .head hl).2)
      | (go_at_call 14; refine (HFair.out _ (hp.st hs)).mono ?_; rintro e w3 ⟨rfl, rfl⟩)
      | (go_at_call 23; refine (wakes03_any _).mono ?_; rintro e w3 ⟨rfl, hb3⟩; replace hs := hs.call hb3; clear hb3))
    go_ret
    exact ⟨rfl, hs.below⟩
  | true =>
    rcases Nat.eq_zero_or_pos (u % (m + 1)) with h0 | h0
    · exact taggoes_zero h hh hl ps hpb B m cb hm hmc u hu w hp hf _ rfl h0
    · exact taggoes_pos h hh hl ps hpb B m cb hm hmc u hu w hp hf _ rfl h0
end Go.Proofs.Ytleabipplchbpaa
