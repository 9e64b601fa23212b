/- The walks of numbers as bytes: how many a number needs. -/
import Derived.Test.YtjjhbkmmkhkjnaaRows
import Derived.Test.YtjjhbkmmkhkjnaaVarLaw
import Derived.WalkKit
import Derived.WalkSpells
import Derived.WalkLawsBesides
import Derived.Below
import Derived.Lib.Hide
import Derived.BigQuiet
import Derived.Deep.QuietTactic
import Derived.Outline
import Derived.OwnWalk
import Derived.Maps.AppendAt
import Derived.Deep.DeepMust
import Derived.Laws.Bits64
namespace Go.Proofs.Ytjjhbkmmkhkjnaa
open Go.RowKit Law

theorem ret_i64 {a b : Int} (h : a = b) : Ending.returned (.int .i64 a) = .returned (.int .i64 b) := by rw [h]
theorem below_drewN {B : Nat} {a w : World} (h : Below B a w) (n : Nat) : Below B a (w.drewN n) := ⟨h.os, h.tape, h.output, h.size, h.block⟩

theorem nbF_step (f v : Nat) (h : v / 256 = 0) : nbF (f + 1) v = 1 := by simp only [nbF]; rw [if_pos h]
theorem nbF_more (f v : Nat) (h : v / 256 ≠ 0) : nbF (f + 1) v = nbF f (v / 256) + 1 := by simp only [nbF]; rw [if_neg h]
/-- How many more are wanted for what is left. -/
def rest (f y : Nat) : Nat := if y = 0 then 0 else nbF f y
theorem rest_step (f y : Nat) : nbF (f + 1) y = rest f (y / 256) + 1 := by
  unfold rest
  by_cases h : y / 256 = 0
  · rw [nbF_step f y h, if_pos h]
  · rw [nbF_more f y h, if_neg h]

set_option maxHeartbeats 400000 in
theorem refNeeds_any (n : Nat) (w : World) (h : n < 18446744073709551616) : Calls Try.prog 26 #[.int .u64 n] w fun e w' => e = .returned (.int .i64 (nb n)) ∧ w = w' := by
  have h0 : nb n = 1 + rest 7 (n / 256) := by unfold nb; rw [rest_step]; omega
  have h1 : n / 256 < 256 ^ 7 := by omega
  have H0 := Lib.hid h0
  have H1 := Lib.hid h1
  clear h0 h1
  go_enter Try.func26, Try.ntmps26
  go_wp2
  go_loop [3, 4] (fun k x => ∃ (f j y : Nat), j + f ≤ 8 ∧ y < 256 ^ f ∧ y ≤ n ∧ nb n = j + rest f y ∧ x = .int .u64 (y : Int) ∧ k = .int .i64 (j : Int)) (fun _ x => (intOf x).toNat)
  case atStart => exact ⟨7, 1, n / 256, by omega, H1.out, by omega, H0.out, by go_num, rfl⟩
  case round =>
    obtain ⟨f, j, y, hj, hv, hyn, hnb, rfl, rfl⟩ := hrel
    have HNB := Lib.hid hnb
    have HV := Lib.hid hv
    clear hnb hv
    rcases Nat.eq_zero_or_pos y with hz | hz
    · have HZ := Lib.hid hz
      have hz' : (y : Int) ≤ 0 := by omega
      clear hz
      go_wp2
      go_ret
      refine ⟨ret_i64 ?_, rfl⟩
      rw [HNB.out]
      unfold rest
      rw [if_pos HZ.out]
      rfl
    · go_wp2
      go_round
      case rel =>
        cases f with
        | zero => exact absurd HV.out (by simp; omega)
        | succ f =>
          refine ⟨f, j + 1, y / 256, by omega, by have := HV.out; rw [Nat.pow_succ] at this; omega, by omega, ?_, by go_num, by go_num⟩
          rw [HNB.out, show rest (f + 1) y = nbF (f + 1) y by unfold rest; rw [if_neg (by omega)], rest_step]
          omega
      case measure => simp [intOf]; omega

set_option maxHeartbeats 400000 in
theorem needs_any (n : Nat) (w : World) (h : n < 18446744073709551616) : Calls Try.prog 24 #[.int .u64 n] w fun e w' => e = .returned (.int .i64 (nb n)) ∧ w = w' := by
  go_enter Try.func24, Try.ntmps24
  go_wp2
  go_step3
  go_wp2
  go_step3
  go_wp2
  go_loop [0, 3] (fun x k => ∃ (f j y : Nat), j + (f + 1) ≤ 8 ∧ y < 256 ^ (f + 1) ∧ y ≤ n ∧ nb n = j + nbF (f + 1) y ∧ x = .int .u64 (y : Int) ∧ k = .int .i64 (j : Int)) (fun x k => 8 - (intOf k).toNat)
  case atStart => exact ⟨7, 0, n, by omega, h, by omega, (Nat.zero_add _).symm, rfl, rfl⟩
  case round =>
    obtain ⟨f, j, y, hj, hv, hyn, hnb, rfl, rfl⟩ := hrel
    have HNB := Lib.hid hnb
    have HV := Lib.hid hv
    clear hnb hv
    have hst := rest_step f y
    have HST := Lib.hid hst
    clear hst
    by_cases hz : y / 256 = 0
    · have hz' : ((y : Int) / 256 == 0) = true := by simp; omega
      have HZ := Lib.hid hz
      clear hz
      go_wp2
      go_ret
      refine ⟨ret_i64 ?_, rfl⟩
      have h1 := HNB.out
      have h2 := HST.out
      unfold rest at h2
      rw [if_pos HZ.out] at h2
      omega
    · have hz' : ((y : Int) / 256 == 0) = false := by simp; omega
      go_wp2
      go_round
      case rel =>
        cases f with
        | zero => exact absurd HV.out (by simp; omega)
        | succ f =>
          refine ⟨f, j + 1, y / 256, by omega, by have := HV.out; rw [Nat.pow_succ] at this; omega, by omega, ?_, by go_num, by go_num⟩
          have h1 := HNB.out
          have h2 := HST.out
          unfold rest at h2
          rw [if_neg hz] at h2
          omega
      case measure => simp [intOf]; omega
end Go.Proofs.Ytjjhbkmmkhkjnaa
