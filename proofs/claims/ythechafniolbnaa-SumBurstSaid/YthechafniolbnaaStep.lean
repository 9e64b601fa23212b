/- The walk of sum.step. -/
import Derived.Test.YthechafniolbnaaSum2
namespace Go.Proofs.Ythechafniolbnaa
open Go.RowKit Crc

set_option maxHeartbeats 1000000 in
set_option maxRecDepth 100000 in
theorem step_any (y : Nat) (w : World) (hy : y < 4294967296) : Calls Try.prog 24 #[.int .u32 y] w fun e w' => e = .returned (.int .u32 ((Tn 8 y : Nat) : Int)) ∧ w = w' := by
  have HY := Lib.hid hy
  go_enter Try.func24, Try.ntmps24
  go_wp2
  go_loop [0, 3] (fun x i => ∃ k : Nat, k ≤ 8 ∧ i = .int .i64 (k : Int) ∧ x = .int .u32 ((Tn k y : Nat) : Int)) (fun _ i => 8 - (intOf i).toNat)
  case atStart => exact ⟨0, by omega, rfl, rfl⟩
  case round =>
    obtain ⟨k, hk, rfl, rfl⟩ := hrel
    by_cases hk8 : k < 8
    · have hv := Tn_lt k y HY.out
      have HS := Lib.hid (Tn_succ k y)
      generalize hv1 : Tn (k + 1) y = v' at *
      have HV1 := Lib.hid hv1
      clear hv1
      generalize Tn k y = v at *
      have ha := and_one v hv
      by_cases hodd : v % 2 = 1
      · rw [hodd] at ha
        have hq := xor_poly (v / 2) (by omega)
        have HO := Lib.hid (HS.out.trans (T_one v hodd))
        clear hodd
        go_wp2
        go_round
        case rel => exact ⟨k + 1, by omega, by go_num, by rw [HV1.out, HO.out]; exact congrArg (Value.int .u32) hq⟩
        case measure => simp [intOf]; omega
      · rw [show v % 2 = 0 by omega] at ha
        have HO := Lib.hid (HS.out.trans (T_none v hodd))
        clear hodd
        go_wp2
        go_round
        case rel => exact ⟨k + 1, by omega, by go_num, by rw [HV1.out, HO.out]; rfl⟩
        case measure => simp [intOf]; omega
    · obtain rfl : k = 8 := by omega
      go_wp2
      go_ret
      exact ⟨rfl, rfl⟩
end Go.Proofs.Ythechafniolbnaa
