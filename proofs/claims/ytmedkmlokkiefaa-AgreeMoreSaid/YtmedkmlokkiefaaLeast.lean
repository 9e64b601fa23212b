/- The walks of the two functions that tell the least of several numbers. -/
import Derived.Test.YtmedkmlokkiefaaWords
import Derived.Outline
import Derived.BigQuiet
import Derived.Deep.QuietTactic
namespace Go.Proofs.Ytmedkmlokkiefaa
open Go.RowKit Law

theorem low_step (f : Int) (zs : List Int) (k : Nat) (hk : k < zs.length) : low f (zs.take (k + 1)) = if zs[k] < low f (zs.take k) then zs[k] else low f (zs.take k) := by
  rw [low_take f zs k hk, List.getElem?_eq_getElem hk]
  show min _ zs[k] = _
  split <;> omega

set_option maxHeartbeats 400000 in
theorem least_any (f : Int) (A : Option Addr) (cap : Nat) (zs : List Int) (w : World) (hz : Nums w A zs) (hm : zs.length ≤ 9223372036854775807) :
    Calls Try.prog 11 #[.int .u64 f, .slice A zs.length cap] w fun e w' => e = .returned (.int .u64 (low f zs)) ∧ w = w' := by
  go_enter Try.func11, Try.ntmps11
  go_wp2
  go_loop [0, 9] (fun t i => ∃ k : Nat, k ≤ zs.length ∧ i = .int .i64 k ∧ t = .int .u64 (low f (zs.take k))) (fun _ i => zs.length - (intOf i).toNat)
  case atStart => exact ⟨0, Nat.zero_le _, rfl, rfl⟩
  case round =>
    obtain ⟨k, hk, rfl, rfl⟩ := hrel
    by_cases hlt : k < zs.length
    · obtain ⟨b, off, rfl, hb, hc⟩ := hz (by rintro rfl; simp at hlt)
      have hck := hc k hlt
      have HT := Lib.hid (low_step f zs k hlt)
      clear hc hz
      go_wp2
      go_round
      case rel => exact ⟨k + 1, by omega, by go_num, by rw [HT.out]⟩
      case measure => simp [intOf]; omega
    · go_wp2
      go_ret
      exact ⟨ret_u64 (by rw [List.take_of_length_le (by omega)]), rfl⟩

/-- The reference's: the first one, or a lesser one. -/
def refLow (zs : List Int) : Int := lst zs
theorem lst_step (zs : List Int) (k : Nat) (hk : k < zs.length) : lst (zs.take (k + 1)) = if k = 0 ∨ zs[k] < lst (zs.take k) then zs[k] else lst (zs.take k) := by
  match zs, hk with
  | z :: r, hk =>
    match k, hk with
    | 0, _ => simp [lst, low]
    | j + 1, hk =>
      have h : j < r.length := by simpa using hk
      simp only [List.take_succ_cons, lst, List.getElem_cons_succ]
      rw [low_step z r j h]
      simp

set_option maxHeartbeats 400000 in
theorem refLeast_any (A : Option Addr) (cap : Nat) (zs : List Int) (w : World) (hz : Nums w A zs) (hm : zs.length ≤ 9223372036854775807) :
    Calls Try.prog 8 #[.slice A zs.length cap] w fun e w' => e = .returned (.tuple #[.int .u64 (lst zs), .bool (!zs.isEmpty)]) ∧ w = w' := by
  go_enter Try.func8, Try.ntmps8
  go_wp2
  go_loop [4, 5] (fun t i => ∃ k : Nat, k ≤ zs.length ∧ i = .int .i64 k ∧ t = .int .u64 (lst (zs.take k))) (fun _ i => zs.length - (intOf i).toNat)
  case atStart => exact ⟨0, Nat.zero_le _, rfl, rfl⟩
  case round =>
    obtain ⟨k, hk, rfl, rfl⟩ := hrel
    by_cases hlt : k < zs.length
    · obtain ⟨b, off, rfl, hb, hc⟩ := hz (by rintro rfl; simp at hlt)
      have hck := hc k hlt
      have HT := Lib.hid (lst_step zs k hlt)
      clear hc hz
      rcases Nat.eq_zero_or_pos k with rfl | hk0
      · rw [Nat.add_zero] at hck
        go_wp2
        go_round
        case rel => exact ⟨1, by omega, by go_num, by rw [HT.out]; simp⟩
        case measure => simp [intOf]; omega
      · have hkb : ((k : Int) == 0) = false := by simp; omega
        by_cases hl : zs[k] < lst (zs.take k)
        · go_wp2
          go_round
          case rel => exact ⟨k + 1, by omega, by go_num, by rw [HT.out, if_pos (.inr hl)]⟩
          case measure => simp [intOf]; omega
        · go_wp2
          go_round
          case rel => exact ⟨k + 1, by omega, by go_num, by rw [HT.out, if_neg (by omega)]⟩
          case measure => simp [intOf]; omega
    · have hp : decide (0 < zs.length) = !zs.isEmpty := by cases zs <;> simp
      have HP := Lib.hid hp
      clear hp
      go_wp2
      go_ret2
      exact ⟨ret_u64_bool (by rw [List.take_of_length_le (by omega)]) HP.out, rfl⟩
end Go.Proofs.Ytmedkmlokkiefaa
