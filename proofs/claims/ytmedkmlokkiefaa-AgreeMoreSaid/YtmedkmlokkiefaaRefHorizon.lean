/- The walk of the reference's Horizon. -/
import Derived.Test.YtmedkmlokkiefaaHorizon
namespace Go.Proofs.Ytmedkmlokkiefaa
open Go.RowKit Law

theorem refHorizon_none (old : Int) (A A' : Option Addr) (cap n cap' : Nat) (w : World) :
    Calls Try.prog 10 #[.int .u64 old, .slice A 0 cap, .slice A' n cap'] w fun e w' => e = .returned (.int .u64 old) ∧ w = w' := by
  go_enter Try.func10, Try.ntmps10
  go_wp2_with fail
  refine (RefLeast_any A 0 cap [] _ (fun h => absurd rfl h) rfl (by omega)).mono ?_
  rintro e w1 ⟨rfl, rfl⟩
  go_wp2
  go_ret
  exact ⟨rfl, rfl⟩

theorem int_u64 {a b : Int} (h : a = b) : Value.int .u64 a = .int .u64 b := by rw [h]
/-- The least, behind the first pins. -/
def lowk (f : Int) (ps : List (Int × Int × Int)) (k : Nat) : Int := low f ((ats ps).take k)
theorem lowk_step (f : Int) (ps : List (Int × Int × Int)) (k : Nat) (hk : k < ps.length) : lowk f ps (k + 1) = if ps[k].2.1 < lowk f ps k then ps[k].2.1 else lowk f ps k := by
  have e : (ats ps)[k]'(by simpa using hk) = ps[k].2.1 := by simp
  unfold lowk
  rw [low_step f (ats ps) k (by simpa using hk)]
  simp only [e]
theorem lowk_all (f : Int) (ps : List (Int × Int × Int)) : lowk f ps ps.length = low f (ats ps) := by
  unfold lowk
  rw [List.take_of_length_le (by simp)]

set_option maxHeartbeats 400000 in
theorem refHorizon_some (old : Int) (A A' : Option Addr) (n cap cap' : Nat) (z : Int) (r : List Int) (ps : List (Int × Int × Int)) (w : World) (hz : Nums w A (z :: r)) (hn : (z :: r).length = n) (hmax : n ≤ 9223372036854775807)
    (hp : Pins w A' ps) (hreach : ps.length * 24 ≤ 140737488351232) (h0 : 0 ≤ lst (z :: r)) (h1 : lst (z :: r) < 18446744073709551616) :
    Calls Try.prog 10 #[.int .u64 old, .slice A n cap, .slice A' ps.length cap'] w fun e w' => e = .returned (.int .u64 (hor old (z :: r) (ats ps))) ∧ w = w' := by
  have HN := Lib.hid hn
  clear hn
  obtain ⟨f, hf, hf2, hf3⟩ : ∃ f, f = lst (z :: r) - min (lst (z :: r)) 2 ∧ (2 ≤ lst (z :: r) → lst (z :: r) - 2 = f) ∧ (lst (z :: r) < 2 → 0 = f) := ⟨_, rfl, by omega, by omega⟩
  have hfin : (old ≤ lowk f ps ps.length → lowk f ps ps.length = hor old (z :: r) (ats ps)) ∧ (lowk f ps ps.length ≤ old → old = hor old (z :: r) (ats ps)) := by
    rw [hor_of_ne _ _ _ (by simp), ← hf, lowk_all]
    omega
  have HF := Lib.hid hfin
  have HF2 := Lib.hid hf2
  have HF3 := Lib.hid hf3
  clear hf hfin hf2 hf3
  go_enter Try.func10, Try.ntmps10
  go_wp2_with fail
  refine (RefLeast_any A n cap (z :: r) _ hz HN.out hmax).mono ?_
  rintro e w1 ⟨rfl, rfl⟩
  clear hz
  by_cases h2 : lst (z :: r) < 2
  all_goals
    go_wp2
    go_loop [7, 9] (fun v i => ∃ k : Nat, k ≤ ps.length ∧ i = .int .i64 k ∧ v = .int .u64 (lowk f ps k)) (fun _ i => ps.length - (intOf i).toNat)
    case atStart => exact ⟨0, Nat.zero_le _, rfl, by first | exact int_u64 (HF3.out (by omega)) | exact int_u64 (HF2.out (by omega))⟩
    case round =>
      obtain ⟨k, hk, rfl, rfl⟩ := hrel
      by_cases hlt : k < ps.length
      · obtain ⟨b, off, rfl, hb, hc⟩ := hp (by rintro rfl; simp at hlt)
        obtain ⟨_, c2, _⟩ := hc k hlt
        have HT := Lib.hid (lowk_step f ps k hlt)
        clear hc hp
        go_wp2
        go_round
        case rel => exact ⟨k + 1, by omega, by go_num, by rw [HT.out]⟩
        case measure => simp [intOf]; omega
      · obtain rfl : k = ps.length := by omega
        go_wp2
        · go_ret
          exact ⟨ret_u64 (HF.out.1 (by omega)), rfl⟩
        · go_ret
          exact ⟨ret_u64 (HF.out.2 (by omega)), rfl⟩

/-- THE REFERENCE's Horizon. -/
theorem RefHorizon_any (old : Int) (A A' : Option Addr) (n cap n' cap' : Nat) (zs : List Int) (ps : List (Int × Int × Int)) (w : World) (hz : Nums w A zs) (hn : zs.length = n) (hmax : n ≤ 9223372036854775807)
    (hp : Pins w A' ps) (hn' : ps.length = n') (hreach : n' * 24 ≤ 140737488351232) (h0 : 0 ≤ lst zs) (h1 : lst zs < 18446744073709551616) :
    Calls Try.prog 10 #[.int .u64 old, .slice A n cap, .slice A' n' cap'] w fun e w' => e = .returned (.int .u64 (hor old zs (ats ps))) ∧ w = w' := by
  subst hn'
  cases zs with
  | nil =>
    obtain rfl : n = 0 := by simpa using hn.symm
    exact refHorizon_none old A A' cap _ cap' w
  | cons z r => exact refHorizon_some old A A' n cap cap' z r ps w hz hn hmax hp hreach h0 h1
end Go.Proofs.Ytmedkmlokkiefaa
