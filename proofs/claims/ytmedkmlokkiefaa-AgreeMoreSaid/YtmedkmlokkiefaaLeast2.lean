/- The walk of the program's Least. -/
import Derived.Test.YtmedkmlokkiefaaLeast
namespace Go.Proofs.Ytmedkmlokkiefaa
open Go.RowKit Law

theorem least_at (f : Int) (A : Option Addr) (n cap : Nat) (zs : List Int) (w : World) (hz : Nums w A zs) (hn : zs.length = n) (hm : n ≤ 9223372036854775807) :
    Calls Try.prog 11 #[.int .u64 f, .slice A n cap] w fun e w' => e = .returned (.int .u64 (low f zs)) ∧ w = w' := by
  subst hn
  exact least_any f A cap zs w hz hm

theorem least_none (A : Option Addr) (cap : Nat) (w : World) : Calls Try.prog 7 #[.slice A 0 cap] w fun e w' => e = .returned (.tuple #[.int .u64 0, .bool false]) ∧ ∃ n, w' = w.drewN n := by
  go_enter Try.func7, Try.ntmps7
  go_wp2
  go_ret2
  exact ⟨rfl, 0, rfl⟩

set_option maxHeartbeats 400000 in
theorem least_some (b off cap : Nat) (z : Int) (r : List Int) (w : World) (hz : Nums w (some ⟨b, off, none⟩) (z :: r)) (hm : r.length + 1 ≤ cap) (hcap : cap ≤ 9223372036854775807) :
    Calls Try.prog 7 #[.slice (some ⟨b, off, none⟩) (r.length + 1) cap] w fun e w' => e = .returned (.tuple #[.int .u64 (lst (z :: r)), .bool true]) ∧ ∃ n, w' = w.drewN n := by
  obtain ⟨b', off', e, hb, hc⟩ := hz (by simp)
  obtain ⟨rfl, rfl⟩ : b' = b ∧ off' = off := by simpa [eq_comm] using e
  clear e hz
  have hc0 : w.cell? ⟨b', off', none⟩ = some (.int .u64 z) := by simpa using hc 0 (by simp)
  have hne : ((r.length : Int) + 1 == 0) = false := by simp; omega
  have hp : (0 : Int) < (r.length : Int) + 1 := by omega
  have hR : ∀ n, Nums (w.drewN n) (some ⟨b', off' + 1, none⟩) r := fun n _ => ⟨b', off' + 1, rfl, hb, fun i hi => by
    have := hc (i + 1) (by simp; omega)
    simpa [Nat.add_assoc, Nat.add_comm 1 i] using this⟩
  have hR0 : ∀ n, r.length = 0 → Nums (w.drewN n) (some ⟨b', off', none⟩) r := fun n h0 hr => absurd (List.eq_nil_of_length_eq_zero h0) hr
  have HR := Lib.hid hR
  have HR0 := Lib.hid hR0
  clear hc hR hR0
  by_cases h1 : cap = 1
  · obtain rfl : r = [] := List.eq_nil_of_length_eq_zero (by omega)
    subst h1
    go_enter Try.func7, Try.ntmps7
    go_wp2
    go_quiet ((go_at_call 11; exact quiet_l (least_at _ _ _ _ [] _ (HR0.out _ rfl) rfl (by omega))))
    go_wp2
    go_ret2
    exact ⟨rfl, _, rfl⟩
  · go_enter Try.func7, Try.ntmps7
    go_wp2
    go_quiet ((go_at_call 11; exact quiet_l (least_at _ _ _ _ r _ (HR.out _) rfl (by omega))))
    go_wp2
    go_ret2
    exact ⟨rfl, _, rfl⟩

/-- THE PROGRAM's Least. -/
theorem Least_any (A : Option Addr) (n cap : Nat) (zs : List Int) (w : World) (hz : Nums w A zs) (hn : zs.length = n) (hm : n ≤ cap) (hcap : cap ≤ 9223372036854775807) :
    Calls Try.prog 7 #[.slice A n cap] w fun e w' => e = .returned (.tuple #[.int .u64 (lst zs), .bool (!zs.isEmpty)]) ∧ ∃ n, w' = w.drewN n := by
  cases zs with
  | nil =>
    obtain rfl : n = 0 := by simpa using hn.symm
    exact least_none A cap w
  | cons z r =>
    obtain ⟨b, off, rfl, _⟩ := id hz (by simp)
    obtain rfl : n = r.length + 1 := by simpa using hn.symm
    exact least_some b off cap z r w hz hm hcap
/-- THE REFERENCE's Least. -/
theorem RefLeast_any (A : Option Addr) (n cap : Nat) (zs : List Int) (w : World) (hz : Nums w A zs) (hn : zs.length = n) (hm : n ≤ 9223372036854775807) :
    Calls Try.prog 8 #[.slice A n cap] w fun e w' => e = .returned (.tuple #[.int .u64 (lst zs), .bool (!zs.isEmpty)]) ∧ w = w' := by
  subst hn
  exact refLeast_any A cap zs w hz hm
end Go.Proofs.Ytmedkmlokkiefaa
