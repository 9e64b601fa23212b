/- The walk of AgreePlays. -/
import Derived.Test.YtmedkmlokkiefaaAwake
namespace Go.Proofs.Ytmedkmlokkiefaa
open Go.RowKit Law

set_option maxHeartbeats 400000 in
theorem plays_much (old : Int) (A A' : Option Addr) (n cap n' cap' : Nat) (w : World) (h : 60 < n ∨ 60 < n') (hm : n ≤ 9223372036854775807) (hm' : n' ≤ 9223372036854775807) :
    Calls Try.prog 3 #[.int .u64 old, .slice A n cap, .slice A' n' cap'] w fun e w' => e = .returned (.bool true) ∧ Below w.heap.size w w' := by
  by_cases h1 : 60 < n
  · go_enter Try.func3, Try.ntmps3
    go_wp2_with (go_at_call 6; refine (awake_any _).mono ?_; rintro e w1 ⟨rfl, hB⟩)
    go_ret
    exact ⟨rfl, hB⟩
  · have h2 : 60 < n' := by omega
    go_enter Try.func3, Try.ntmps3
    go_wp2_with (go_at_call 6; refine (awake_any _).mono ?_; rintro e w1 ⟨rfl, hB⟩)
    go_ret
    exact ⟨rfl, hB⟩

set_option maxHeartbeats 400000 in
theorem plays_few (old : Int) (A A' : Option Addr) (n cap n' cap' : Nat) (zs : List Int) (ps : List (Int × Int × Int)) (w : World) (hz : Nums w A zs) (hn : zs.length = n) (hcap : n ≤ cap) (hmax : cap ≤ 9223372036854775807)
    (hp : Pins w A' ps) (hn' : ps.length = n') (h0 : 0 ≤ lst zs) (h1 : lst zs < 18446744073709551616) (h60 : n ≤ 60) (h60' : n' ≤ 60) :
    Calls Try.prog 3 #[.int .u64 old, .slice A n cap, .slice A' n' cap'] w fun e w' => e = .returned (.bool true) ∧ Below w.heap.size w w' := by
  have HN := Lib.hid hn
  have HN' := Lib.hid hn'
  clear hn hn'
  go_enter Try.func3, Try.ntmps3
  go_wp2_with fail
  refine (Least_any A n cap zs _ hz HN.out hcap hmax).mono ?_
  rintro e w1 ⟨rfl, m, rfl⟩
  have hB1 : Below w.heap.size w (w.drewN m) := below_drewN (Below.refl _ _) m
  generalize w.drewN m = w1 at *
  go_wp2_with fail
  refine (RefLeast_any A n cap zs _ (hz.below hB1) HN.out (by omega)).mono ?_
  rintro e w2 ⟨rfl, rfl⟩
  go_wp2_with fail
  refine (Horizon_any old A A' n cap n' cap' zs ps _ (hz.below hB1) HN.out hcap hmax (hp.below hB1) HN'.out (by omega) h0 h1).mono ?_
  rintro e w2 ⟨rfl, hB⟩
  have hB2 : Below w.heap.size w w2 := hB1.trans (hB.mono hB1.size)
  clear hB hB1
  go_wp2_with fail
  refine (RefHorizon_any old A A' n cap n' cap' zs ps _ (hz.below hB2) HN.out (by omega) (hp.below hB2) HN'.out (by omega) h0 h1).mono ?_
  rintro e w3 ⟨rfl, rfl⟩
  go_wp2_with fail
  refine (awake_any _).mono ?_
  rintro e w3 ⟨rfl, hB⟩
  have hB3 : Below w.heap.size w w3 := hB2.trans (hB.mono hB2.size)
  clear hB hB2
  go_wp2
  go_ret
  exact ⟨rfl, hB3⟩
end Go.Proofs.Ytmedkmlokkiefaa
