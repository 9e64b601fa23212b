/- The walk of AgreeNever. -/
import Derived.Test.YtmedkmlokkiefaaAwake
namespace Go.Proofs.Ytmedkmlokkiefaa
open Go.RowKit Law

set_option maxHeartbeats 400000 in
theorem never_much (old : Int) (A A' : Option Addr) (n cap n' cap' : Nat) (w : World) (h : 60 < n ∨ 60 < n') (hm : n ≤ 9223372036854775807) (hm' : n' ≤ 9223372036854775807) :
    Calls Try.prog 4 #[.int .u64 old, .slice A n cap, .slice A' n' cap'] w fun e w' => e = .returned (.bool true) ∧ Below w.heap.size w w' := by
  by_cases h1 : 60 < n
  · go_enter Try.func4, Try.ntmps4
    go_wp2_with (go_at_call 6; refine (awake_any _).mono ?_; rintro e w1 ⟨rfl, hB⟩)
    go_ret
    exact ⟨rfl, hB⟩
  · have h2 : 60 < n' := by omega
    go_enter Try.func4, Try.ntmps4
    go_wp2_with (go_at_call 6; refine (awake_any _).mono ?_; rintro e w1 ⟨rfl, hB⟩)
    go_ret
    exact ⟨rfl, hB⟩

set_option maxHeartbeats 1000000 in
theorem never_few (old : Int) (A A' : Option Addr) (cap cap' : Nat) (zs : List Int) (ps : List (Int × Int × Int)) (w : World) (hz : Nums w A zs) (hcap : zs.length ≤ cap) (hmax : cap ≤ 9223372036854775807)
    (hp : Pins w A' ps) (h0 : ∀ x ∈ zs, 0 ≤ x) (h1 : lst zs < 18446744073709551616) (h60 : zs.length ≤ 60) (h60' : ps.length ≤ 60) :
    Calls Try.prog 4 #[.int .u64 old, .slice A zs.length cap, .slice A' ps.length cap'] w fun e w' => e = .returned (.bool true) ∧ Below w.heap.size w w' := by
  have hn := lst_nonneg zs h0
  have hge := le_hor old zs (ats ps)
  have hmk : ∀ k, (h : k < zs.length) → zs[k] < hor old zs (ats ps) → hor old zs (ats ps) = old := fun k h hl => hor_mark old zs (ats ps) _ (List.getElem_mem h) h0 hl
  have hpn : ∀ k, (h : k < ps.length) → ps[k].2.1 < hor old zs (ats ps) → hor old zs (ats ps) = old := fun k h hl => hor_pin old zs (ats ps) _ (by rw [ats, List.mem_map]; exact ⟨_, List.getElem_mem h, rfl⟩) hl
  have hcall := fun w (hz : Nums w A zs) (hp : Pins w A' ps) => Horizon_any old A A' zs.length cap ps.length cap' zs ps w hz rfl hcap hmax hp rfl (by omega) hn h1
  clear h0 hn h1
  generalize hor old zs (ats ps) = h at *
  have HC := Lib.hid hcall
  have HM := Lib.hid hmk
  have HP := Lib.hid hpn
  clear hcall hmk hpn
  go_enter Try.func4, Try.ntmps4
  go_wp2_with fail
  refine (HC.out _ hz hp).mono ?_
  rintro e w1 ⟨rfl, hB⟩
  have hz1 := hz.below hB
  have hp1 := hp.below hB
  clear hz hp
  go_wp2
  go_loop [8] (fun i => ∃ k : Nat, k ≤ zs.length ∧ i = .int .i64 k) (fun i => zs.length - (intOf i).toNat)
  case atStart => exact ⟨0, Nat.zero_le _, rfl⟩
  case round =>
    obtain ⟨k, hk, rfl⟩ := hrel
    by_cases hlt : k < zs.length
    · obtain ⟨b, off, rfl, hb, hc⟩ := hz1 (by rintro rfl; simp at hlt)
      have hck := hc k hlt
      have HMk := Lib.hid (HM.out k hlt)
      clear hc hz1 hp1
      by_cases hl : zs[k] < h
      · have hne : (h != old) = false := by simp [HMk.out hl]
        go_wp2
        go_round
        case rel => exact ⟨k + 1, by omega, by go_num⟩
        case measure => simp [intOf]; omega
      · go_wp2
        go_round
        case rel => exact ⟨k + 1, by omega, by go_num⟩
        case measure => simp [intOf]; omega
    · clear hz1
      go_wp2
      go_loop [9] (fun i => ∃ k : Nat, k ≤ ps.length ∧ i = .int .i64 k) (fun i => ps.length - (intOf i).toNat)
      case atStart => exact ⟨0, Nat.zero_le _, rfl⟩
      case round =>
        obtain ⟨j, hj, rfl⟩ := hrel
        by_cases hjt : j < ps.length
        · obtain ⟨b, off, rfl, hb, hc⟩ := hp1 (by rintro rfl; simp at hjt)
          obtain ⟨_, hck, _⟩ := hc j hjt
          have HPk := Lib.hid (HP.out j hjt)
          clear hc hp1
          by_cases hl : ps[j].2.1 < h
          · have hne : (h != old) = false := by simp [HPk.out hl]
            go_wp2
            go_round
            case rel => exact ⟨j + 1, by omega, by go_num⟩
            case measure => simp [intOf]; omega
          · go_wp2
            go_round
            case rel => exact ⟨j + 1, by omega, by go_num⟩
            case measure => simp [intOf]; omega
        · clear hp1
          go_wp2_with (go_at_call 6; refine (awake_any _).mono ?_; rintro e w2 ⟨rfl, hB2⟩)
          go_ret
          exact ⟨rfl, hB.trans (hB2.mono hB.size)⟩
end Go.Proofs.Ytmedkmlokkiefaa
