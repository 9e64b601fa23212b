/- The walk of the program's Horizon. -/
import Derived.Test.YtmedkmlokkiefaaLeast2
import Derived.Maps.AppendAt
import Derived.OwnWalk
import Derived.Laws.Bits64
import Derived.Deep.DeepMust
namespace Go.Proofs.Ytmedkmlokkiefaa
open Go.RowKit Law

theorem Try.info22 : (Try.prog.info? 22).map (fun i => (i.zero, i.size, i.bytes)) = some (some (.int .u64 0), 1, 8) := by kernel_rfl

theorem horizon_none (old : Int) (A A' : Option Addr) (cap n cap' : Nat) (w : World) :
    Calls Try.prog 9 #[.int .u64 old, .slice A 0 cap, .slice A' n cap'] w fun e w' => e = .returned (.int .u64 old) ∧ Below w.heap.size w w' := by
  go_enter Try.func9, Try.ntmps9
  go_wp2_with fail
  refine (least_none A cap _).mono ?_
  rintro e w1 ⟨rfl, m, rfl⟩
  go_wp2
  go_ret
  exact ⟨rfl, below_drewN (Below.refl _ _) _⟩

/-- The pins' times. -/
abbrev ats (ps : List (Int × Int × Int)) : List Int := ps.map (·.2.1)

/-- The times of the first pins, as values. -/
def tv (ps : List (Int × Int × Int)) (k : Nat) : List Value := (ps.take k).map fun p => .int .u64 p.2.1
theorem tv_step (ps : List (Int × Int × Int)) (k : Nat) (hk : k < ps.length) : tv ps k ++ [.int .u64 ps[k].2.1] = tv ps (k + 1) := by
  unfold tv
  rw [List.take_succ_eq_append_getElem hk, List.map_append]
  rfl
/-- A row of the call's own reads as the times. -/
theorem own_nums {w : World} {base : Nat} {v : Value} {ps : List (Int × Int × Int)} (h : w.ownsRow base 22 1 v ps.length (tv ps ps.length)) : ∃ A cap, v = .slice A ps.length cap ∧ Nums w A (ats ps) := by
  have hb := h.lt
  have hc := fun g => h.cells (g := g)
  rcases h.2 with ⟨rfl, h0⟩ | ⟨g, cap, cur, rfl, h1, _⟩
  · refine ⟨none, 0, by rw [h0], fun hne => absurd ?_ hne⟩
    obtain rfl := List.eq_nil_of_length_eq_zero h0
    rfl
  · refine ⟨some ⟨g, 0, none⟩, cap, rfl, fun _ => ⟨g, 0, rfl, (hb g rfl).2, fun i hi => ?_⟩⟩
    have hi' : i < ps.length := by simpa using hi
    have := hc g rfl i (.int .u64 ps[i].2.1) (by simp [tv, hi'])
    simpa [Addr.add_lit, hi'] using this

set_option maxHeartbeats 400000 in
theorem horizon_some (old : Int) (A A' : Option Addr) (n cap n' cap' : Nat) (z : Int) (r : List Int) (ps : List (Int × Int × Int)) (w : World) (hz : Nums w A (z :: r)) (hn : (z :: r).length = n) (hcap : n ≤ cap) (hmax : cap ≤ 9223372036854775807)
    (hp : Pins w A' ps) (hn' : ps.length = n') (hreach : n' * 24 ≤ 140737488351232) (h0 : 0 ≤ lst (z :: r)) (h1 : lst (z :: r) < 18446744073709551616) :
    Calls Try.prog 9 #[.int .u64 old, .slice A n cap, .slice A' n' cap'] w fun e w' => e = .returned (.int .u64 (hor old (z :: r) (ats ps))) ∧ Below w.heap.size w w' := by
  obtain ⟨i0, hi, hz0, hz1, hz2⟩ := info_parts Try.info22
  subst hn'
  have HN := Lib.hid hn
  clear hn
  go_enter Try.func9, Try.ntmps9
  go_wp2_with fail
  refine (Least_any A n cap _ _ hz HN.out hcap hmax).mono ?_
  rintro e w1 ⟨rfl, m, rfl⟩
  go_wp2
  go_loopw [9, 22] (fun v i wr => ∃ k : Nat, k ≤ ps.length ∧ i = .int .i64 k ∧ wr.ownsRow w.heap.size 22 1 v k (tv ps k) ∧ Below w.heap.size w wr) (fun _ i _ => ps.length - (intOf i).toNat)
  case atStart => exact ⟨0, Nat.zero_le _, rfl, World.ownsRow_nil _ _ _ _, below_drewN (Below.refl _ _) _⟩
  case round =>
    obtain ⟨k, hk, rfl, hown, hB⟩ := hrel
    by_cases hlt : k < ps.length
    · obtain ⟨b, off, rfl, hb, hc⟩ := (hp.below hB) (by rintro rfl; simp at hlt)
      obtain ⟨c1, c2, c3⟩ := hc k hlt
      have hBs := hB.size
      clear hc hp hz
      go_wp2_with (at_builtin; go_must (refine wpList_append_own _ rfl _ _ 23 rfl w.heap.size 22 i0 (.int .u64 0) 1 8 Try.underlying23 hi hz0 hz1 hz2 rfl (by decide) _ _ _ rfl ((hown.alloc _).alloc _) ⟨wr.heap.size + 1, 0, none⟩ 1 1 [.int .u64 ps[k].2.1] rfl rfl ?c1 ?c2 ?c3 ?c4 ?c5 ?_))
      case c1 => simpa using cell_one_new (wr.alloc (.cells #[.int .i64 ps[k].1, .int .u64 ps[k].2.1, .int .i64 ps[k].2.2] 31)) (.int .u64 ps[k].2.1) 22
      case c2 => simp [Value.oneCell']
      case c3 => simp [maxLen]; omega
      case c4 => omega
      case c5 => simp; omega
      intro v' w1 hown' hgrow _
      rw [tv_step ps k hlt] at hown'
      have hB1 : Below w.heap.size w w1 := ((hB.alloc hBs _).alloc (by simp; omega) _).grown hgrow (by simp; omega) (fun j hj => (hown.lt j hj).1)
      clear hown hgrow hB
      go_wp2
      go_roundw
      case rel => exact ⟨k + 1, by omega, by go_num, hown', hB1⟩
      case measure => simp [intOf]; omega
    · obtain rfl : k = ps.length := by omega
      obtain ⟨A2, cap2, rfl, hN⟩ := own_nums hown
      clear hown
      have hf : ∀ x, x = lst (z :: r) - min (lst (z :: r)) 2 → (old ≤ low x (ats ps) → low x (ats ps) = hor old (z :: r) (ats ps)) ∧ (low x (ats ps) ≤ old → old = hor old (z :: r) (ats ps)) := by
        rintro x rfl
        rw [hor_of_ne _ _ _ (by simp)]
        omega
      have HF := Lib.hid hf
      clear hf
      by_cases h2 : 2 < lst (z :: r)
      all_goals
        go_wp2_with fail
        refine (least_at _ A2 ps.length cap2 (ats ps) _ hN (by simp) (by omega)).mono ?_
        rintro e w3 ⟨rfl, rfl⟩
        go_wp2
      · go_ret
        exact ⟨ret_u64 ((HF.out (lst (z :: r) - 2) (by omega)).1 (by omega)), hB⟩
      · go_ret
        exact ⟨ret_u64 ((HF.out (lst (z :: r) - 2) (by omega)).2 (by omega)), hB⟩
      · go_ret
        exact ⟨ret_u64 ((HF.out 0 (by omega)).1 (by omega)), hB⟩
      · go_ret
        exact ⟨ret_u64 ((HF.out 0 (by omega)).2 (by omega)), hB⟩

/-- THE PROGRAM's Horizon. -/
theorem Horizon_any (old : Int) (A A' : Option Addr) (n cap n' cap' : Nat) (zs : List Int) (ps : List (Int × Int × Int)) (w : World) (hz : Nums w A zs) (hn : zs.length = n) (hcap : n ≤ cap) (hmax : cap ≤ 9223372036854775807)
    (hp : Pins w A' ps) (hn' : ps.length = n') (hreach : n' * 24 ≤ 140737488351232) (h0 : 0 ≤ lst zs) (h1 : lst zs < 18446744073709551616) :
    Calls Try.prog 9 #[.int .u64 old, .slice A n cap, .slice A' n' cap'] w fun e w' => e = .returned (.int .u64 (hor old zs (ats ps))) ∧ Below w.heap.size w w' := by
  cases zs with
  | nil =>
    obtain rfl : n = 0 := by simpa using hn.symm
    exact horizon_none old A A' cap n' cap' w
  | cons z r => exact horizon_some old A A' n cap n' cap' z r ps w hz hn hcap hmax hp hn' hreach h0 h1
end Go.Proofs.Ytmedkmlokkiefaa
