/- The walks of layer 20: which times may be asked for. -/
import Derived.Test.YtcicloemmjlkgaaRight3
namespace Go.Proofs.Ytcicloemmjlkgaa
open Go.RowKit Law

/-- May it be asked at a time? -/
def chkT (t m h : Int) : Int := if m < t then 12 else if t < h then 13 else 0

theorem span_any (t m h : Int) (w : World) : Calls Try.prog 15 #[.agg #[.int .u64 h, .int .u64 m], .int .u64 t] w fun e w' => e = .returned (.int .i64 (chkT t m h)) ∧ Below w.heap.size w w' := by
  have hB := (Below.refl w.heap.size w).alloc (Nat.le_refl _) (.cells #[.int .u64 h, .int .u64 m] 41)
  by_cases h1 : m < t
  · rw [show chkT t m h = 12 by unfold chkT; rw [if_pos h1]]
    go_enter Try.func15, Try.ntmps15
    go_wp2
    go_ret
    exact ⟨rfl, hB⟩
  · by_cases h2 : t < h
    · rw [show chkT t m h = 13 by unfold chkT; rw [if_neg h1, if_pos h2]]
      go_enter Try.func15, Try.ntmps15
      go_wp2
      go_ret
      exact ⟨rfl, hB⟩
    · rw [show chkT t m h = 0 by unfold chkT; rw [if_neg h1, if_neg h2]]
      go_enter Try.func15, Try.ntmps15
      go_wp2
      go_ret
      exact ⟨rfl, hB⟩

theorem check_any (t m h : Int) (w : World) : Calls Try.prog 5 #[.int .u64 t, .int .u64 m, .int .u64 h] w fun e w' => e = .returned (.int .i64 (chkT t m h)) ∧ Below w.heap.size w w' := by
  go_enter Try.func5, Try.ntmps5
  go_wp2_with fail
  refine (span_any t m h _).mono ?_
  rintro e w1 ⟨rfl, hB⟩
  go_wp2
  go_ret
  exact ⟨rfl, hB⟩

theorem refCheck_any (t m h : Int) (w : World) : Calls Try.prog 14 #[.int .u64 t, .int .u64 m, .int .u64 h] w fun e w' => e = .returned (.int .i64 (chkT t m h)) ∧ w = w' := by
  by_cases h1 : m < t
  · rw [show chkT t m h = 12 by unfold chkT; rw [if_pos h1]]
    go_enter Try.func14, Try.ntmps14
    go_wp2
    go_ret
    exact ⟨rfl, rfl⟩
  · by_cases h2 : t < h
    · rw [show chkT t m h = 13 by unfold chkT; rw [if_neg h1, if_pos h2]]
      go_enter Try.func14, Try.ntmps14
      go_wp2
      go_ret
      exact ⟨rfl, rfl⟩
    · rw [show chkT t m h = 0 by unfold chkT; rw [if_neg h1, if_neg h2]]
      go_enter Try.func14, Try.ntmps14
      go_wp2
      go_ret
      exact ⟨rfl, rfl⟩

/-- The latest time. -/
def latT (m h : Int) : Int × Int := if m < h then (0, 13) else (m, 0)
theorem refLatest_any (m h : Int) (w : World) : Calls Try.prog 12 #[.int .u64 m, .int .u64 h] w fun e w' => e = .returned (.tuple #[.int .u64 (latT m h).1, .int .i64 (latT m h).2]) ∧ w = w' := by
  by_cases h1 : m < h
  · have e : chkT m m h = 13 := by unfold chkT; rw [if_neg (by omega), if_pos h1]
    have C := refCheck_any m m h w
    rw [e] at C
    have HC := Lib.hid C
    rw [show latT m h = (0, 13) by unfold latT; rw [if_pos h1]]
    clear e C
    go_enter Try.func12, Try.ntmps12
    go_wp2_with fail
    refine HC.out.mono ?_
    rintro e w1 ⟨rfl, rfl⟩
    go_wp2
    go_ret2
    exact ⟨rfl, rfl⟩
  · have e : chkT m m h = 0 := by unfold chkT; rw [if_neg (by omega), if_neg h1]
    have C := refCheck_any m m h w
    rw [e] at C
    have HC := Lib.hid C
    rw [show latT m h = (m, 0) by unfold latT; rw [if_neg h1]]
    clear e C
    go_enter Try.func12, Try.ntmps12
    go_wp2_with fail
    refine HC.out.mono ?_
    rintro e w1 ⟨rfl, rfl⟩
    go_wp2
    go_ret2
    exact ⟨rfl, rfl⟩

theorem latest_any (m h : Int) (w : World) : Calls Try.prog 11 #[.int .u64 m, .int .u64 h] w fun e w' => e = .returned (.tuple #[.int .u64 (latT m h).1, .int .i64 (latT m h).2]) ∧ Below w.heap.size w w' := by
  have hB := (Below.refl w.heap.size w).alloc (Nat.le_refl _) (.cells #[.int .u64 h, .int .u64 m] 41)
  by_cases h1 : m < h
  · rw [show latT m h = (0, 13) by unfold latT; rw [if_pos h1]]
    go_enter Try.func11, Try.ntmps11
    go_wp2
    go_ret2
    exact ⟨rfl, hB⟩
  · rw [show latT m h = (m, 0) by unfold latT; rw [if_neg h1]]
    go_enter Try.func11, Try.ntmps11
    go_wp2
    all_goals
      go_ret2
      exact ⟨rfl, hB⟩
end Go.Proofs.Ytcicloemmjlkgaa
