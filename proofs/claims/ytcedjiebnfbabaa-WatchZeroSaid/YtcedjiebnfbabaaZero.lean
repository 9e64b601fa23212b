/- The walk of WatchZero. -/
import Derived.Test.YtcedjiebnfbabaaAwake
namespace Go.Proofs.Ytcedjiebnfbabaa
open Go.RowKit

/-- One that nobody made: nil, or the zero value. -/
def Nobody (w : World) (p : Option Addr) : Prop := p = none ∨ ∃ g, p = some ⟨g, 0, none⟩ ∧ w.cell? ⟨g, 5, none⟩ = some (.bool false)

theorem heard_nobody (p : Option Addr) (id : Int) (w : World) (h : Nobody w p) : Calls Try.prog 9 #[.pointer p, .int .i64 id] w fun e w' => e = .returned (.bool false) ∧ w = w' := by
  rcases h with rfl | ⟨g, rfl, hm⟩
  all_goals
    go_enter Try.func9, Try.ntmps9
    go_wp2
    go_ret
    exact ⟨rfl, rfl⟩
theorem tick_nobody (p : Option Addr) (w : World) (h : Nobody w p) : Calls Try.prog 7 #[.pointer p] w fun e w' => e = .returned (.int .i64 0) ∧ w = w' := by
  rcases h with rfl | ⟨g, rfl, hm⟩
  all_goals
    go_enter Try.func7, Try.ntmps7
    go_wp2
    go_ret
    exact ⟨rfl, rfl⟩
theorem late_nobody (p : Option Addr) (w : World) (h : Nobody w p) : Calls Try.prog 12 #[.pointer p] w fun e w' => e = .returned (.slice none 0 0) ∧ w = w' := by
  rcases h with rfl | ⟨g, rfl, hm⟩
  all_goals
    go_enter Try.func12, Try.ntmps12
    go_wp2
    go_ret
    exact ⟨rfl, rfl⟩
theorem count_nobody (p : Option Addr) (id : Int) (w : World) (h : Nobody w p) : Calls Try.prog 14 #[.pointer p, .int .i64 id] w fun e w' => e = .returned (.int .i64 (-1)) ∧ w = w' := by
  rcases h with rfl | ⟨g, rfl, hm⟩
  all_goals
    go_enter Try.func14, Try.ntmps14
    go_wp2
    go_ret
    exact ⟨rfl, rfl⟩

set_option maxHeartbeats 1000000 in
theorem zero_any (id : Int) (w : World) : Calls Try.prog 5 #[.int .i64 id] w fun e w' => e = .returned (.bool true) ∧ Below w.heap.size w w' := by
  have hB : ∀ cs, Below w.heap.size w (w.alloc (.cells cs 45)) := fun cs => (Below.refl _ _).alloc (Nat.le_refl _) _
  have HB := Lib.hid hB
  clear hB
  have hn : ∀ W, Nobody W none := fun _ => .inl rfl
  have hz : Nobody (w.alloc (.cells #[.int .i64 0, .int .i64 0, .int .i64 0, .int .i64 0, .int .i64 0, .bool false] 45)) (some ⟨w.heap.size, 0, none⟩) := .inr ⟨_, rfl, World.cell?_alloc_at _ _ _ _ rfl⟩
  have HN := Lib.hid hn
  have HZ := Lib.hid hz
  clear hn hz
  go_enter Try.func5, Try.ntmps5
  go_wp2_with fail
  refine (heard_nobody _ _ _ (HN.out _)).mono ?_
  rintro e w1 ⟨rfl, rfl⟩
  go_wp2_with fail
  refine (heard_nobody _ _ _ HZ.out).mono ?_
  rintro e w1 ⟨rfl, rfl⟩
  go_wp2_with fail
  refine (tick_nobody _ _ (HN.out _)).mono ?_
  rintro e w1 ⟨rfl, rfl⟩
  go_wp2_with fail
  refine (tick_nobody _ _ HZ.out).mono ?_
  rintro e w1 ⟨rfl, rfl⟩
  go_wp2_with fail
  refine (late_nobody _ _ (HN.out _)).mono ?_
  rintro e w1 ⟨rfl, rfl⟩
  go_wp2_with fail
  refine (late_nobody _ _ HZ.out).mono ?_
  rintro e w1 ⟨rfl, rfl⟩
  go_wp2_with fail
  refine (count_nobody _ _ _ (HN.out _)).mono ?_
  rintro e w1 ⟨rfl, rfl⟩
  go_wp2_with fail
  refine (count_nobody _ _ _ HZ.out).mono ?_
  rintro e w1 ⟨rfl, rfl⟩
  go_wp2_with fail
  refine (awake_any _).mono ?_
  rintro e w1 ⟨rfl, hB1⟩
  have H1 := Lib.hid ((HB.out _).trans (hB1.mono (HB.out _).size))
  clear hB1
  go_wp2
  go_ret
  exact ⟨rfl, H1.out⟩
end Go.Proofs.Ytcedjiebnfbabaa
