/- The walk of awake: the program computes at all. -/
import Derived.Test.YtclbndfoljmakaaGet
namespace Go.Proofs.Ytclbndfoljmakaa
open Go.RowKit Law

theorem put300 (w : World) : Calls Try.prog 7 #[.int .u64 300] w fun e w' => e = .returned (.string ⟨#[249, 1, 44]⟩) ∧ Below w.heap.size w w' := put_any 300 w (by omega)
theorem get300 (w : World) : Calls Try.prog 9 #[.string ⟨#[120, 249, 1, 44]⟩, .int .i64 1] w fun e w' => e = .returned (.tuple #[.int .u64 300, .int .i64 4, .int .i64 0]) ∧ w = w' :=
  get_any ⟨#[120, 249, 1, 44]⟩ 1 w (by decide)

set_option maxHeartbeats 400000 in
theorem awake_any (w : World) : Calls Try.prog 8 #[] w fun e w' => e = .returned (.bool true) ∧ Below w.heap.size w w' := by
  go_enter Try.func8, Try.ntmps8
  go_wp2_with fail
  refine (put300 _).mono ?_
  rintro e w1 ⟨rfl, hB1⟩
  go_wp2_with fail
  refine (get300 _).mono ?_
  rintro e w2 ⟨rfl, rfl⟩
  go_wp2_with fail
  refine (put300 _).mono ?_
  rintro e w2 ⟨rfl, hB⟩
  have hB2 := hB1.trans (hB.mono hB1.size)
  clear hB hB1
  go_wp2
  go_ret
  exact ⟨rfl, hB2⟩
end Go.Proofs.Ytclbndfoljmakaa
