/- The walks of a maker's counter: Int64.Add, Int64.Load, Maker.Used. -/
import Derived.Test.YthechafniolbnaaOnce
namespace Go.Proofs.Ythechafniolbnaa
open Go.RowKit Crc

set_option maxRecDepth 100000 in
theorem bump (g : Nat) (u : Int) (w : World) (hc : w.cell? ⟨g, 259, none⟩ = some (.int .i64 u)) (hz : w.frozen? ⟨g, 259, none⟩ = false) (hu : IntKind.wrap .i64 (u + 1) = u + 1) :
    Calls Try.prog 17 #[.pointer (some ⟨g, 259, none⟩), .int .i64 1] w fun e w' => e = .returned (.int .i64 (u + 1)) ∧ w' = w.setCell ⟨g, 259, none⟩ (.int .i64 (u + 1)) := by
  have hadd := run_call_add (P := Try.prog) Try.func21 (by kernel_rfl) (by kernel_rfl) (by kernel_rfl) .i64 (by kernel_rfl) (y := 1) (s := u + 1) hc hz (by simp [go_sem, hu])
  go_enter Try.func17, Try.ntmps17
  go_wp2
  go_ret
  exact ⟨rfl, rfl⟩
set_option maxRecDepth 100000 in
theorem peek (g : Nat) (u : Int) (w : World) (hc : w.cell? ⟨g, 259, none⟩ = some (.int .i64 u)) :
    Calls Try.prog 20 #[.pointer (some ⟨g, 259, none⟩)] w fun e w' => e = .returned (.int .i64 u) ∧ w' = w := by
  have hl := run_call_load (P := Try.prog) Try.func25 (by kernel_rfl) (by kernel_rfl) (by kernel_rfl) .i64 (by kernel_rfl) hc
  go_enter Try.func20, Try.ntmps20
  go_wp2
  go_ret
  exact ⟨rfl, rfl⟩
theorem used_nil (w : World) : Calls Try.prog 14 #[.pointer none] w fun e w' => e = .returned (.int .i64 0) ∧ w' = w := by
  have h1 := none_nil w
  go_enter Try.func14, Try.ntmps14
  go_wp2_with fail
  refine h1.mono ?_
  rintro e w2 ⟨rfl, rfl⟩
  go_wp2
  go_ret
  exact ⟨rfl, rfl⟩
set_option maxRecDepth 100000 in
theorem used_zero (g : Nat) (w : World) (hm : w.cell? ⟨g, 260, none⟩ = some (.bool false)) : Calls Try.prog 14 #[.pointer (some ⟨g, 0, none⟩)] w fun e w' => e = .returned (.int .i64 0) ∧ w' = w := by
  have h1 := none_made g false w hm
  rw [show (!false) = true from rfl] at h1
  go_enter Try.func14, Try.ntmps14
  go_wp2_with fail
  refine h1.mono ?_
  rintro e w2 ⟨rfl, rfl⟩
  go_wp2
  go_ret
  exact ⟨rfl, rfl⟩
set_option maxRecDepth 100000 in
theorem used_any (g : Nat) (d st : Int) (t : List Int) (ht : t.length = 256) (u : Int) (w : World) (hb : Blk w g 53 (mcs d st t u true)) :
    Calls Try.prog 14 #[.pointer (some ⟨g, 0, none⟩)] w fun e w' => e = .returned (.int .i64 u) ∧ w' = w := by
  have h1 := none_made g true w ((hb.cell 260).trans (mcs_260 d st t u true ht))
  rw [show (!true) = false from rfl] at h1
  have h2 := (hb.cell 259).trans (mcs_259 d st t u true ht)
  clear hb
  go_enter Try.func14, Try.ntmps14
  go_wp2_with fail
  refine h1.mono ?_
  rintro e w2 ⟨rfl, rfl⟩
  clear h1
  go_wp2_with fail
  refine (peek g u _ h2).mono ?_
  rintro e w2 ⟨rfl, rfl⟩
  go_wp2
  go_ret
  exact ⟨rfl, rfl⟩
end Go.Proofs.Ythechafniolbnaa
