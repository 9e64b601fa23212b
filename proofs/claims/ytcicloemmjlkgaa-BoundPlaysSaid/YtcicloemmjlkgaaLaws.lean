/- The walks of layer 20's laws. -/
import Derived.Test.YtcicloemmjlkgaaMark
namespace Go.Proofs.Ytcicloemmjlkgaa
open Go.RowKit Law

theorem chk12 (w : World) : Calls Try.prog 5 #[.int .u64 5, .int .u64 4, .int .u64 0] w fun e w' => e = .returned (.int .i64 12) ∧ Below w.heap.size w w' := check_any 5 4 0 w
theorem chk13 (w : World) : Calls Try.prog 5 #[.int .u64 3, .int .u64 4, .int .u64 4] w fun e w' => e = .returned (.int .i64 13) ∧ Below w.heap.size w w' := check_any 3 4 4 w
theorem chk00 (w : World) : Calls Try.prog 5 #[.int .u64 4, .int .u64 4, .int .u64 4] w fun e w' => e = .returned (.int .i64 0) ∧ Below w.heap.size w w' := check_any 4 4 4 w
def two : List Ent := [⟨0, 0, none, 0, [], 3⟩, ⟨0, 0, none, 0, [], 5⟩]
theorem ents_two (w : World) : Ents (w.alloc (.cells #[.int .i64 0, .int .i64 0, .slice none 0 0, .int .u64 3, .int .i64 0, .int .i64 0, .slice none 0 0, .int .u64 5] 46)) (some ⟨w.heap.size, 0, none⟩) two := fun _ =>
  ⟨_, 0, rfl, by simp, fun i hi => by
    rw [World.cell?_alloc_at _ _ _ _ rfl, World.cell?_alloc_at _ _ _ _ rfl, World.cell?_alloc_at _ _ _ _ rfl, World.cell?_alloc_at _ _ _ _ rfl]
    match i, hi with
    | 0, _ => exact ⟨⟨rfl, rfl, rfl, rfl⟩, fun h => absurd rfl h⟩
    | 1, _ => exact ⟨⟨rfl, rfl, rfl, rfl⟩, fun h => absurd rfl h⟩⟩
theorem mark3 (w : World) : Calls Try.prog 9 #[.slice (some ⟨w.heap.size, 0, none⟩) 2 2, .int .i64 1] (w.alloc (.cells #[.int .i64 0, .int .i64 0, .slice none 0 0, .int .u64 3, .int .i64 0, .int .i64 0, .slice none 0 0, .int .u64 5] 46)) fun e w' =>
    e = .returned (.int .u64 3) ∧ Below w.heap.size w w' := by
  refine (mark_any 1 _ 2 2 two _ (ents_two w) rfl (by omega)).mono ?_
  rintro e w' ⟨rfl, h⟩
  exact ⟨rfl, ((Below.refl _ _).alloc (Nat.le_refl _) _).trans (h.mono (by simp))⟩

set_option maxHeartbeats 400000 in
theorem awake_any (w : World) : Calls Try.prog 8 #[] w fun e w' => e = .returned (.bool true) ∧ Below w.heap.size w w' := by
  go_enter Try.func8, Try.ntmps8
  go_wp2_with fail
  refine (chk12 _).mono ?_
  rintro e w1 ⟨rfl, hB1⟩
  go_wp2_with fail
  refine (chk13 _).mono ?_
  rintro e w2 ⟨rfl, hB⟩
  have hB2 := hB1.trans (hB.mono hB1.size)
  clear hB hB1
  go_wp2_with fail
  refine (chk00 _).mono ?_
  rintro e w3 ⟨rfl, hB⟩
  have hB3 := hB2.trans (hB.mono hB2.size)
  clear hB hB2
  go_wp2_with fail
  refine (mark3 _).mono ?_
  rintro e w4 ⟨rfl, hB⟩
  have hB4 := hB3.trans (hB.mono hB3.size)
  clear hB hB3
  go_wp2
  go_ret
  exact ⟨rfl, hB4⟩

set_option maxHeartbeats 400000 in
theorem plays_any (s t m h : Int) (A : Option Addr) (n cap : Nat) (es : List Ent) (w : World) (hE : Ents w A es) (hn : es.length = n) (hm : n ≤ 9223372036854775807) :
    Calls Try.prog 4 #[.slice A n cap, .int .i64 s, .int .u64 t, .int .u64 m, .int .u64 h] w fun e w' => e = .returned (.bool true) ∧ Below w.heap.size w w' := by
  have HN := Lib.hid hn
  clear hn
  go_enter Try.func4, Try.ntmps4
  go_wp2_with fail
  refine (much_any A n cap es _ hE HN.out hm).mono ?_
  rintro e w1 ⟨v, rfl, rfl⟩
  by_cases hv : 200 < v
  · go_wp2_with (go_at_call 8; refine (awake_any _).mono ?_; rintro e w1 ⟨rfl, hB⟩)
    go_ret
    exact ⟨rfl, hB⟩
  · go_wp2_with fail
    refine (latest_any m h _).mono ?_
    rintro e w1 ⟨rfl, hB1⟩
    go_wp2_with fail
    refine (refLatest_any m h _).mono ?_
    rintro e w2 ⟨rfl, rfl⟩
    go_wp2_with fail
    refine (mark_any s A n cap es _ (hE.below hB1) HN.out hm).mono ?_
    rintro e w2 ⟨rfl, hB⟩
    have hB2 := hB1.trans (hB.mono hB1.size)
    clear hB hB1
    go_wp2_with fail
    refine (refMark_any s A n cap es _ (hE.below hB2) HN.out hm).mono ?_
    rintro e w3 ⟨rfl, hB⟩
    have hB3 := hB2.trans (hB.mono hB2.size)
    clear hB hB2
    go_wp2_with fail
    refine (check_any t m h _).mono ?_
    rintro e w4 ⟨rfl, hB⟩
    have hB4 := hB3.trans (hB.mono hB3.size)
    clear hB hB3
    go_wp2_with fail
    refine (refCheck_any t m h _).mono ?_
    rintro e w5 ⟨rfl, rfl⟩
    go_wp2_with fail
    refine (awake_any _).mono ?_
    rintro e w6 ⟨rfl, hB⟩
    have hB6 := hB4.trans (hB.mono hB4.size)
    clear hB hB4
    go_wp2
    go_ret
    exact ⟨rfl, hB6⟩
end Go.Proofs.Ytcicloemmjlkgaa
