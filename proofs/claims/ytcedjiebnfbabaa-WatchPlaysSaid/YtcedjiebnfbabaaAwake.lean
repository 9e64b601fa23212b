/- The walk of awake; one that nobody made. -/
import Derived.Test.YtcedjiebnfbabaaMeth
namespace Go.Proofs.Ytcedjiebnfbabaa
open Go.RowKit

/-- Behind k ticks, of which one number was heard of each time. -/
def aw (k : Nat) : St := ⟨k, 0, k, k, k⟩
theorem aw_ok (k : Nat) (h : k ≤ 6) : (aw k).Ok := ⟨by unfold aw; simp; omega, by unfold aw; simp, by unfold aw; simp; omega, by unfold aw; simp; omega, by unfold aw; simp; omega⟩
theorem aw_step (k : Nat) (h : k < 6) : ((aw k).tk.zero 1) = aw (k + 1) := by
  have e : up (k : Int) = ((k + 1 : Nat) : Int) := by unfold up; omega
  unfold aw St.tk St.zero
  simp only [e]
  simp

theorem late6 (g : Nat) (w : World) (hb : Blk w g 45 (wcs (aw 6))) : Calls Try.prog 12 #[.pointer (some ⟨g, 0, none⟩)] w fun e w' => ∃ A cap, e = .returned (.slice A 3 cap) ∧ Below w.heap.size w w' :=
  (late_any g (aw 6) w hb).mono fun e w' ⟨v, he, hown, hB⟩ => by
    have hown' : w'.ownsRow w.heap.size 3 1 v 3 [.int .i64 0, .int .i64 2, .int .i64 3] := hown
    obtain ⟨b, cap, rfl, _, _⟩ := World.ownsRow.form hown' (by omega)
    exact ⟨_, _, he, hB⟩

set_option maxHeartbeats 1000000 in
theorem awake_any (w : World) : Calls Try.prog 16 #[] w fun e w' => e = .returned (.bool true) ∧ Below w.heap.size w w' := by
  go_enter Try.func16, Try.ntmps16
  go_wp2_with fail
  refine (new_any _).mono ?_
  rintro e w1 ⟨rfl, hw1⟩
  have hb0 : Blk w1 w.heap.size 45 (wcs (aw 0)) := by rw [hw1]; exact Blk.new _ _ _
  have hB0 : Below w.heap.size w w1 := by rw [hw1]; exact (Below.refl _ _).alloc (Nat.le_refl _) _
  clear hw1
  have H0 := Lib.hid hb0
  have H1 := Lib.hid hB0
  clear hb0 hB0
  go_wp2
  go_loopw [2] (fun i wr => ∃ k : Nat, k ≤ 6 ∧ i = .int .i64 (k : Int) ∧ Blk wr w.heap.size 45 (wcs (aw k)) ∧ Below w.heap.size w wr) (fun i _ => 6 - (intOf i).toNat)
  case atStart => exact ⟨0, by omega, rfl, H0.out, H1.out⟩
  case round =>
    obtain ⟨k, hk, rfl, hblk, hB⟩ := hrel
    have H2 := Lib.hid hblk
    have H3 := Lib.hid hB
    clear hblk hB
    by_cases hlt : k < 6
    · go_wp2_with fail
      refine (tick_any _ (aw k) _ H2.out (aw_ok k hk)).mono ?_
      rintro e w2 ⟨rfl, hb2, hg2⟩
      have H4 := Lib.hid hb2
      have H5 := Lib.hid (H3.out.grown hg2 H3.out.size (fun j hj => by cases hj; exact Nat.le_refl _))
      clear hb2 hg2
      go_wp2_with fail
      refine (heard_yes _ 1 _ _ H4.out (by omega)).mono ?_
      rintro e w3 ⟨rfl, hb3, hg3⟩
      rw [aw_step k hlt] at hb3
      have H6 := Lib.hid hb3
      have H7 := Lib.hid (H5.out.grown hg3 H5.out.size (fun j hj => by cases hj; exact Nat.le_refl _))
      clear hb3 hg3
      go_wp2
      go_roundw
      case rel => first | exact ⟨k + 1, by omega, by go_num, H6.out, H7.out⟩ | ((repeat apply Exists.intro); exact ⟨⟨k + 1, by omega, by go_num, H6.out, H7.out⟩, rfl⟩)
      case measure => simp [intOf]; omega
    · obtain rfl : k = 6 := by omega
      go_wp2_with fail
      refine (late6 _ _ H2.out).mono ?_
      rintro e w2 ⟨A, cap, rfl, hB2⟩
      have H4 := Lib.hid (H2.out.below hB2 H2.out.lt)
      have H5 := Lib.hid (H3.out.trans (hB2.mono H3.out.size))
      clear hB2
      go_wp2_with fail
      refine (count_yes _ 1 (aw 6) _ H4.out (by omega)).mono ?_
      rintro e w3 ⟨rfl, rfl⟩
      go_wp2_with fail
      refine (count_yes _ 0 (aw 6) _ H4.out (by omega)).mono ?_
      rintro e w3 ⟨rfl, rfl⟩
      go_wp2
      go_ret
      exact ⟨rfl, H5.out⟩
end Go.Proofs.Ytcedjiebnfbabaa
