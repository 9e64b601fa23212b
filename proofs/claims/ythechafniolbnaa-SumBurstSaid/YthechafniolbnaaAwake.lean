/- The walks of the laws' awake, and of Add on a maker that nobody made. -/
import Derived.Test.YthechafniolbnaaAdd
namespace Go.Proofs.Ythechafniolbnaa
open Go.RowKit Crc

theorem new_made (w : World) : Calls Try.prog 10 #[] w fun e w' => e = .returned (.pointer (some ⟨w.heap.size, 0, none⟩)) ∧ Mk w' w.heap.size 0 ∧ Below w.heap.size w w' := by
  refine (new_any w).mono ?_
  rintro e w1 ⟨rfl, rfl⟩
  rw [← tbl_zero]
  exact ⟨rfl, .inl (Blk.new _ _ _), (Below.refl _ _).alloc (Nat.le_refl _) _⟩

theorem sum9 : sum (bl ⟨#[49, 50, 51, 52, 53, 54, 55, 56, 57]⟩) = 3421780262 := by decide +kernel
theorem crc9 : 4294967295 ^^^ crc (4294967295 ^^^ 0) (bl ⟨#[49, 50, 51, 52, 53, 54, 55, 56, 57]⟩) = 3421780262 := by decide +kernel

set_option maxHeartbeats 1000000 in
set_option maxRecDepth 100000 in
theorem awake_any (w : World) : Calls Try.prog 8 #[] w fun e w' => e = .returned (.bool true) ∧ Below w.heap.size w w' := by
  have H1 := Lib.hid (fun w => sum_any ⟨#[49, 50, 51, 52, 53, 54, 55, 56, 57]⟩ w (by decide))
  rw [sum9] at H1
  have H2 := Lib.hid (fun g w hm => add_any g 0 0 ⟨#[49, 50, 51, 52, 53, 54, 55, 56, 57]⟩ w hm (by decide) (by decide) (by decide))
  rw [crc9] at H2
  go_enter Try.func8, Try.ntmps8
  go_wp2_with fail
  refine (H1.out _).mono ?_
  rintro e w1 ⟨rfl, hB1⟩
  have K1 := Lib.hid hB1
  clear hB1
  go_wp2_with fail
  refine (new_made _).mono ?_
  rintro e w2 ⟨rfl, hM2, hB2⟩
  have K2 := Lib.hid (K1.out.trans (hB2.mono K1.out.size))
  have HM := Lib.hid hM2
  clear hB2 hM2
  go_wp2_with fail
  refine (H2.out _ _ HM.out).mono ?_
  rintro e w3 ⟨rfl, hB3, hG3⟩
  have K3 := Lib.hid (K2.out.grown hG3 K2.out.size (fun k hk => by cases hk; exact K1.out.size))
  clear hB3 hG3
  go_wp2
  go_ret
  exact ⟨rfl, K3.out⟩

theorem add_nil (c : Nat) (s : ByteArray) (w : World) : Calls Try.prog 12 #[.pointer none, .int .u32 c, .string s] w fun e w' => e = .returned (.int .u32 0) ∧ w' = w := by
  have h1 := none_nil w
  go_enter Try.func12, Try.ntmps12
  go_wp2_with fail
  refine h1.mono ?_
  rintro e w2 ⟨rfl, rfl⟩
  go_wp2
  go_ret
  exact ⟨rfl, rfl⟩
set_option maxRecDepth 100000 in
theorem add_zero (g : Nat) (c : Nat) (s : ByteArray) (w : World) (hm : w.cell? ⟨g, 260, none⟩ = some (.bool false)) : Calls Try.prog 12 #[.pointer (some ⟨g, 0, none⟩), .int .u32 c, .string s] w fun e w' => e = .returned (.int .u32 0) ∧ w' = w := by
  have h1 := none_made g false w hm
  rw [show (!false) = true from rfl] at h1
  go_enter Try.func12, Try.ntmps12
  go_wp2_with fail
  refine h1.mono ?_
  rintro e w2 ⟨rfl, rfl⟩
  go_wp2
  go_ret
  exact ⟨rfl, rfl⟩

set_option maxHeartbeats 1000000 in
set_option maxRecDepth 100000 in
/-- SumZero, walked. -/
theorem zero_true (c : Nat) (s : ByteArray) (w : World) : Calls Try.prog 7 #[.int .u32 c, .string s] w fun e w' => e = .returned (.bool true) ∧ Below w.heap.size w w' := by
  have hz : ∀ w, (zeroValue 53).run Try.prog w = .ok (.agg (mcs 0 0 (List.replicate 256 0) 0 false)) w := fun w => by kernel_rfl
  have hm : (mcs 0 0 (List.replicate 256 0) 0 false)[260]? = some (.bool false) := mcs_260 _ _ _ _ _ (by decide)
  generalize mcs 0 0 (List.replicate 256 0) 0 false = zc at *
  have hc : (w.alloc (.cells zc 53)).cell? ⟨w.heap.size, 260, none⟩ = some (.bool false) := ((Blk.new w 53 zc).cell 260).trans hm
  have HC := Lib.hid hc
  clear hc
  have HK := Lib.hid ((Below.refl w.heap.size w).alloc (Nat.le_refl _) (.cells zc 53))
  go_enter Try.func7, Try.ntmps7
  go_wp2_with fail
  refine (add_nil _ _ _).mono ?_
  rintro e w1 ⟨rfl, hw1⟩
  rw [← hw1] at HC HK
  clear hw1
  have hc := HC.out
  go_wp2_with fail
  refine (add_zero _ _ _ _ hc).mono ?_
  rintro e w2 ⟨rfl, rfl⟩
  go_wp2_with fail
  refine (used_nil _).mono ?_
  rintro e w3 ⟨rfl, rfl⟩
  go_wp2_with fail
  refine (used_zero _ _ hc).mono ?_
  rintro e w4 ⟨rfl, rfl⟩
  go_wp2_with fail
  refine (awake_any _).mono ?_
  rintro e w5 ⟨rfl, hB⟩
  have K5 := Lib.hid (HK.out.trans (hB.mono HK.out.size))
  clear hB
  go_wp2
  go_ret
  exact ⟨rfl, K5.out⟩
theorem zero_any (c : Int) (s : ByteArray) (w : World) (hc : 0 ≤ c ∧ c < 4294967296) : Calls Try.prog 7 #[.int .u32 c, .string s] w fun e w' => e = .returned (.bool true) ∧ Below w.heap.size w w' := by
  obtain ⟨k, rfl⟩ := Int.eq_ofNat_of_zero_le hc.1
  exact zero_true k s w
end Go.Proofs.Ythechafniolbnaa
