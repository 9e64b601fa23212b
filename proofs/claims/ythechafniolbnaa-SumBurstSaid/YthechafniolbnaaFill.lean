/- The walk of a maker's fill: the table of all bytes. -/
import Derived.Test.YthechafniolbnaaParts
import Derived.StillTailTactics
namespace Go.Proofs.Ythechafniolbnaa
open Go.RowKit Crc

/-- The table as far as it is made. -/
def tbl (k : Nat) : List Int := (List.range 256).map fun i => if i < k then ((Tn 8 i : Nat) : Int) else 0
theorem tbl_length (k : Nat) : (tbl k).length = 256 := by simp [tbl]
theorem tbl_get (k i : Nat) (hi : i < 256) : (tbl k)[i]? = some (if i < k then ((Tn 8 i : Nat) : Int) else 0) := by
  unfold tbl
  rw [List.getElem?_map, List.getElem?_range hi]; rfl
set_option maxRecDepth 100000 in
theorem tbl_zero : tbl 0 = List.replicate 256 0 := by
  apply List.ext_getElem
  · rw [tbl_length, List.length_replicate]
  · intro i h1 h2
    rw [List.getElem_replicate]
    have h := tbl_get 0 i (by rw [← tbl_length 0]; exact h1)
    rw [List.getElem?_eq_getElem h1] at h
    exact Option.some.inj h
theorem tbl_set (k : Nat) (hk : k < 256) : (tbl k).set k ((Tn 8 k : Nat) : Int) = tbl (k + 1) := by
  apply List.ext_getElem?
  intro i
  by_cases hi : i < 256
  · rw [List.getElem?_set, tbl_get _ _ hi, tbl_get _ _ hi, tbl_length]
    by_cases h : k = i
    · subst h; simp [hk]
    · rw [if_neg h]; congr 1
      by_cases h2 : i < k
      · rw [if_pos h2, if_pos (by omega)]
      · rw [if_neg h2, if_neg (by omega)]
  · rw [List.getElem?_eq_none (by simp [tbl_length]; omega), List.getElem?_eq_none (by simp [tbl_length]; omega)]
theorem mcs_table (d st : Int) (t : List Int) (u : Int) (m : Bool) (ht : t.length = 256) (i : Nat) (hi : i < 256) : (mcs d st t u m)[3 + i]? = (t[i]?).map (Value.int .u32) := by
  unfold mcs
  rw [List.getElem?_toArray, List.getElem?_append_left (by simp; omega), List.getElem?_append_right (by simp)]
  simp
theorem mcs_put (d st : Int) (t : List Int) (u : Int) (m : Bool) (ht : t.length = 256) (i : Nat) (hi : i < 256) (v : Int) : (mcs d st t u m).setIfInBounds (3 + i) (.int .u32 v) = mcs d st (t.set i v) u m := by
  unfold mcs
  rw [List.setIfInBounds_toArray, List.set_append_left _ _ (by simp; omega), List.set_append_right _ _ (by simp)]
  simp [List.map_set]
theorem mcs_done (d d' st : Int) (t : List Int) (u : Int) (m : Bool) : (mcs d st t u m).setIfInBounds 0 (.int .u32 d') = mcs d' st t u m := by simp [mcs]
theorem mcs_state (d st st' : Int) (t : List Int) (u : Int) (m : Bool) : (mcs d st t u m).setIfInBounds 1 (.int .i32 st') = mcs d st' t u m := by simp [mcs]
theorem mcs_used (d st : Int) (t : List Int) (u u' : Int) (m : Bool) (ht : t.length = 256) : (mcs d st t u m).setIfInBounds 259 (.int .i64 u') = mcs d st t u' m := by
  unfold mcs
  rw [List.setIfInBounds_toArray, List.set_append_right _ _ (by simp; omega)]
  simp [ht]
theorem mcs_0 (d st : Int) (t : List Int) (u : Int) (m : Bool) : (mcs d st t u m)[0]? = some (.int .u32 d) := by simp [mcs]
theorem mcs_1 (d st : Int) (t : List Int) (u : Int) (m : Bool) : (mcs d st t u m)[1]? = some (.int .i32 st) := by simp [mcs]
theorem mcs_259 (d st : Int) (t : List Int) (u : Int) (m : Bool) (ht : t.length = 256) : (mcs d st t u m)[259]? = some (.int .i64 u) := by
  unfold mcs
  rw [List.getElem?_toArray, List.getElem?_append_right (by simp; omega)]
  simp [ht]
theorem mcs_260 (d st : Int) (t : List Int) (u : Int) (m : Bool) (ht : t.length = 256) : (mcs d st t u m)[260]? = some (.bool m) := by
  unfold mcs
  rw [List.getElem?_toArray, List.getElem?_append_right (by simp; omega)]
  simp [ht]

set_option maxHeartbeats 1000000 in
set_option maxRecDepth 100000 in
theorem fill_any (g : Nat) (d st u : Int) (w : World) (hb : Blk w g 53 (mcs d st (tbl 0) u true)) :
    Calls Try.prog 19 #[.pointer (some ⟨g, 0, none⟩)] w fun e w' => e = .returned (.tuple #[]) ∧ Blk w' g 53 (mcs d st (tbl 256) u true) ∧ w.grownBy w' (some g) := by
  have HB := Lib.hid hb
  clear hb
  go_enter Try.func19, Try.ntmps19
  go_wp2
  go_loopw [3] (fun i wr => ∃ k : Nat, k ≤ 256 ∧ i = .int .i64 (k : Int) ∧ Blk wr g 53 (mcs d st (tbl k) u true) ∧ w.grownBy wr (some g)) (fun i _ => 256 - (intOf i).toNat)
  case atStart => exact ⟨0, by omega, rfl, HB.out, World.grownBy.refl _ _⟩
  case round =>
    obtain ⟨k, hk, rfl, hb, hG⟩ := hrel
    by_cases hk8 : k < 256
    · have hc := hb.cell (3 + k)
      rw [mcs_table d st (tbl k) u true (tbl_length k) k hk8, tbl_get k k hk8] at hc
      have hz := hb.frozen (3 + k)
      have hb : Blk wr.drew g 53 (mcs d st (tbl k) u true) := hb
      have hG : w.grownBy wr.drew (some g) := only_drewN hG 1
      have H2 := Lib.hid (hb.set_ (3 + k) (.int .u32 ((Tn 8 k : Nat) : Int)))
      have H3 := Lib.hid (only_setCell hG (3 + k) (.int .u32 ((Tn 8 k : Nat) : Int)))
      clear hb hG
      have hst : ∀ w, Calls Try.prog 24 #[.int .u32 (k : Int)] w fun e w' => e = .returned (.int .u32 ((Tn 8 k : Nat) : Int)) ∧ w' = w := fun w => (step_any k w (by omega)).mono (fun e w' h => ⟨h.1, h.2.symm⟩)
      have hkm : IntKind.wrap .u32 ((k : Nat) : Int) = (k : Int) := IntWalk.u32_in _ (by omega)
      generalize hv : Tn 8 k = v at *
      have HV := Lib.hid hv.symm
      clear hv
      go_wp2_with fail
      go_still_tail 8, (by kernel_rfl)
      still_call (hst _)
      repeat still_step
      refine wpStill_nil ?_
      change wpList _ _ _ _ _ wr.drew
      go_wp2
      go_roundw
      case rel => exact ⟨k + 1, by omega, by go_num, by have h := H2.out; rw [mcs_put d st (tbl k) u true (tbl_length k) k hk8, HV.out, tbl_set k hk8, ← HV.out] at h; exact h, H3.out⟩
      case measure => simp [intOf]; omega
    · obtain rfl : k = 256 := by omega
      have H2 := Lib.hid hb
      have H3 := Lib.hid hG
      clear hb hG
      go_wp2
      go_end0
      exact ⟨rfl, H2.out, H3.out⟩
end Go.Proofs.Ythechafniolbnaa
