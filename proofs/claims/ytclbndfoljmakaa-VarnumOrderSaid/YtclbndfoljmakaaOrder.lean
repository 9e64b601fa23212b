/- The walk of VarnumOrder. -/
import Derived.Test.YtclbndfoljmakaaAwake
namespace Go.Proofs.Ytclbndfoljmakaa
open Go.RowKit Law

theorem ret_bool {x y : Bool} (h : x = y) : Ending.returned (.bool x) = .returned (.bool y) := by rw [h]
theorem less_lex (l r : List Nat) (hl : ∀ b ∈ l, b < 256) (hr : ∀ b ∈ r, b < 256) : Op.bytesLess (strOfNums (ints l)).data.toList (strOfNums (ints r)).data.toList = lexL l r := by
  rw [strOfNums_data, strOfNums_data, ints, ints, List.map_map, List.map_map]
  induction l generalizing r with
  | nil => cases r <;> rfl
  | cons a l ih =>
    cases r with
    | nil => rfl
    | cons b r =>
      have ha : a < 256 := hl a (by simp)
      have hb : b < 256 := hr b (by simp)
      have hi := ih r (fun x hx => hl x (by simp [hx])) (fun x hx => hr x (by simp [hx]))
      simp only [List.map_cons, Op.bytesLess, lexL, Function.comp, Int.toNat_natCast]
      rw [hi]
      have e1 : (UInt8.ofNat a < UInt8.ofNat b) = (a < b) := by
        rw [UInt8.lt_iff_toNat_lt]; simp [UInt8.toNat_ofNat', Nat.mod_eq_of_lt ha, Nat.mod_eq_of_lt hb]
      have e2 : (UInt8.ofNat a == UInt8.ofNat b) = (a == b) := by
        rw [Bool.eq_iff_iff]; simp only [beq_iff_eq]
        exact ⟨ofNat_inj ha hb, fun h => by rw [h]⟩
      rw [e2]
      simp only [e1]
      by_cases h1 : a < b
      · simp [h1]
      · by_cases h2 : b < a
        · have h3 : (a == b) = false := by simp; omega
          simp [h1, h2, h3]
        · have h3 : a = b := by omega
          simp [h3]

theorem less_put (a b : Nat) (ha : a < 18446744073709551616) (hb : b < 18446744073709551616) : Op.bytesLess (putS a).toList (putS b).toList = decide (a < b) := by
  rw [ByteArray.toList_eq, ByteArray.toList_eq]
  exact (less_lex _ _ (putL_lt a ha) (putL_lt b hb)).trans (lex_put a b ha hb)
theorem eq_put (a b : Nat) (ha : a < 18446744073709551616) (hb : b < 18446744073709551616) : ((putS a).toList == (putS b).toList) = decide (a = b) := by
  rw [Bool.eq_iff_iff]
  simp only [beq_iff_eq, decide_eq_true_eq]
  constructor
  · intro h
    rw [ByteArray.toList_eq, ByteArray.toList_eq] at h
    exact (putS_inj a b ha hb).1 (ByteArray.ext (Array.toList_inj.1 h))
  · rintro rfl; rfl
theorem size_put (a b : Nat) (hb : b < 18446744073709551616) (h : a ≤ b) : (putS a).size ≤ (putS b).size := by
  rw [putS_size, putS_size, putL_length, putL_length]
  have h1 := nb_mono a b hb h
  have h2 := (nb_bounds b hb).1
  split
  · split <;> omega
  · rw [if_neg (by omega)]; omega

set_option maxHeartbeats 400000 in
set_option maxRecDepth 100000 in
theorem order_ne (a b : Nat) (w : World) (ha : a < 18446744073709551616) (hb : b < 18446744073709551616) (hne : a ≠ b) : Calls Try.prog 3 #[.int .u64 a, .int .u64 b] w fun e w' => e = .returned (.bool true) ∧ Below w.heap.size w w' := by
  have HA := Lib.hid (fun w => put_any a w ha)
  have HB := Lib.hid (fun w => put_any b w hb)
  have hl := less_put a b ha hb
  have he := eq_put a b ha hb
  have hz := fun h => size_put a b hb h
  have HZ := Lib.hid hz
  clear hz ha hb
  generalize putS a = x at *
  generalize putS b = y at *
  rcases Nat.lt_trichotomy a b with h | h | h
  · rw [show decide (a < b) = true by simpa using h] at hl
    rw [show decide (a = b) = false by simp; omega] at he
    have h1 : ((a : Int) == (b : Int)) = false := by simp; omega
    have h2 := HZ.out (by omega)
    go_enter Try.func3, Try.ntmps3
    go_wp2_with fail
    refine (HA.out _).mono ?_
    rintro e w1 ⟨rfl, hB1⟩
    go_wp2_with fail
    refine (HB.out _).mono ?_
    rintro e w2 ⟨rfl, hB⟩
    have hB2 := hB1.trans (hB.mono hB1.size)
    clear hB hB1
    go_wp2_with fail
    refine (awake_any _).mono ?_
    rintro e w3 ⟨rfl, hB⟩
    have hB3 := hB2.trans (hB.mono hB2.size)
    clear hB hB2
    go_wp2
    go_ret
    exact ⟨rfl, hB3⟩
  · exact absurd h hne
  · rw [show decide (a < b) = false by simp; omega] at hl
    rw [show decide (a = b) = false by simp; omega] at he
    have h1 : ((a : Int) == (b : Int)) = false := by simp; omega
    go_enter Try.func3, Try.ntmps3
    go_wp2_with fail
    refine (HA.out _).mono ?_
    rintro e w1 ⟨rfl, hB1⟩
    go_wp2_with fail
    refine (HB.out _).mono ?_
    rintro e w2 ⟨rfl, hB⟩
    have hB2 := hB1.trans (hB.mono hB1.size)
    clear hB hB1
    go_wp2_with fail
    refine (awake_any _).mono ?_
    rintro e w3 ⟨rfl, hB⟩
    have hB3 := hB2.trans (hB.mono hB2.size)
    clear hB hB2
    go_wp2
    go_ret
    exact ⟨ret_bool (y := true) (by simp; omega), hB3⟩

set_option maxHeartbeats 400000 in
set_option maxRecDepth 100000 in
theorem order_eq (a : Nat) (w : World) (ha : a < 18446744073709551616) : Calls Try.prog 3 #[.int .u64 a, .int .u64 a] w fun e w' => e = .returned (.bool true) ∧ Below w.heap.size w w' := by
  have HA := Lib.hid (fun w => put_any a w ha)
  have hl := less_put a a ha ha
  rw [show decide (a < a) = false by simp] at hl
  clear ha
  generalize putS a = x at *
  go_enter Try.func3, Try.ntmps3
  go_wp2_with fail
  refine (HA.out _).mono ?_
  rintro e w1 ⟨rfl, hB1⟩
  go_wp2_with fail
  refine (HA.out _).mono ?_
  rintro e w2 ⟨rfl, hB⟩
  have hB2 := hB1.trans (hB.mono hB1.size)
  clear hB hB1
  go_wp2_with fail
  refine (awake_any _).mono ?_
  rintro e w3 ⟨rfl, hB⟩
  have hB3 := hB2.trans (hB.mono hB2.size)
  clear hB hB2
  go_wp2
  go_ret
  exact ⟨rfl, hB3⟩

theorem order_any (a b : Int) (w : World) (ha : 0 ≤ a ∧ a ≤ 18446744073709551615) (hb : 0 ≤ b ∧ b ≤ 18446744073709551615) : Calls Try.prog 3 #[.int .u64 a, .int .u64 b] w fun e w' => e = .returned (.bool true) ∧ Below w.heap.size w w' := by
  obtain ⟨x, rfl⟩ := Int.eq_ofNat_of_zero_le ha.1
  obtain ⟨y, rfl⟩ := Int.eq_ofNat_of_zero_le hb.1
  by_cases h : x = y
  · subst h; exact order_eq x w (by omega)
  · exact order_ne x y w (by omega) (by omega) h
end Go.Proofs.Ytclbndfoljmakaa
