/- The plain law of there and back. -/
import Derived.Test.YtjjhbkmmkhkjnaaGet
namespace Go.Proofs.Ytjjhbkmmkhkjnaa
open Go.RowKit Law

theorem bl_append (a b : ByteArray) : bl (a ++ b) = bl a ++ bl b := by unfold bl; simp
theorem bl_put (n : Nat) (h : n < 18446744073709551616) : bl (putS n) = putL n := bl_strOf _ (putL_lt n h)
theorem putL_pos (n : Nat) : 0 < (putL n).length := by rw [putL_length]; split <;> omega
theorem putL_le (n : Nat) (h : n < 18446744073709551616) : (putL n).length ≤ 9 := by have := nb_bounds n h; rw [putL_length]; split <;> omega

/-- What is put is got, whatever stands ahead and behind. -/
theorem get_mid (A B : List Nat) (n : Nat) (h : n < 18446744073709551616) : getR (A ++ putL n ++ B) (A.length : Nat) = (n, ((A.length + (putL n).length : Nat) : Int), 0) := by
  obtain ⟨b1, b2, b3, b4⟩ := nb_bounds n h
  have hp := putL_pos n
  have hl : (A ++ putL n ++ B).length = A.length + (putL n).length + B.length := by simp; omega
  unfold getR
  rw [if_neg (by rw [hl]; omega), if_neg (by rw [hl]; omega)]
  simp only [Int.toNat_natCast]
  by_cases hn : n < 248
  · have e : putL n = [n] := by unfold putL; rw [if_pos hn]
    rw [e]
    have g : (A ++ [n] ++ B)[A.length]?.getD 0 = n := by simp
    rw [g, if_pos hn]
    simp
  · have e : putL n = (247 + nb n) :: be (nb n) n := by unfold putL; rw [if_neg hn]
    rw [hl, e]
    have g : (A ++ ((247 + nb n) :: be (nb n) n) ++ B)[A.length]?.getD 0 = 247 + nb n := by simp
    have hbl := be_length (nb n) n
    have d : ((A ++ ((247 + nb n) :: be (nb n) n) ++ B).drop (A.length + 1)).take (247 + nb n - 247) = be (nb n) n := by
      rw [show 247 + nb n - 247 = nb n by omega, show A ++ ((247 + nb n) :: be (nb n) n) ++ B = (A ++ [247 + nb n]) ++ (be (nb n) n ++ B) by simp]
      rw [List.drop_left' (by simp), List.take_left' hbl]
    rw [g, d, bev_be, Nat.mod_eq_of_lt b3]
    rw [if_neg (by omega), if_neg (by simp [hbl]; omega), if_neg (by omega)]
    simp [hbl]
    omega

set_option maxRecDepth 100000 in
/-- What is got is put so. -/
theorem get_back (l : List Nat) (hl : ∀ b ∈ l, b < 256) : (getR l 0).2.2 ≠ 0 ∨ ∃ m, (getR l 0).2.1 = (m : Nat) ∧ m ≤ l.length ∧ (getR l 0).2.2 = 0 ∧ putL (getR l 0).1 = l.take m ∧ (getR l 0).1 < 18446744073709551616 := by
  unfold getR
  rw [if_neg (by omega)]
  cases l with
  | nil => left; simp
  | cons b t =>
    have hb : b < 256 := hl b (by simp)
    rw [if_neg (by simp; omega)]
    simp only [Int.toNat_zero, List.getElem?_cons_zero, Option.getD_some]
    by_cases h : b < 248
    · rw [if_pos h]
      right
      exact ⟨1, by simp, by simp, rfl, by unfold putL; simp [h], by omega⟩
    · rw [if_neg h]
      by_cases h2 : (b :: t).length - (0 + 1) < b - 247
      · rw [if_pos h2]; left; simp
      · rw [if_neg h2]
        have ed : List.drop (0 + 1) (b :: t) = t := rfl
        rw [ed]
        have htl : (t.take (b - 247)).length = b - 247 := by simp at h2 ⊢; omega
        by_cases h3 : bev (t.take (b - 247)) < 248 ∨ nb (bev (t.take (b - 247))) ≠ b - 247
        · rw [if_pos h3]; left; simp
        · rw [if_neg h3]
          right
          have h4 := bev_lt (t.take (b - 247)) (fun x hx => hl x (by simp [List.mem_of_mem_take hx]))
          have h5 := be_bev (t.take (b - 247)) (fun x hx => hl x (by simp [List.mem_of_mem_take hx]))
          rw [htl] at h4 h5
          refine ⟨1 + (b - 247), by simp, by simp at h2 ⊢; omega, rfl, ?_, Nat.lt_of_lt_of_le h4 (Nat.pow_le_pow_right (n := 256) (by omega) (show b - 247 ≤ 8 by omega))⟩
          have h6 : ¬ bev (t.take (b - 247)) < 248 := fun h => h3 (.inl h)
          have h7 : nb (bev (t.take (b - 247))) = b - 247 := Decidable.byContradiction fun h => h3 (.inr h)
          simp only
          unfold putL
          rw [if_neg h6, h7, h5, Nat.add_comm 1 (b - 247), List.take_succ_cons]
          congr 1
          omega
theorem bl_take (s : ByteArray) (m : Nat) : bl (s.extract 0 m) = (bl s).take m := by
  unfold bl
  simp
theorem bl_inj (a b : ByteArray) (h : bl a = bl b) : a = b := by
  apply ByteArray.ext
  apply Array.toList_inj.1
  unfold bl at h
  exact List.map_inj_right (fun x y => UInt8.toNat_inj.1) |>.1 h
/-- There and back, of texts. -/
theorem back_text (b : ByteArray) (hf : (getR (bl b) 0).2.2 = 0) : ∃ (y m : Nat), getR (bl b) 0 = (y, (m : Int), 0) ∧ m ≤ b.size ∧ y < 18446744073709551616 ∧ putS y = b.extract 0 m := by
  rcases get_back (bl b) (bl_lt b) with h | ⟨m, h1, h2, h3, h4, h5⟩
  · exact absurd hf h
  · rw [bl_length] at h2
    refine ⟨_, m, Prod.ext rfl (Prod.ext h1 h3), h2, h5, bl_inj _ _ ?_⟩
    rw [bl_put _ h5, bl_take, h4]
theorem getR_e (l : List Nat) (i : Int) : (getR l i).2.2 = 0 ∨ (getR l i).2.2 = 1 ∨ (getR l i).2.2 = 2 ∨ (getR l i).2.2 = 4 := by
  unfold getR
  split
  · simp
  · split
    · simp
    · split
      · simp
      · split
        · simp
        · split
          · simp
          · simp
theorem there_text (a b : ByteArray) (n : Nat) (h : n < 18446744073709551616) : getR (bl (a ++ putS n ++ b)) (a.size : Nat) = (n, ((a.size + (putL n).length : Nat) : Int), 0) := by
  rw [bl_append, bl_append, bl_put n h, ← bl_length a]
  exact get_mid _ _ n h
end Go.Proofs.Ytjjhbkmmkhkjnaa
