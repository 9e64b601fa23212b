/- The plain law of frames: what is put is found, whatever stands ahead and behind. -/
import Derived.Test.YtjjhbkmmkhkjnaaFrRefNext
namespace Go.Proofs.Ytjjhbkmmkhkjnaa
open Go.RowKit Crc Law

theorem bl_extract (s : ByteArray) (a b : Nat) : bl (s.extract a b) = ((bl s).take b).drop a := by
  unfold bl
  rw [ByteArray.data_extract, Array.toList_extract, List.extract_eq_take_drop, List.map_take, List.map_drop, List.drop_take]
theorem markL_lt (c : Nat) : ∀ b ∈ markL c, b < 256 := by
  intro b hb
  simp only [markL, List.mem_cons, List.mem_nil_iff, or_false] at hb
  omega
theorem bl_mark (c : Nat) : bl (markS c) = markL c := bl_strOf _ (markL_lt c)
theorem mark_inj (c d : Nat) (hc : c < 4294967296) (hd : d < 4294967296) (h : markS c = markS d) : c = d := by
  have h2 : markL c = markL d := by rw [← bl_mark, ← bl_mark, h]
  simp only [markL, List.cons.injEq, and_true] at h2
  omega
theorem sum_lt (l : List Nat) (h : ∀ b ∈ l, b < 256) : sum l < 4294967296 := by
  unfold sum
  exact Nat.xor_lt_two_pow (n := 32) (by omega) (crc_lt _ h _ (by omega))
theorem putS_len (n : Nat) (h : n < 18446744073709551616) : (putL n).length = (putS n).size := by rw [← bl_put n h, bl_length]

/-- The frame's parts. -/
theorem parts (A T B : ByteArray) (n c : Nat) (hn : n < 18446744073709551616) (hT : T.size = n) :
    let z := A ++ (putS n ++ markS c ++ T) ++ B
    let m := A.size + (putS n).size
    getR (bl z) (A.size : Nat) = (n, ((m : Nat) : Int), 0) ∧ z.extract m (m + 4) = markS c ∧ z.extract A.size m = putS n ∧ z.extract (m + 4) (m + 4 + n) = T ∧ m + 4 + n ≤ z.size := by
  intro z m
  have hb : bl z = bl A ++ (bl (putS n) ++ bl (markS c) ++ bl T) ++ bl B := by show bl (_ ++ _ ++ _) = _; simp only [bl_append]
  have hz : z = A ++ putS n ++ (markS c ++ T ++ B) := bl_inj _ _ (by rw [hb]; simp only [bl_append, List.append_assoc])
  have l1 : (bl A).length = A.size := bl_length A
  have l2 : (bl (putS n)).length = (putS n).size := bl_length _
  have l3 : (bl (markS c)).length = 4 := by rw [bl_length, markS_size]
  have l4 : (bl T).length = n := by rw [bl_length, hT]
  refine ⟨?_, ?_, ?_, ?_, ?_⟩
  · rw [hz, there_text A _ n hn, putS_len n hn]
  · apply bl_inj
    rw [bl_extract, hb]
    have : bl A ++ (bl (putS n) ++ bl (markS c) ++ bl T) ++ bl B = (bl A ++ bl (putS n) ++ bl (markS c)) ++ (bl T ++ bl B) := by simp only [List.append_assoc]
    rw [this, List.take_append_of_le_length (by simp only [List.length_append]; omega), List.take_of_length_le (by simp only [List.length_append]; omega)]
    exact List.drop_left' (by simp only [List.length_append]; omega)
  · apply bl_inj
    rw [bl_extract, hb]
    have : bl A ++ (bl (putS n) ++ bl (markS c) ++ bl T) ++ bl B = (bl A ++ bl (putS n)) ++ (bl (markS c) ++ (bl T ++ bl B)) := by simp only [List.append_assoc]
    rw [this, List.take_append_of_le_length (by simp only [List.length_append]; omega), List.take_of_length_le (by simp only [List.length_append]; omega)]
    exact List.drop_left' (by omega)
  · apply bl_inj
    rw [bl_extract, hb]
    have : bl A ++ (bl (putS n) ++ bl (markS c) ++ bl T) ++ bl B = (bl A ++ bl (putS n) ++ bl (markS c) ++ bl T) ++ bl B := by simp only [List.append_assoc]
    rw [this, List.take_append_of_le_length (by simp only [List.length_append]; omega), List.take_of_length_le (by simp only [List.length_append]; omega)]
    exact List.drop_left' (by simp only [List.length_append]; omega)
  · rw [← bl_length, hb]
    simp only [List.length_append]
    omega

/-- Whatever text stands behind the number and the mark. -/
theorem next_at (A T B : ByteArray) (n c : Nat) (hn : n ≤ 65536) (hT : T.size = n) :
    nextR (A ++ (putS n ++ markS c ++ T) ++ B) (A.size : Nat) =
      if markS c = markS (sum (bl (putS n ++ T))) then (T, ((A.size + (putS n).size + 4 + n : Nat) : Int), 0) else (ByteArray.empty, 0, 9) := by
  obtain ⟨h1, h2, h3, h4, h5⟩ := parts A T B n c (by omega) hT
  generalize A ++ (putS n ++ markS c ++ T) ++ B = z at *
  unfold nextR
  rw [h1]
  simp only [ne_eq, not_true_eq_false, if_false, Int.toNat_natCast]
  rw [if_neg (by omega), if_neg (by omega), h2, h3, h4]
theorem next_frame (A s B : ByteArray) (hs : s.size ≤ 65536) : nextR (A ++ frameS s ++ B) (A.size : Nat) = (s, ((A.size + (frameS s).size : Nat) : Int), 0) := by
  have e : (frameS s).size = (putS s.size).size + 4 + s.size := by unfold frameS; rw [ByteArray.size_append, ByteArray.size_append, markS_size]
  unfold frameS
  rw [next_at A s B s.size _ hs rfl, if_pos rfl]
  unfold frameS at e
  rw [e, show A.size + (putS s.size).size + 4 + s.size = A.size + ((putS s.size).size + 4 + s.size) by omega]
theorem app_empty (a : ByteArray) : a ++ ByteArray.empty = a := bl_inj _ _ (by rw [bl_append]; simp [bl])
theorem empty_app (a : ByteArray) : ByteArray.empty ++ a = a := bl_inj _ _ (by rw [bl_append]; simp [bl])

set_option maxHeartbeats 1000000 in
set_option maxRecDepth 100000 in
theorem awake_any (w : World) : Calls Try.prog 8 #[] w fun e w' => e = .returned (.bool true) ∧ Below w.heap.size w w' := by
  have h1 : putR ⟨#[97]⟩ = (frameS ⟨#[97]⟩, 0) := rfl
  have H1 := Lib.hid (fun w => framePut_any ⟨#[97]⟩ w (by decide))
  rw [h1] at H1
  simp only [Puts] at H1
  have hz : (frameS ⟨#[97]⟩).size = 6 := by unfold frameS; rw [ByteArray.size_append, ByteArray.size_append, markS_size]; rfl
  have h2 := next_frame ⟨#[120]⟩ ⟨#[97]⟩ ByteArray.empty (by decide)
  rw [app_empty, hz] at h2
  generalize frameS ⟨#[97]⟩ = f at *
  have hadd := fun w => run_string_add_sum (P := Try.prog) w ⟨#[120]⟩ f (by rw [hz]; decide)
  have H2 := Lib.hid (fun w => next_any (⟨#[120]⟩ ++ f) 1 w (by rw [ByteArray.size_append, hz]; decide))
  have h3 : nextR (⟨#[120]⟩ ++ f) 1 = (⟨#[97]⟩, 7, 0) := h2
  rw [h3] at H2
  simp only [Nexts] at H2
  clear h1 h2 h3
  generalize (⟨#[120]⟩ ++ f : ByteArray) = xf at *
  have hz2 : ((f.size : Nat) : Int) = 6 := by rw [hz]; rfl
  clear hz
  go_enter Try.func8, Try.ntmps8
  go_wp2_with fail
  refine (H1.out _).mono ?_
  rintro e w1 ⟨rfl, hB⟩
  have K1 := Lib.hid hB
  clear hB
  go_wp2_with fail
  refine (H2.out _).mono ?_
  rintro e w2 ⟨rfl, hB⟩
  have K2 := Lib.hid (K1.out.trans (hB.mono K1.out.size))
  clear hB
  go_wp2
  go_ret
  exact ⟨rfl, K2.out⟩
end Go.Proofs.Ytjjhbkmmkhkjnaa
