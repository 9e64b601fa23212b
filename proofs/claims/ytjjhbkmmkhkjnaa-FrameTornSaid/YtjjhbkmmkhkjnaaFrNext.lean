/- The walks of the frame at a place: frame.Next, and the document's. -/
import Derived.Test.YtjjhbkmmkhkjnaaFrPut
import Derived.Deep.RegionHeld3
namespace Go.Proofs.Ytjjhbkmmkhkjnaa
open Go.RowKit Crc Law

theorem getR_ok (l : List Nat) (hl : ∀ b ∈ l, b < 256) (i : Int) (h : (getR l i).2.2 = 0) :
    ∃ a n m : Nat, i = (a : Int) ∧ getR l i = (n, (m : Int), 0) ∧ a < m ∧ m ≤ l.length ∧ n < 18446744073709551616 := by
  have hb : ∀ j : Nat, l[j]?.getD 0 < 256 := fun j => by
    cases e : l[j]? with
    | none => simp
    | some b => exact hl b (List.mem_of_getElem? e)
  unfold getR at h ⊢
  by_cases h1 : i < 0 ∨ (l.length : Int) < i
  · rw [if_pos h1] at h; cases h
  rw [if_neg h1] at h ⊢
  obtain ⟨a, rfl⟩ := Int.eq_ofNat_of_zero_le (show 0 ≤ i by omega)
  rw [Int.toNat_natCast] at h ⊢
  by_cases h2 : (a : Int) = l.length
  · rw [if_pos h2] at h; cases h
  rw [if_neg h2] at h ⊢
  have hba := hb a
  generalize l[a]?.getD 0 = b at *
  by_cases h3 : b < 248
  · rw [if_pos h3]
    exact ⟨a, b, a + 1, rfl, by simp, by omega, by omega, by omega⟩
  rw [if_neg h3] at h ⊢
  by_cases h4 : l.length - (a + 1) < b - 247
  · rw [if_pos h4] at h; cases h
  rw [if_neg h4] at h ⊢
  have hlen : ((l.drop (a + 1)).take (b - 247)).length = b - 247 := by rw [List.length_take, List.length_drop]; omega
  have hv := bev_lt ((l.drop (a + 1)).take (b - 247)) (fun x hx => hl x (List.mem_of_mem_drop (List.mem_of_mem_take hx)))
  rw [hlen] at hv
  have hp : 256 ^ (b - 247) ≤ 256 ^ 8 := Nat.pow_le_pow_right (by omega) (by omega)
  generalize bev ((l.drop (a + 1)).take (b - 247)) = v at *
  by_cases h5 : v < 248 ∨ nb v ≠ b - 247
  · rw [if_pos h5] at h; cases h
  rw [if_neg h5]
  exact ⟨a, v, a + 1 + (b - 247), rfl, by simp, by omega, by omega, by omega⟩

/-- The frame at a place. -/
def nextR (s : ByteArray) (i : Int) : ByteArray × Int × Int :=
  if (getR (bl s) i).2.2 ≠ 0 then (ByteArray.empty, 0, (getR (bl s) i).2.2)
  else if 65536 < (getR (bl s) i).1 then (ByteArray.empty, 0, 3)
  else if s.size - (getR (bl s) i).2.1.toNat < 4 + (getR (bl s) i).1 then (ByteArray.empty, 0, 2)
  else if s.extract (getR (bl s) i).2.1.toNat ((getR (bl s) i).2.1.toNat + 4) =
      markS (sum (bl (s.extract i.toNat (getR (bl s) i).2.1.toNat ++ s.extract ((getR (bl s) i).2.1.toNat + 4) ((getR (bl s) i).2.1.toNat + 4 + (getR (bl s) i).1)))) then
    (s.extract ((getR (bl s) i).2.1.toNat + 4) ((getR (bl s) i).2.1.toNat + 4 + (getR (bl s) i).1), (((getR (bl s) i).2.1.toNat + 4 + (getR (bl s) i).1 : Nat) : Int), 0)
  else (ByteArray.empty, 0, 9)
theorem eq_texts {a b : ByteArray} (h : a = b) : (a.toList == b.toList) = true := by rw [h]; simp
theorem ne_texts {a b : ByteArray} (h : ¬ a = b) : (a.toList == b.toList) = false := by
  rw [ByteArray.toList_eq, ByteArray.toList_eq]
  have : ¬ a.data.toList = b.data.toList := fun e => h (ByteArray.ext (Array.toList_inj.1 e))
  simpa using this
theorem get_below (s : ByteArray) (i : Int) (w : World) (hs : s.size ≤ 9223372036854775807) : Calls Try.prog 18 #[.string s, .int .i64 i] w fun e w' => e = Gets (getR (bl s) i) ∧ Below w.heap.size w w' :=
  (get_any s i w hs).mono fun _ _ ⟨h, hw⟩ => ⟨h, hw ▸ Below.refl _ _⟩
theorem refSum_below (s : ByteArray) (w : World) (hs : s.size ≤ 9223372036854775807) : Calls Try.prog 21 #[.string s] w fun e w' => e = .returned (.int .u32 ((sum (bl s) : Nat) : Int)) ∧ Below w.heap.size w w' :=
  (refSum_any s w hs).mono fun _ _ ⟨h, hw⟩ => ⟨h, hw ▸ Below.refl _ _⟩
def Nexts (r : ByteArray × Int × Int) : Ending := .returned (.tuple #[.string r.1, .int .i64 r.2.1, .int .i64 r.2.2])

set_option maxHeartbeats 1000000 in
set_option maxRecDepth 100000 in
theorem next_any (s : ByteArray) (i : Int) (w : World) (hs : s.size ≤ 9223372036854775807) :
    Calls Try.prog 9 #[.string s, .int .i64 i] w fun e w' => e = Nexts (nextR s i) ∧ Below w.heap.size w w' := by
  have HG := Lib.hid (fun w => get_below s i w hs)
  unfold nextR
  by_cases he : (getR (bl s) i).2.2 = 0
  · obtain ⟨a, n, m, rfl, hr, ham, hml, hn⟩ := getR_ok (bl s) (bl_lt s) i he
    rw [bl_length] at hml
    rw [hr] at HG ⊢
    simp only [Gets] at HG
    clear he hr
    simp only [ne_eq, not_true_eq_false, if_false, Int.toNat_natCast]
    by_cases h3 : 65536 < n
    · rw [if_pos h3]
      go_enter Try.func9, Try.ntmps9
      go_wp2_with fail
      refine (HG.out _).mono ?_
      rintro e w1 ⟨rfl, hB⟩
      have K1 := Lib.hid hB
      clear hB
      go_wp2
      go_ret3
      exact ⟨rfl, K1.out⟩
    · rw [if_neg h3]
      have hk : IntKind.wrap .i64 (n : Int) = (n : Int) := IntWalk.i64_in _ (by omega)
      by_cases h4 : s.size - m < 4 + n
      · rw [if_pos h4]
        go_enter Try.func9, Try.ntmps9
        go_wp2_with fail
        refine (HG.out _).mono ?_
        rintro e w1 ⟨rfl, hB⟩
        have K1 := Lib.hid hB
        clear hB
        go_wp2
        go_ret3
        exact ⟨rfl, K1.out⟩
      · rw [if_neg h4]
        have hx1 : (s.extract a m).size = m - a := by rw [ByteArray.size_extract]; omega
        have hx2 : (s.extract (m + 4) (m + 4 + n)).size = n := by rw [ByteArray.size_extract]; omega
        have hadd := fun w => run_string_add_sum (P := Try.prog) w (s.extract a m) (s.extract (m + 4) (m + 4 + n)) (by omega)
        have HS := Lib.hid (fun w => sum_any (s.extract a m ++ s.extract (m + 4) (m + 4 + n)) w (by rw [ByteArray.size_append]; omega))
        generalize s.extract a m ++ s.extract (m + 4) (m + 4 + n) = st at *
        generalize sum (bl st) = c at *
        have HM := Lib.hid (fun w => mark_any c w)
        generalize markS c = mk at *
        clear hx1 hx2
        have i1 : (0 : Int) ≤ (a : Int) := Int.natCast_nonneg _
        have i2 : (a : Int) ≤ (m : Int) := by omega
        have i3 : (m : Int) ≤ (m : Int) + 4 := by omega
        have i4 : (m : Int) + 4 ≤ (s.size : Int) := by omega
        have i5 : (m : Int) ≤ (s.size : Int) := by omega
        have i6 : (m : Int) + 4 ≤ (m : Int) + 4 + (n : Int) := by omega
        have i7 : (m : Int) + 4 + (n : Int) ≤ (s.size : Int) := by omega
        have i8 : (0 : Int) ≤ (m : Int) := Int.natCast_nonneg _
        have i9 : (0 : Int) ≤ (m : Int) + 4 := by omega
        have hw4 : IntKind.wrap .i64 ((m : Int) + 4) = (m : Int) + 4 := IntWalk.i64_in _ (by omega)
        have n1 : ((m : Int) + 4).toNat = m + 4 := by omega
        have n2 : ((m : Int) + 4 + (n : Int)).toNat = m + 4 + n := by omega
        by_cases hq : s.extract m (m + 4) = mk
        · rw [if_pos hq]
          have hq1 := eq_texts hq
          clear hq
          go_enter Try.func9, Try.ntmps9
          go_wp2_with fail
          refine (HG.out _).mono ?_
          rintro e w1 ⟨rfl, hB⟩
          have K1 := Lib.hid hB
          clear hB
          go_wp2_with fail
          have KD : Below w.heap.size w w1.drew := K1.out.drew
          have K1 := Lib.hid KD
          clear KD
          go_region_held3 (fun _ => True) (exact trivial)
            (first
              | (go_at_call 17
                 refine (HS.out _).mono ?_
                 rintro e wA ⟨rfl, hBA⟩
                 have N1 := Lib.hid (K1.out.trans (hBA.mono K1.out.size))
                 clear hBA HS)
              | (go_at_call 16
                 refine (HM.out _).mono ?_
                 rintro e wB ⟨rfl, hBA⟩
                 have N2 := Lib.hid (N1.out.trans (hBA.mono N1.out.size))
                 clear hBA HM))
          go_wp2
          go_ret3
          exact ⟨rfl, N2.out⟩
        · rw [if_neg hq]
          have hq1 := ne_texts hq
          clear hq
          go_enter Try.func9, Try.ntmps9
          go_wp2_with fail
          refine (HG.out _).mono ?_
          rintro e w1 ⟨rfl, hB⟩
          have K1 := Lib.hid hB
          clear hB
          go_wp2_with fail
          have KD : Below w.heap.size w w1.drew := K1.out.drew
          have K1 := Lib.hid KD
          clear KD
          go_region_held3 (fun _ => True) (exact trivial)
            (first
              | (go_at_call 17
                 refine (HS.out _).mono ?_
                 rintro e wA ⟨rfl, hBA⟩
                 have N1 := Lib.hid (K1.out.trans (hBA.mono K1.out.size))
                 clear hBA HS)
              | (go_at_call 16
                 refine (HM.out _).mono ?_
                 rintro e wB ⟨rfl, hBA⟩
                 have N2 := Lib.hid (N1.out.trans (hBA.mono N1.out.size))
                 clear hBA HM))
          go_wp2
          go_ret3
          exact ⟨rfl, N2.out⟩
  · rw [if_pos he]
    have HE := Lib.hid he
    clear he
    generalize getR (bl s) i = r at *
    obtain ⟨n, m, e⟩ := r
    simp only [Gets] at HG
    have hd1 : (e == 0) = false := by simpa using HE.out
    have hd2 : (e != 0) = true := by simpa using HE.out
    go_enter Try.func9, Try.ntmps9
    go_wp2_with fail
    refine (HG.out _).mono ?_
    rintro e w1 ⟨rfl, hB⟩
    have K1 := Lib.hid hB
    clear hB
    go_wp2
    go_ret3
    exact ⟨rfl, K1.out⟩
end Go.Proofs.Ytjjhbkmmkhkjnaa
