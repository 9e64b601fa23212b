/- The walk of the document's frame at a place. -/
import Derived.Test.YtjjhbkmmkhkjnaaFrNext
namespace Go.Proofs.Ytjjhbkmmkhkjnaa
open Go.RowKit Crc Law

set_option maxHeartbeats 1000000 in
set_option maxRecDepth 100000 in
theorem refNext_any (s : ByteArray) (i : Int) (w : World) (hs : s.size ≤ 9223372036854775807) :
    Calls Try.prog 11 #[.string s, .int .i64 i] w fun e w' => e = Nexts (nextR s i) ∧ Below w.heap.size w w' := by
  have HG := Lib.hid (fun w => refGet_any s i w hs)
  unfold nextR
  by_cases he : (getR (bl s) i).2.2 = 0
  · obtain ⟨a, n, m, rfl, hr, ham, hml, hn⟩ := getR_ok (bl s) (bl_lt s) i he
    rw [bl_length] at hml
    rw [hr] at HG ⊢
    simp only [Gets] at HG
    clear he hr
    simp only [ne_eq, not_true_eq_false, if_false, Int.toNat_natCast]
    by_cases h3 : 65536 < n
    · rw [if_pos h3]
      go_enter Try.func11, Try.ntmps11
      go_wp2_with fail
      refine (HG.out _).mono ?_
      rintro e w1 ⟨rfl, hB⟩
      have K1 := Lib.hid hB
      clear hB
      go_wp2
      go_ret3
      exact ⟨rfl, K1.out⟩
    · rw [if_neg h3]
      have hk : IntKind.wrap .i64 (n : Int) = (n : Int) := IntWalk.i64_in _ (by omega)
      by_cases h4 : s.size - m < 4 + n
      · rw [if_pos h4]
        go_enter Try.func11, Try.ntmps11
        go_wp2_with fail
        refine (HG.out _).mono ?_
        rintro e w1 ⟨rfl, hB⟩
        have K1 := Lib.hid hB
        clear hB
        go_wp2
        go_ret3
        exact ⟨rfl, K1.out⟩
      · rw [if_neg h4]
        have hx1 : (s.extract a m).size = m - a := by rw [ByteArray.size_extract]; omega
        have hx2 : (s.extract (m + 4) (m + 4 + n)).size = n := by rw [ByteArray.size_extract]; omega
        have hadd := fun w => run_string_add_sum (P := Try.prog) w (s.extract a m) (s.extract (m + 4) (m + 4 + n)) (by omega)
        have HS := Lib.hid (fun w => refSum_below (s.extract a m ++ s.extract (m + 4) (m + 4 + n)) w (by rw [ByteArray.size_append]; omega))
        generalize s.extract a m ++ s.extract (m + 4) (m + 4 + n) = st at *
        generalize sum (bl st) = c at *
        have HM := Lib.hid (fun w => four_any c w)
        generalize markS c = mk at *
        clear hx1 hx2
        have i1 : (0 : Int) ≤ (a : Int) := Int.natCast_nonneg _
        have i2 : (a : Int) ≤ (m : Int) := by omega
        have i3 : (m : Int) ≤ (m : Int) + 4 := by omega
        have i4 : (m : Int) + 4 ≤ (s.size : Int) := by omega
        have i5 : (m : Int) ≤ (s.size : Int) := by omega
        have i6 : (m : Int) + 4 ≤ (m : Int) + 4 + (n : Int) := by omega
        have i7 : (m : Int) + 4 + (n : Int) ≤ (s.size : Int) := by omega
        have i8 : (0 : Int) ≤ (m : Int) := Int.natCast_nonneg _
        have i9 : (0 : Int) ≤ (m : Int) + 4 := by omega
        have hw4 : IntKind.wrap .i64 ((m : Int) + 4) = (m : Int) + 4 := IntWalk.i64_in _ (by omega)
        have n1 : ((m : Int) + 4).toNat = m + 4 := by omega
        have n2 : ((m : Int) + 4 + (n : Int)).toNat = m + 4 + n := by omega
        by_cases hq : s.extract m (m + 4) = mk
        · rw [if_pos hq]
          have hq1 := eq_texts hq
          clear hq
          go_enter Try.func11, Try.ntmps11
          go_wp2_with fail
          refine (HG.out _).mono ?_
          rintro e w1 ⟨rfl, hB⟩
          have K1 := Lib.hid hB
          clear hB
          go_wp2_with fail
          have KD : Below w.heap.size w w1.drew := K1.out.drew
          have K1 := Lib.hid KD
          clear KD
          go_region_held3 (fun _ => True) (exact trivial)
            (first
              | (go_at_call 21
                 refine (HS.out _).mono ?_
                 rintro e wA ⟨rfl, hBA⟩
                 have N1 := Lib.hid (K1.out.trans (hBA.mono K1.out.size))
                 clear hBA HS)
              | (go_at_call 20
                 refine (HM.out _).mono ?_
                 rintro e wB ⟨rfl, hBA⟩
                 have N2 := Lib.hid (N1.out.trans (hBA.mono N1.out.size))
                 clear hBA HM))
          go_wp2
          go_ret3
          exact ⟨rfl, N2.out⟩
        · rw [if_neg hq]
          have hq1 := ne_texts hq
          clear hq
          go_enter Try.func11, Try.ntmps11
          go_wp2_with fail
          refine (HG.out _).mono ?_
          rintro e w1 ⟨rfl, hB⟩
          have K1 := Lib.hid hB
          clear hB
          go_wp2_with fail
          have KD : Below w.heap.size w w1.drew := K1.out.drew
          have K1 := Lib.hid KD
          clear KD
          go_region_held3 (fun _ => True) (exact trivial)
            (first
              | (go_at_call 21
                 refine (HS.out _).mono ?_
                 rintro e wA ⟨rfl, hBA⟩
                 have N1 := Lib.hid (K1.out.trans (hBA.mono K1.out.size))
                 clear hBA HS)
              | (go_at_call 20
                 refine (HM.out _).mono ?_
                 rintro e wB ⟨rfl, hBA⟩
                 have N2 := Lib.hid (N1.out.trans (hBA.mono N1.out.size))
                 clear hBA HM))
          go_wp2
          go_ret3
          exact ⟨rfl, N2.out⟩
  · rw [if_pos he]
    have HE := Lib.hid he
    clear he
    generalize getR (bl s) i = r at *
    obtain ⟨n, m, e⟩ := r
    simp only [Gets] at HG
    have hd1 : (e == 0) = false := by simpa using HE.out
    have hd2 : (e != 0) = true := by simpa using HE.out
    go_enter Try.func11, Try.ntmps11
    go_wp2_with fail
    refine (HG.out _).mono ?_
    rintro e w1 ⟨rfl, hB⟩
    have K1 := Lib.hid hB
    clear hB
    go_wp2
    go_ret3
    exact ⟨rfl, K1.out⟩
end Go.Proofs.Ytjjhbkmmkhkjnaa
