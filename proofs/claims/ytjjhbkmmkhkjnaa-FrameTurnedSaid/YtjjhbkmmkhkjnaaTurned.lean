/- The walk of FrameTurned: a row of bits within a frame's text is turned. -/
import Derived.Test.YtjjhbkmmkhkjnaaTurn
import Derived.Deep.Cut
namespace Go.Proofs.Ytjjhbkmmkhkjnaa
open Go.RowKit Crc Law

set_option maxHeartbeats 1600000 in
set_option maxRecDepth 100000 in
theorem turned_any (s : ByteArray) (a p : Nat) (t : ByteArray) (w : World) (hs : s.size ≤ 140737488351232) (ha : a < 65536) (hp : p < 4294967296) (ht : t.size ≤ 140737488351232) :
    Calls Try.prog 4 #[.string s, .int .u16 a, .int .u32 p, .string t] w fun e w' => e = .returned (.bool true) ∧ Below w.heap.size w w' := by
  cases hem : s.toList.isEmpty
  case true =>
    go_enter Try.func4, Try.ntmps4
    go_wp2_with fail
    refine (awake_any _).mono ?_
    rintro e w5 ⟨rfl, hB⟩
    have K := Lib.hid hB
    clear hB
    go_wp2
    go_ret
    exact ⟨rfl, K.out⟩
  case false =>
    have h0 : ¬ s.size = 0 := by
      intro h0
      have : s = ByteArray.empty := ByteArray.ext (Array.eq_empty_of_size_eq_zero h0)
      subst this
      exact absurd hem (by rw [ByteArray.toList_eq]; decide)
    by_cases h500 : 500 < s.size
    · have hd5 : decide ((500 : Int) < (s.size : Int)) = true := decide_eq_true (by omega)
      go_enter Try.func4, Try.ntmps4
      go_wp2_with fail
      refine (awake_any _).mono ?_
      rintro e w5 ⟨rfl, hB⟩
      have K := Lib.hid hB
      clear hB
      go_wp2
      go_ret
      exact ⟨rfl, K.out⟩
    · have HP := Lib.hid (fun w => framePut_any s w (by omega))
      rw [show putR s = (frameS s, 0) by unfold putR; rw [if_neg (by omega)]] at HP
      simp only [Puts] at HP
      have hfz := frame_size s (by omega)
      have hhl := headL_length s (by omega)
      have hpz := putS_size s.size (by omega)
      have hbf := bl_frame s (by omega)
      obtain ⟨h, hh⟩ : ∃ h, (headL s).length = h := ⟨_, rfl⟩
      rw [hh] at hfz hhl
      have hh14 : h ≤ 13 := by omega
      have HH := Lib.hid hh
      have HBF := Lib.hid hbf
      clear hh hbf hhl hpz
      obtain ⟨f, hfd⟩ : ∃ f, frameS s = f := ⟨_, rfl⟩
      rw [hfd] at HP HBF hfz
      clear hfd
      have hdl : decide ((f.size : Int) < (s.size : Int)) = false := decide_eq_false (by omega)
      have hsub : (f.size : Int) - (s.size : Int) = (h : Int) := by omega
      have hm : IntKind.wrap .i64 (8 * (s.size : Int)) = ((8 * s.size : Nat) : Int) := by rw [IntWalk.i64_in _ (by omega)]; omega
      have hmod : (a : Int) % (8 * (s.size : Int)) = ((a % (8 * s.size) : Nat) : Int) := by rw [Int.natCast_emod]; rfl
      have hfr : a % (8 * s.size) < 8 * s.size := Nat.mod_lt _ (by omega)
      generalize a % (8 * s.size) = fr at *
      have hd5 : decide ((500 : Int) < (s.size : Int)) = false := decide_eq_false (by omega)
      go_enter Try.func4, Try.ntmps4
      go_wp2_with fail
      refine (HP.out _).mono ?_
      rintro e w0 ⟨rfl, hB⟩
      have K0 := Lib.hid hB
      clear hB
      obtain ⟨cap, w1, hconv, hrow, hbel⟩ := bytes_conv f w0
      rw [HBF.out] at hrow
      obtain ⟨g, hg⟩ : ∃ g, w0.heap.size = g := ⟨_, rfl⟩
      have HG := Lib.hid (show w.heap.size ≤ g by rw [← hg]; exact K0.out.size)
      have HB := Lib.hid (K0.out.trans (hbel.mono K0.out.size))
      rw [hg] at hconv hrow
      have HR := Lib.hid hrow
      clear hrow hbel hg
      go_upto_region 10 with fail
      simp only [hmod]
      go_loopw [14, 15] (fun i _ wr => ∃ (k q : Nat) (l : List Nat), k ≤ 32 ∧ k + fr ≤ 8 * s.size ∧ i = .int .i64 (k : Int) ∧ Turned s fr k l q ∧ Row wr g (headL s ++ l) ∧ Below w.heap.size w wr) (fun i _ _ => 32 - (intOf i).toNat)
      case atStart => exact ⟨0, 0, bl s, by omega, by omega, rfl, ⟨bl_length s, bl_lt s, by rw [Nat.mul_zero, Nat.xor_zero], by decide, fun h => absurd h (by decide)⟩, HR.out, HB.out⟩
      case round =>
        obtain ⟨k, q, l, hk, hkf, rfl, hT, hR, hB⟩ := hrel
        have HT := Lib.hid hT
        have HRR := Lib.hid hR
        have HBB := Lib.hid hB
        clear hT hR hB
        by_cases h32 : k < 32
        · by_cases h8 : k + fr < 8 * s.size
          · by_cases hk0 : k = 0
            · have hd : ((k : Int) == 0) = true := by simpa using hk0
              have HK0 := Lib.hid hk0
              clear hk0
              have hjs : (fr + k) / 8 < s.size := by omega
              have hjl : (fr + k) / 8 < l.length := by rw [HT.out.len]; exact hjs
              have hjr : h + (fr + k) / 8 < (headL s ++ l).length := by rw [List.length_append, HH.out]; omega
              have hc := HRR.out.cell (h + (fr + k) / 8) hjr
              have hz := HRR.out.free (h + (fr + k) / 8) hjr
              have hget : (headL s ++ l)[h + (fr + k) / 8] = l[(fr + k) / 8] := by rw [List.getElem_append_right (by rw [HH.out]; omega)]; congr 1; rw [HH.out]; omega
              rw [hget] at hc
              have hbl := HT.out.low _ (List.getElem_mem hjl)
              obtain ⟨b, hb⟩ : ∃ b, l[(fr + k) / 8] = b := ⟨_, rfl⟩
              have HT2 := Lib.hid (turn_one HT.out b hjl hb)
              rw [hb] at hc hbl
              have hr2 := HRR.out.set_ (h + (fr + k) / 8) (b ^^^ 2 ^ ((fr + k) % 8)) hjr
              rw [List.set_append_right _ _ (by rw [HH.out]; omega), HH.out, Nat.add_sub_cancel_left] at hr2
              have HR2 := Lib.hid hr2
              have HB2 := Lib.hid (HBB.out.setCell (p := ⟨g, h + (fr + k) / 8, none⟩) HG.out (.int .u8 ((b ^^^ 2 ^ ((fr + k) % 8) : Nat) : Int)))
              have hfl := flip_bits b (fr + k) hbl
              clear hb hr2 hget hjr hjl
              generalize b ^^^ 2 ^ ((fr + k) % 8) = v at *
              go_wp2
              go_roundw
              case rel => exact ⟨k + 1, _, _, by omega, by omega, by go_num, HT2.out, HR2.out, HB2.out⟩
              case measure => simp [intOf]; omega
            · have hd : ((k : Int) == 0) = false := by simpa using hk0
              have hand : bits .and .u32 ((p : Int) / 2 ^ k) 1 = ((p / 2 ^ k % 2 : Nat) : Int) := by
                have e : ((p : Int) / 2 ^ k) = ((p / 2 ^ k : Nat) : Int) := by rw [Int.natCast_ediv, Int.natCast_pow]; rfl
                rw [e]
                exact and_one _ (Nat.lt_of_le_of_lt (Nat.div_le_self _ _) hp)
              by_cases hbit : p / 2 ^ k % 2 = 1
              · rw [hbit] at hand
                have hjs : (fr + k) / 8 < s.size := by omega
                have hjl : (fr + k) / 8 < l.length := by rw [HT.out.len]; exact hjs
                have hjr : h + (fr + k) / 8 < (headL s ++ l).length := by rw [List.length_append, HH.out]; omega
                have hc := HRR.out.cell (h + (fr + k) / 8) hjr
                have hz := HRR.out.free (h + (fr + k) / 8) hjr
                have hget : (headL s ++ l)[h + (fr + k) / 8] = l[(fr + k) / 8] := by rw [List.getElem_append_right (by rw [HH.out]; omega)]; congr 1; rw [HH.out]; omega
                rw [hget] at hc
                have hbl := HT.out.low _ (List.getElem_mem hjl)
                obtain ⟨b, hb⟩ : ∃ b, l[(fr + k) / 8] = b := ⟨_, rfl⟩
                have HT2 := Lib.hid (turn_one HT.out b hjl hb)
                rw [hb] at hc hbl
                have hr2 := HRR.out.set_ (h + (fr + k) / 8) (b ^^^ 2 ^ ((fr + k) % 8)) hjr
                rw [List.set_append_right _ _ (by rw [HH.out]; omega), HH.out, Nat.add_sub_cancel_left] at hr2
                have HR2 := Lib.hid hr2
                have HB2 := Lib.hid (HBB.out.setCell (p := ⟨g, h + (fr + k) / 8, none⟩) HG.out (.int .u8 ((b ^^^ 2 ^ ((fr + k) % 8) : Nat) : Int)))
                have hfl := flip_bits b (fr + k) hbl
                clear hb hr2 hget hjr hjl
                generalize b ^^^ 2 ^ ((fr + k) % 8) = v at *
                go_wp2
                go_roundw
                case rel => exact ⟨k + 1, _, _, by omega, by omega, by go_num, HT2.out, HR2.out, HB2.out⟩
                case measure => simp [intOf]; omega
              · rw [show p / 2 ^ k % 2 = 0 by omega] at hand
                have HT2 := Lib.hid (turn_none HT.out hk0)
                go_wp2
                go_roundw
                case rel => exact ⟨k + 1, _, _, by omega, by omega, by go_num, HT2.out, HRR.out, HBB.out⟩
                case measure => simp [intOf]; omega
          · have HNX := Lib.hid (turned_next t HT.out (by omega) hk hfr (by omega))
            have hsz : (strOfNums (ints (headL s ++ l))).size = h + s.size := by rw [strOfNums_size, ints, List.length_map, List.length_append, HH.out, HT.out.len]
            have hcv := row_conv (cap := cap) (n := h + s.size) HRR.out (by rw [List.length_append, HH.out, HT.out.len])
            generalize strOfNums (ints (headL s ++ l)) = z at *
            have hadd := fun w => run_string_add_sum (P := Try.prog) w z t (by omega)
            have HN := Lib.hid (fun w => next_any (z ++ t) 0 w (by rw [ByteArray.size_append]; omega))
            rw [HNX.out] at HN
            simp only [Nexts] at HN
            have het := empty_text
            go_wp2_with fail
            refine (HN.out _).mono ?_
            rintro e w2 ⟨rfl, hB2⟩
            have K2 := Lib.hid (HBB.out.trans (hB2.mono HBB.out.size))
            clear hB2
            go_wp2_with fail
            refine (awake_any _).mono ?_
            rintro e w4 ⟨rfl, hB4⟩
            have K4 := Lib.hid (K2.out.trans (hB4.mono K2.out.size))
            clear hB4
            go_wp2
            go_ret
            exact ⟨rfl, K4.out⟩
        · have HNX := Lib.hid (turned_next t HT.out (by omega) hk hfr (by omega))
          have hsz : (strOfNums (ints (headL s ++ l))).size = h + s.size := by rw [strOfNums_size, ints, List.length_map, List.length_append, HH.out, HT.out.len]
          have hcv := row_conv (cap := cap) (n := h + s.size) HRR.out (by rw [List.length_append, HH.out, HT.out.len])
          generalize strOfNums (ints (headL s ++ l)) = z at *
          have hadd := fun w => run_string_add_sum (P := Try.prog) w z t (by omega)
          have HN := Lib.hid (fun w => next_any (z ++ t) 0 w (by rw [ByteArray.size_append]; omega))
          rw [HNX.out] at HN
          simp only [Nexts] at HN
          have het := empty_text
          go_wp2_with fail
          refine (HN.out _).mono ?_
          rintro e w2 ⟨rfl, hB2⟩
          have K2 := Lib.hid (HBB.out.trans (hB2.mono HBB.out.size))
          clear hB2
          go_wp2_with fail
          refine (awake_any _).mono ?_
          rintro e w4 ⟨rfl, hB4⟩
          have K4 := Lib.hid (K2.out.trans (hB4.mono K2.out.size))
          clear hB4
          go_wp2
          go_ret
          exact ⟨rfl, K4.out⟩
theorem turned_law (s : ByteArray) (a p : Int) (t : ByteArray) (w : World) (hs : s.size ≤ 140737488351232) (ha : 0 ≤ a ∧ a < 65536) (hp : 0 ≤ p ∧ p < 4294967296) (ht : t.size ≤ 140737488351232) :
    Calls Try.prog 4 #[.string s, .int .u16 a, .int .u32 p, .string t] w fun e w' => e = .returned (.bool true) ∧ Below w.heap.size w w' := by
  obtain ⟨k, rfl⟩ := Int.eq_ofNat_of_zero_le ha.1
  obtain ⟨m, rfl⟩ := Int.eq_ofNat_of_zero_le hp.1
  exact turned_any s k m t w hs (by omega) (by omega) ht
end Go.Proofs.Ytjjhbkmmkhkjnaa
