/- The walk of the reference's Get. -/
import Derived.Test.YtjjhbkmmkhkjnaaRefPut
namespace Go.Proofs.Ytjjhbkmmkhkjnaa
open Go.RowKit Law

set_option maxHeartbeats 1000000 in
set_option maxRecDepth 100000 in
theorem refGet_any (s : ByteArray) (at_ : Int) (w : World) (hs : s.size ≤ 9223372036854775807) : Calls Try.prog 22 #[.string s, .int .i64 at_] w fun e w' => e = Gets (getR (bl s) at_) ∧ Below w.heap.size w w' := by
  have hlen := bl_length s
  by_cases h1 : at_ < 0
  · rw [show getR (bl s) at_ = (0, 0, 1) by unfold getR; rw [if_pos (.inl h1)]]
    clear hlen
    go_enter Try.func22, Try.ntmps22
    go_wp2
    go_ret3
    exact ⟨rfl, Below.refl _ _⟩
  by_cases h2 : (s.size : Int) < at_
  · rw [show getR (bl s) at_ = (0, 0, 1) by unfold getR; rw [if_pos (.inr (by rw [hlen]; exact h2))]]
    clear hlen
    go_enter Try.func22, Try.ntmps22
    go_wp2
    go_ret3
    exact ⟨rfl, Below.refl _ _⟩
  obtain ⟨a, rfl⟩ := Int.eq_ofNat_of_zero_le (show 0 ≤ at_ by omega)
  by_cases h3 : a = s.size
  · rw [show getR (bl s) (a : Int) = (0, 0, 2) by unfold getR; rw [if_neg (by rw [hlen]; omega), if_pos (by rw [hlen]; omega)]]
    have he : ((a : Int) == (s.size : Int)) = true := by simp; omega
    have H3 := Lib.hid h3
    clear hlen h3
    go_enter Try.func22, Try.ntmps22
    go_wp2
    go_ret3
    exact ⟨rfl, Below.refl _ _⟩
  have ha : a < s.size := by omega
  have he : ((a : Int) == (s.size : Int)) = false := by simp; omega
  have hb : (bl s)[(a : Int).toNat]?.getD 0 = s[a].toNat := by
    rw [Int.toNat_natCast, List.getElem?_eq_getElem (by rw [hlen]; exact ha)]
    exact bl_get s a ha
  have hg : getR (bl s) (a : Int) = if s[a].toNat < 248 then (s[a].toNat, (a : Int) + 1, 0)
      else if s.size - (a + 1) < s[a].toNat - 247 then (0, 0, 2)
      else if bev (((bl s).drop (a + 1)).take (s[a].toNat - 247)) < 248 ∨ nb (bev (((bl s).drop (a + 1)).take (s[a].toNat - 247))) ≠ s[a].toNat - 247 then (0, 0, 4)
      else (bev (((bl s).drop (a + 1)).take (s[a].toNat - 247)), (a : Int) + 1 + ((s[a].toNat - 247 : Nat) : Int), 0) := by
    unfold getR
    rw [if_neg (by rw [hlen]; omega), if_neg (by rw [hlen]; omega), hb, hlen, Int.toNat_natCast]
  have hlt256 := UInt8.toNat_lt s[a]
  clear hb hlen h3
  by_cases h4 : s[a].toNat < 248
  · rw [hg, if_pos h4]
    clear hg
    go_enter Try.func22, Try.ntmps22
    go_wp2
    go_ret3
    exact ⟨rfl, Below.refl _ _⟩
  · rw [hg, if_neg h4]
    clear hg
    by_cases h5 : s.size - (a + 1) < s[a].toNat - 247
    · rw [if_pos h5]
      go_enter Try.func22, Try.ntmps22
      go_wp2
      go_ret3
      exact ⟨rfl, Below.refl _ _⟩
    rw [if_neg h5]
    obtain ⟨l, hle, hL, hLb, hLi⟩ : ∃ l, (bl s).drop (a + 1) = l ∧ l.length = s.size - (a + 1) ∧ (∀ b ∈ l, b < 256) ∧ ∀ i, (h : a + (i + 1) < s.size) → l[i]? = some s[a + (i + 1)].toNat :=
      ⟨_, rfl, by rw [List.length_drop, bl_length], fun b hb => bl_lt s b (List.mem_of_mem_drop hb), fun i h => by
        rw [List.getElem?_drop, List.getElem?_eq_getElem (by rw [bl_length]; omega), bl_get s (a + 1 + i) (by omega)]
        congr 3
        omega⟩
    rw [hle]
    clear hle
    have hr : ∃ r, (if bev (l.take (s[a].toNat - 247)) < 248 ∨ nb (bev (l.take (s[a].toNat - 247))) ≠ s[a].toNat - 247 then ((0, 0, 4) : Nat × Int × Int)
        else (bev (l.take (s[a].toNat - 247)), (a : Int) + 1 + ((s[a].toNat - 247 : Nat) : Int), 0)) = r ∧
        ((putL (bev (l.take (s[a].toNat - 247)))).length ≠ s[a].toNat - 247 + 1 → r = (0, 0, 4)) ∧
        ((putL (bev (l.take (s[a].toNat - 247)))).length = s[a].toNat - 247 + 1 → r = (bev (l.take (s[a].toNat - 247)), (a : Int) + ((s[a].toNat - 247 : Nat) : Int) + 1, 0)) := by
      rw [putL_length]
      refine ⟨_, rfl, fun h => if_pos ?_, fun h => ?_⟩
      · split at h
        · exact .inl (by assumption)
        · exact .inr (by omega)
      · split at h
        · omega
        · rw [if_neg (by rintro (x | x); contradiction; omega)]
          congr 2
          omega
    obtain ⟨r, hre, hr1, hr2⟩ := hr
    rw [hre]
    clear hre
    have hk1 : 1 ≤ s[a].toNat - 247 := by omega
    have hk8 : s[a].toNat - 247 ≤ 8 := by omega
    have hsub : (s[a].toNat : Int) - 247 = ((s[a].toNat - 247 : Nat) : Int) := by omega
    have hks : a + 1 + (s[a].toNat - 247) ≤ s.size := by omega
    clear h4 h5 hlt256
    have HR1 := Lib.hid hr1
    have HR2 := Lib.hid hr2
    clear hr1 hr2
    have HL := Lib.hid hL
    have HLB := Lib.hid hLb
    have HLI := Lib.hid hLi
    clear hL hLb hLi
    generalize hK : s[a].toNat - 247 = k at *
    have HK := Lib.hid hK
    clear hK
    go_enter Try.func22, Try.ntmps22
    go_wp2
    go_loop [8, 9] (fun n i => ∃ j : Nat, j ≤ k ∧ i = .int .i64 ((j : Int) + 1) ∧ n = .int .u64 ((bev (l.take j) : Nat) : Int)) (fun _ i => k + 1 - (intOf i).toNat)
    case atStart => exact ⟨0, Nat.zero_le _, rfl, rfl⟩
    case round =>
      obtain ⟨j, hj, rfl, rfl⟩ := hrel
      by_cases hlt : j < k
      · have hb := HLI.out j (by omega)
        have hstep : bev (l.take (j + 1)) = bev (l.take j) * 256 + s[a + (j + 1)].toNat := by
          rw [List.take_add_one, hb]
          exact bev_snoc _ _
        have hlt1 : bev (l.take j) < 256 ^ j := by
          have := bev_lt (l.take j) (fun x hx => HLB.out x (List.mem_of_mem_take hx))
          rwa [List.length_take, Nat.min_eq_left (by have := HL.out; omega)] at this
        have hlt2 : 256 ^ j ≤ 256 ^ 7 := Nat.pow_le_pow_right (by omega) (by omega)
        have hlt3 : bev (l.take j) < 72057594037927936 := by omega
        have HS := Lib.hid hstep
        clear hb hstep hlt1 hlt2
        generalize bev (l.take j) = v at *
        go_wp2
        go_round
        case rel =>
          exact ⟨j + 1, by omega, by go_num, by
            rw [HS.out, IntKind.wrap_u64, IntKind.wrap_u64]
            have h256 := UInt8.toNat_lt s[a + (j + 1)]
            congr 1
            omega⟩
        case measure => simp [intOf]; omega
      · obtain rfl : j = k := by omega
        have hV : bev (l.take j) < 256 ^ 8 := by
          have h1 := bev_lt (l.take j) (fun x hx => HLB.out x (List.mem_of_mem_take hx))
          rw [List.length_take, Nat.min_eq_left (by have := HL.out; omega)] at h1
          have h2 : 256 ^ j ≤ 256 ^ 8 := Nat.pow_le_pow_right (by omega) (by omega)
          omega
        generalize bev (l.take j) = V at *
        have HP := Lib.hid (fun w => refPut_any V w (by omega))
        have hsz := putS_size V
        by_cases h6 : (putL V).length = j + 1
        · have hr := HR2.out h6
          have hne : (((putS V).size : Int) != (j : Int) + 1) = false := by rw [hsz, h6]; simp
          subst hr
          clear hsz h6 hV HR1 HR2
          generalize putS V = ps at *
          go_wp2_with fail
          refine (HP.out _).mono ?_
          rintro e w1 ⟨rfl, hB⟩
          have K := Lib.hid hB
          clear hB
          go_wp2
          go_ret3
          exact ⟨rfl, K.out⟩
        · have hr := HR1.out h6
          have hne : (((putS V).size : Int) != (j : Int) + 1) = true := by rw [hsz]; simp; omega
          subst hr
          clear hsz h6 hV HR1 HR2
          generalize putS V = ps at *
          go_wp2_with fail
          refine (HP.out _).mono ?_
          rintro e w1 ⟨rfl, hB⟩
          have K := Lib.hid hB
          clear hB
          go_wp2
          go_ret3
          exact ⟨rfl, K.out⟩
end Go.Proofs.Ytjjhbkmmkhkjnaa
