/- The walks of numbers as bytes: the program's Get. -/
import Derived.Test.YtjjhbkmmkhkjnaaPut
import Derived.Laws.BitsAllLaws
namespace Go.Proofs.Ytjjhbkmmkhkjnaa
open Go.RowKit Law

/-- A text's bytes. -/
def bl (s : ByteArray) : List Nat := s.data.toList.map UInt8.toNat
theorem bl_length (s : ByteArray) : (bl s).length = s.size := by unfold bl; rw [List.length_map]; rfl
theorem bl_get (s : ByteArray) (i : Nat) (h : i < s.size) : (bl s)[i]'(by rw [bl_length]; exact h) = s[i].toNat := by simp [bl, ByteArray.getElem_eq_getElem_data]
theorem bl_lt (s : ByteArray) : ∀ b ∈ bl s, b < 256 := by
  intro b hb
  obtain ⟨x, _, rfl⟩ := List.mem_map.1 hb
  exact UInt8.toNat_lt x
theorem bl_strOf (l : List Nat) (h : ∀ b ∈ l, b < 256) : bl (strOfNums (ints l)) = l := by
  unfold bl
  rw [strOfNums_data, ints, List.map_map, List.map_map]
  conv => rhs; rw [← List.map_id l]
  apply List.map_congr_left
  intro b hb
  have := h b hb
  simp [UInt8.toNat_ofNat', Nat.mod_eq_of_lt this]

/-- The number at a place, and the place behind it. -/
def getR (l : List Nat) (at_ : Int) : Nat × Int × Int :=
  if at_ < 0 ∨ (l.length : Int) < at_ then (0, 0, 1) else if at_ = l.length then (0, 0, 2)
  else if l[at_.toNat]?.getD 0 < 248 then (l[at_.toNat]?.getD 0, at_ + 1, 0)
  else if l.length - (at_.toNat + 1) < l[at_.toNat]?.getD 0 - 247 then (0, 0, 2)
  else if bev ((l.drop (at_.toNat + 1)).take (l[at_.toNat]?.getD 0 - 247)) < 248 ∨ nb (bev ((l.drop (at_.toNat + 1)).take (l[at_.toNat]?.getD 0 - 247))) ≠ l[at_.toNat]?.getD 0 - 247 then (0, 0, 4)
  else (bev ((l.drop (at_.toNat + 1)).take (l[at_.toNat]?.getD 0 - 247)), at_ + 1 + ((l[at_.toNat]?.getD 0 - 247 : Nat) : Int), 0)

def Gets (r : Nat × Int × Int) : Ending := .returned (.tuple #[.int .u64 r.1, .int .i64 r.2.1, .int .i64 r.2.2])

theorem or_step (v b : Nat) (hv : v < 256 ^ 7) (hb : b < 2 ^ 8) : bits .or .u64 (IntKind.u64.wrap ((v : Int) * 256)) (IntKind.u64.wrap (b : Int)) = ((v * 256 + b : Nat) : Int) := by
  have e1 : IntKind.u64.wrap ((v : Int) * 256) = ((v * 256 : Nat) : Int) := by rw [IntKind.wrap_u64]; omega
  have e2 : IntKind.u64.wrap (b : Int) = (b : Int) := by rw [IntKind.wrap_u64]; omega
  rw [e1, e2, u64_or_nat _ _ (by omega) (by omega), nat_join 8 (v * 256) b (by omega) (by omega)]

set_option maxHeartbeats 1000000 in
set_option maxRecDepth 100000 in
theorem get_any (s : ByteArray) (at_ : Int) (w : World) (hs : s.size ≤ 9223372036854775807) : Calls Try.prog 18 #[.string s, .int .i64 at_] w fun e w' => e = Gets (getR (bl s) at_) ∧ w = w' := by
  have hlen := bl_length s
  by_cases h1 : at_ < 0
  · rw [show getR (bl s) at_ = (0, 0, 1) by unfold getR; rw [if_pos (.inl h1)]]
    clear hlen
    go_enter Try.func18, Try.ntmps18
    go_wp2
    go_ret3
    exact ⟨rfl, rfl⟩
  by_cases h2 : (s.size : Int) < at_
  · rw [show getR (bl s) at_ = (0, 0, 1) by unfold getR; rw [if_pos (.inr (by rw [hlen]; exact h2))]]
    clear hlen
    go_enter Try.func18, Try.ntmps18
    go_wp2
    go_ret3
    exact ⟨rfl, rfl⟩
  obtain ⟨a, rfl⟩ := Int.eq_ofNat_of_zero_le (show 0 ≤ at_ by omega)
  by_cases h3 : a = s.size
  · rw [show getR (bl s) (a : Int) = (0, 0, 2) by unfold getR; rw [if_neg (by rw [hlen]; omega), if_pos (by rw [hlen]; omega)]]
    have he : ((a : Int) == (s.size : Int)) = true := by simp; omega
    have H3 := Lib.hid h3
    clear hlen h3
    go_enter Try.func18, Try.ntmps18
    go_wp2
    go_ret3
    exact ⟨rfl, rfl⟩
  have ha : a < s.size := by omega
  have he : ((a : Int) == (s.size : Int)) = false := by simp; omega
  have hb : (bl s)[(a : Int).toNat]?.getD 0 = s[a].toNat := by
    rw [Int.toNat_natCast, List.getElem?_eq_getElem (by rw [hlen]; exact ha)]
    exact bl_get s a ha
  have hg : getR (bl s) (a : Int) = if s[a].toNat < 248 then (s[a].toNat, (a : Int) + 1, 0)
      else if s.size - (a + 1) < s[a].toNat - 247 then (0, 0, 2)
      else if bev (((bl s).drop (a + 1)).take (s[a].toNat - 247)) < 248 ∨ nb (bev (((bl s).drop (a + 1)).take (s[a].toNat - 247))) ≠ s[a].toNat - 247 then (0, 0, 4)
      else (bev (((bl s).drop (a + 1)).take (s[a].toNat - 247)), (a : Int) + 1 + ((s[a].toNat - 247 : Nat) : Int), 0) := by
    unfold getR
    rw [if_neg (by rw [hlen]; omega), if_neg (by rw [hlen]; omega), hb, hlen, Int.toNat_natCast]
  have hlt256 := UInt8.toNat_lt s[a]
  clear hb hlen h3
  by_cases h4 : s[a].toNat < 248
  · rw [hg, if_pos h4]
    clear hg
    go_enter Try.func18, Try.ntmps18
    go_wp2
    go_ret3
    exact ⟨rfl, rfl⟩
  · rw [hg, if_neg h4]
    clear hg
    by_cases h5 : s.size - (a + 1) < s[a].toNat - 247
    · rw [if_pos h5]
      go_enter Try.func18, Try.ntmps18
      go_wp2
      go_ret3
      exact ⟨rfl, rfl⟩
    rw [if_neg h5]
    obtain ⟨l, hle, hL, hLb, hLi⟩ : ∃ l, (bl s).drop (a + 1) = l ∧ l.length = s.size - (a + 1) ∧ (∀ b ∈ l, b < 256) ∧ ∀ i, (h : i < s.size - (a + 1)) → l[i]? = some ((s.extract (a + 1) s.size)[i]'(by rw [ByteArray.size_extract]; omega)).toNat :=
      ⟨_, rfl, by rw [List.length_drop, bl_length], fun b hb => bl_lt s b (List.mem_of_mem_drop hb), fun i h => by
        rw [List.getElem?_drop, List.getElem?_eq_getElem (by rw [bl_length]; omega), bl_get s (a + 1 + i) (by omega)]
        congr 2
        rw [ByteArray.getElem_extract]⟩
    rw [hle]
    clear hle
    have hr : ∃ r, (if bev (l.take (s[a].toNat - 247)) < 248 ∨ nb (bev (l.take (s[a].toNat - 247))) ≠ s[a].toNat - 247 then ((0, 0, 4) : Nat × Int × Int)
        else (bev (l.take (s[a].toNat - 247)), (a : Int) + 1 + ((s[a].toNat - 247 : Nat) : Int), 0)) = r ∧ (bev (l.take (s[a].toNat - 247)) < 248 → r = (0, 0, 4)) ∧ (nb (bev (l.take (s[a].toNat - 247))) ≠ s[a].toNat - 247 → r = (0, 0, 4)) ∧
        (¬ bev (l.take (s[a].toNat - 247)) < 248 → nb (bev (l.take (s[a].toNat - 247))) = s[a].toNat - 247 → r = (bev (l.take (s[a].toNat - 247)), (a : Int) + 1 + ((s[a].toNat : Int) - 247), 0)) :=
      ⟨_, rfl, fun h => if_pos (.inl h), fun h => if_pos (.inr h), fun h h' => by
        rw [if_neg (by rintro (x | x); exact h x; exact x h'), show ((s[a].toNat - 247 : Nat) : Int) = (s[a].toNat : Int) - 247 by omega]⟩
    obtain ⟨r, hre, hr1, hr2, hr3⟩ := hr
    rw [hre]
    clear hre
    have HR1 := Lib.hid hr1
    have HR2 := Lib.hid hr2
    have HR3 := Lib.hid hr3
    clear hr1 hr2 hr3
    have HL := Lib.hid hL
    have HLB := Lib.hid hLb
    have HLI := Lib.hid hLi
    clear hL hLb hLi
    go_enter Try.func18, Try.ntmps18
    go_wp2
    go_loop [9, 50] (fun n i => ∃ j : Nat, j ≤ s[a].toNat - 247 ∧ i = .int .i64 (j : Int) ∧ n = .int .u64 ((bev (l.take j) : Nat) : Int)) (fun _ i => (s[a].toNat - 247) - (intOf i).toNat)
    case atStart => exact ⟨0, Nat.zero_le _, rfl, rfl⟩
    case round =>
      obtain ⟨j, hj, rfl, rfl⟩ := hrel
      by_cases hlt : j < s[a].toNat - 247
      · have hjl : j < s.size - (a + 1) := by omega
        have hb := HLI.out j hjl
        have hstep : bev (l.take (j + 1)) = bev (l.take j) * 256 + ((s.extract (a + 1) s.size)[j]'(by rw [ByteArray.size_extract]; omega)).toNat := by
          rw [List.take_add_one, hb]
          exact bev_snoc _ _
        have hlt1 : bev (l.take j) < 256 ^ j := by
          have := bev_lt (l.take j) (fun x hx => HLB.out x (List.mem_of_mem_take hx))
          rwa [List.length_take, Nat.min_eq_left (by have := HL.out; omega)] at this
        have hlt2 : 256 ^ j ≤ 256 ^ 7 := Nat.pow_le_pow_right (by omega) (by omega)
        have HS := Lib.hid hstep
        have H1 := Lib.hid hlt1
        have H2 := Lib.hid hlt2
        clear hb hstep hlt1 hlt2
        go_wp2
        go_round
        case rel => exact ⟨j + 1, by omega, by go_num, by
          rw [HS.out]
          exact congrArg (Value.int .u64) (or_step _ _ (by have := H1.out; have := H2.out; omega) (UInt8.toNat_lt _))⟩
        case measure => simp [intOf]; omega
      · obtain rfl : j = s[a].toNat - 247 := by omega
        have hV : bev (l.take (s[a].toNat - 247)) < 256 ^ 8 := by
          have h1 := bev_lt (l.take (s[a].toNat - 247)) (fun x hx => HLB.out x (List.mem_of_mem_take hx))
          rw [List.length_take, Nat.min_eq_left (by have := HL.out; omega)] at h1
          have h2 : 256 ^ (s[a].toNat - 247) ≤ 256 ^ 8 := Nat.pow_le_pow_right (by omega) (by omega)
          omega
        generalize bev (l.take (s[a].toNat - 247)) = V at *
        by_cases h6 : V < 248
        · have hr := HR1.out h6
          subst hr
          go_wp2
          go_ret3
          exact ⟨rfl, rfl⟩
        · have HN := Lib.hid (needs_any V w hV)
          by_cases h7 : nb V = s[a].toNat - 247
          · have hr := HR3.out h6 h7
            have hne : ((nb V : Int) != (s[a].toNat : Int) - 247) = false := by simp; omega
            have H7 := Lib.hid h7
            subst hr
            clear h7 hV
            go_wp2_with fail
            refine HN.out.mono ?_
            rintro e w1 ⟨rfl, rfl⟩
            go_wp2
            go_ret3
            exact ⟨rfl, rfl⟩
          · have hr := HR2.out h7
            have hne : ((nb V : Int) != (s[a].toNat : Int) - 247) = true := by simp; omega
            have H7 := Lib.hid h7
            subst hr
            clear h7 hV
            go_wp2_with fail
            refine HN.out.mono ?_
            rintro e w1 ⟨rfl, rfl⟩
            go_wp2
            go_ret3
            exact ⟨rfl, rfl⟩
end Go.Proofs.Ytjjhbkmmkhkjnaa
