/- The walk of SumThree: three texts, bit by bit together. -/
import Derived.Test.YthechafniolbnaaBytes
import Derived.StillTailTactics
import Derived.Deep.Cut
import Derived.Deep.CutRange
import Derived.Deep.RegionHeld3
namespace Go.Proofs.Ythechafniolbnaa
open Go.RowKit Crc

/-- A text's byte, 0 behind its end. -/
def byteAt (s : ByteArray) (i : Nat) : Nat := (bl s)[i]?.getD 0
theorem byteAt_get (s : ByteArray) (i : Nat) (h : i < s.size) : byteAt s i = s[i].toNat := by
  unfold byteAt
  rw [List.getElem?_eq_getElem (by rw [bl_length]; exact h), bl_get s i h]; rfl
theorem byteAt_lt (s : ByteArray) (i : Nat) : byteAt s i < 256 := by
  unfold byteAt
  by_cases h : i < (bl s).length
  · rw [List.getElem?_eq_getElem h]; exact bl_lt s _ (List.getElem_mem h)
  · rw [List.getElem?_eq_none (by omega)]; decide
/-- The three together, as far as they are made. -/
def xl (a b c : ByteArray) (n k : Nat) : List Nat := (List.range n).map fun i => if i < k then byteAt a i ^^^ byteAt b i ^^^ byteAt c i else 0
theorem xl_length (a b c : ByteArray) (n k : Nat) : (xl a b c n k).length = n := by simp [xl]
theorem xl_get (a b c : ByteArray) (n k i : Nat) (hi : i < n) : (xl a b c n k)[i]? = some (if i < k then byteAt a i ^^^ byteAt b i ^^^ byteAt c i else 0) := by
  unfold xl
  rw [List.getElem?_map, List.getElem?_range hi]; rfl
theorem xl_zero (a b c : ByteArray) (n : Nat) : xl a b c n 0 = List.replicate n 0 := by
  apply List.ext_getElem?
  intro i
  by_cases hi : i < n
  · rw [xl_get _ _ _ _ _ _ hi, List.getElem?_replicate, if_pos hi]; rfl
  · rw [List.getElem?_eq_none (by rw [xl_length]; omega), List.getElem?_eq_none (by simp; omega)]
theorem xl_set (a b c : ByteArray) (n k : Nat) (hk : k < n) : (xl a b c n k).set k (byteAt a k ^^^ byteAt b k ^^^ byteAt c k) = xl a b c n (k + 1) := by
  apply List.ext_getElem?
  intro i
  by_cases hi : i < n
  · rw [List.getElem?_set, xl_get _ _ _ _ _ _ hi, xl_get _ _ _ _ _ _ hi, xl_length]
    by_cases h : k = i
    · subst h; simp [hk]
    · rw [if_neg h]; congr 1
      by_cases h2 : i < k
      · rw [if_pos h2, if_pos (by omega)]
      · rw [if_neg h2, if_neg (by omega)]
  · rw [List.getElem?_eq_none (by rw [List.length_set, xl_length]; omega), List.getElem?_eq_none (by rw [xl_length]; omega)]
theorem xor3_lt (x y z : Nat) (h1 : x < 256) (h2 : y < 256) (h3 : z < 256) : x ^^^ y ^^^ z < 256 := Nat.xor_lt_two_pow (n := 8) (Nat.xor_lt_two_pow (n := 8) h1 h2) h3
theorem xl_lt (a b c : ByteArray) (n k : Nat) : ∀ x ∈ xl a b c n k, x < 256 := by
  intro x hx
  obtain ⟨i, _, rfl⟩ := List.mem_map.1 hx
  split
  · exact xor3_lt _ _ _ (byteAt_lt _ _) (byteAt_lt _ _) (byteAt_lt _ _)
  · decide
theorem three_sum (a b c : ByteArray) (n : Nat) (h1 : n ≤ a.size) (h2 : n ≤ b.size) (h3 : n ≤ c.size) :
    sum (bl (ofL (xl a b c n n))) = sum (bl (a.extract 0 n)) ^^^ sum (bl (b.extract 0 n)) ^^^ sum (bl (c.extract 0 n)) := by
  rw [bl_ofL _ (xl_lt a b c n n), bl_take, bl_take, bl_take]
  refine sum_xor3 _ _ _ _ n (by rw [List.length_take, bl_length]; omega) (by rw [List.length_take, bl_length]; omega) (by rw [List.length_take, bl_length]; omega) (xl_length ..)
    (fun y hy => bl_lt _ _ (List.mem_of_mem_take hy)) (fun y hy => bl_lt _ _ (List.mem_of_mem_take hy)) (fun y hy => bl_lt _ _ (List.mem_of_mem_take hy)) (fun i hi => ?_)
  rw [xl_get _ _ _ _ _ _ hi, if_pos hi, List.getElem?_take_of_lt hi, List.getElem?_take_of_lt hi, List.getElem?_take_of_lt hi]
  rfl
theorem xor3_u8 (x y z : Nat) (h1 : x < 256) (h2 : y < 256) (h3 : z < 256) : bits .xor .u8 (bits .xor .u8 (x : Int) (y : Int)) (z : Int) = ((x ^^^ y ^^^ z : Nat) : Int) := by
  rw [u8_xor_nat x y h1 h2]
  exact u8_xor_nat _ z (Nat.xor_lt_two_pow (n := 8) h1 h2) h3
theorem xor3_u32 (x y z : Nat) (h1 : x < 4294967296) (h2 : y < 4294967296) (h3 : z < 4294967296) : bits .xor .u32 (bits .xor .u32 (x : Int) (y : Int)) (z : Int) = ((x ^^^ y ^^^ z : Nat) : Int) := by
  rw [u32_xor_nat x y h1 h2]
  exact u32_xor_nat _ z (Nat.xor_lt_two_pow (n := 32) h1 h2) h3

theorem conv_of {w : World} {g n : Nat} {l : List Nat} (h : Blk w g 5 (byteV l)) (hl : l.length = n) :
    (convert 25 9 (.slice (some ⟨g, 0, none⟩) n n)).run Try.prog w = .ok (.string (ofL l)) w := conv_row w g n n l hl (fun i hi => h.row i hi)

set_option maxHeartbeats 1000000 in
set_option maxRecDepth 100000 in
theorem three_any (a b c : ByteArray) (w : World) (ha : a.size ≤ 140737488351232) :
    Calls Try.prog 4 #[.string a, .string b, .string c] w fun e w' => e = .returned (.bool true) ∧ Below w.heap.size w w' := by
  go_enter Try.func4, Try.ntmps4
  go_upto_region 1 with fail
  go_cut [7] from 10 to 17 (fun x wx => ∃ n : Nat, n ≤ a.size ∧ n ≤ b.size ∧ n ≤ c.size ∧ x = .int .i64 (n : Int) ∧ wx = w)
  case first =>
    go_wp2_with fail
    all_goals
      go_meet
      first
        | exact ⟨a.size, by omega, by omega, by omega, rfl, rfl⟩
        | exact ⟨b.size, by omega, by omega, by omega, rfl, rfl⟩
        | exact ⟨c.size, by omega, by omega, by omega, rfl, rfl⟩
  case rest =>
    obtain ⟨n, h1, h2, h3, rfl, rfl⟩ := hcut
    have hmk := fun w => make_row n (by omega) w
    rw [← xl_zero a b c n] at hmk
    have HB0 := Lib.hid (Blk.new wc 5 (byteV (xl a b c n 0)))
    have HK0 := Lib.hid ((Below.refl wc.heap.size wc).alloc (Nat.le_refl _) (.cells (byteV (xl a b c n 0)) 5))
    go_wp2
    go_loopw [9] (fun i wr => ∃ k : Nat, k ≤ n ∧ i = .int .i64 (k : Int) ∧ Blk wr wc.heap.size 5 (byteV (xl a b c n k)) ∧ Below wc.heap.size wc wr) (fun i _ => n - (intOf i).toNat)
    case atStart => exact ⟨0, by omega, rfl, HB0.out, HK0.out⟩
    case round =>
      obtain ⟨k, hk, rfl, hB, hK⟩ := hrel
      by_cases hkn : k < n
      · have hla : k < a.size := by omega
        have hlb : k < b.size := by omega
        have hlc : k < c.size := by omega
        have hB' : Blk wr.drew wc.heap.size 5 (byteV (xl a b c n k)) := hB
        have hK' : Below wc.heap.size wc wr.drew := below_drewN hK 1
        have hc0 := hB.row k (by rw [xl_length]; exact hkn)
        have hz0 := hB.frozen k
        have hs := hB'.set_ k (.int .u8 ((byteAt a k ^^^ byteAt b k ^^^ byteAt c k : Nat) : Int))
        rw [byteV_set, xl_set a b c n k hkn] at hs
        have hx := xor3_u8 (byteAt a k) (byteAt b k) (byteAt c k) (byteAt_lt _ _) (byteAt_lt _ _) (byteAt_lt _ _)
        rw [byteAt_get a k hla, byteAt_get b k hlb, byteAt_get c k hlc] at hs hx
        have HS := Lib.hid hs
        have HK := Lib.hid (hK'.setCell (p := ⟨wc.heap.size, k, none⟩) (Nat.le_refl _) (.int .u8 ((a[k].toNat ^^^ b[k].toNat ^^^ c[k].toNat : Nat) : Int)))
        clear hs hB hK hB' hK'
        generalize (xl a b c n k)[k]'_ = old at hc0
        generalize a[k].toNat ^^^ b[k].toNat ^^^ c[k].toNat = v at *
        go_wp2_with fail
        go_still_tail 14, (by kernel_rfl)
        change wpList _ _ _ _ _ wr.drew
        go_wp2
        go_roundw
        case rel => exact ⟨k + 1, by omega, by go_num, HS.out, HK.out⟩
        case measure => simp [intOf]; omega
      · obtain rfl : k = n := by omega
        have hB' : Blk wr.drew wc.heap.size 5 (byteV (xl a b c k k)) := hB
        have hK' : Below wc.heap.size wc wr.drew := below_drewN hK 1
        have HB := Lib.hid hB'
        have HK := Lib.hid hK'
        have HL := Lib.hid (xl_length a b c k k)
        have HT := Lib.hid (three_sum a b c k h1 h2 h3)
        have s1 := sum_lt (a.extract 0 k)
        have s2 := sum_lt (b.extract 0 k)
        have s3 := sum_lt (c.extract 0 k)
        have hx := xor3_u32 _ _ _ s1 s2 s3
        rw [← HT.out] at hx
        have hsz : ∀ s : ByteArray, (s.extract 0 k).size ≤ 9223372036854775807 := fun s => by rw [ByteArray.size_extract]; omega
        have HA := Lib.hid (fun w => sum_any (a.extract 0 k) w (hsz a))
        have HBB := Lib.hid (fun w => sum_any (b.extract 0 k) w (hsz b))
        have HC := Lib.hid (fun w => sum_any (c.extract 0 k) w (hsz c))
        have HX := Lib.hid (fun w => sum_any (ofL (xl a b c k k)) w (by rw [ofL_size, xl_length]; omega))
        clear hmk HB0 HK0 hB hK hB' hK' s1 s2 s3 HT hsz
        generalize xl a b c k k = xs at *
        generalize sum (bl (ofL xs)) = r0 at *
        have hconv : (convert 25 9 (.slice (some ⟨wc.heap.size, 0, none⟩) k k)).run Try.prog wr.drew = .ok (.string (ofL xs)) wr.drew := conv_of HB.out HL.out
        go_wp2_with fail
        go_region_held3 (fun w' => (convert 25 9 (.slice (some ⟨wc.heap.size, 0, none⟩) k k)).run Try.prog w' = .ok (.string (ofL xs)) w')
          (first | (exact conv_of N5.out HL.out) | (exact conv_of N4.out HL.out) | (exact conv_of N3.out HL.out) | (exact conv_of N2.out HL.out) | (exact conv_of N1.out HL.out) | (exact conv_of HB.out HL.out) | go_keep)
          (first
            | (go_at_call 9
               refine (HX.out _).mono ?_
               rintro e wA ⟨rfl, hBA⟩
               have N1 := Lib.hid (HB.out.below hBA HB.out.lt)
               have K1 := Lib.hid (HK.out.trans (hBA.mono HK.out.size))
               clear hBA HX)
            | (go_at_call 9
               refine (HA.out _).mono ?_
               rintro e wB ⟨rfl, hBA⟩
               have N2 := Lib.hid (N1.out.below hBA N1.out.lt)
               have K2 := Lib.hid (K1.out.trans (hBA.mono K1.out.size))
               clear hBA HA)
            | (go_at_call 9
               refine (HBB.out _).mono ?_
               rintro e wC ⟨rfl, hBA⟩
               have N3 := Lib.hid (N2.out.below hBA N2.out.lt)
               have K3 := Lib.hid (K2.out.trans (hBA.mono K2.out.size))
               clear hBA HBB)
            | (go_at_call 9
               refine (HC.out _).mono ?_
               rintro e wD ⟨rfl, hBA⟩
               have N4 := Lib.hid (N3.out.below hBA N3.out.lt)
               have K4 := Lib.hid (K3.out.trans (hBA.mono K3.out.size))
               clear hBA HC)
            | (go_at_call 8
               refine (awake_any _).mono ?_
               rintro e wE ⟨rfl, hBA⟩
               have N5 := Lib.hid (N4.out.below hBA N4.out.lt)
               have K5 := Lib.hid (K4.out.trans (hBA.mono K4.out.size))
               clear hBA))
        go_wp2
        go_ret
        exact ⟨rfl, K5.out⟩
end Go.Proofs.Ythechafniolbnaa
