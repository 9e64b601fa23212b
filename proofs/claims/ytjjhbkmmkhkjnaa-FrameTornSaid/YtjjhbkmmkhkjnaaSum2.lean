/- The walk of sum.Sum. -/
import Derived.Test.YtjjhbkmmkhkjnaaSum
namespace Go.Proofs.Ytjjhbkmmkhkjnaa
open Go.RowKit Crc

theorem xor_16 (v : Nat) (hv : v < 4294967296) : bits .xor .u32 ((v : Int) / 16) ((Tn 4 (v % 16) : Nat) : Int) = ((Tn 4 v : Nat) : Int) := by
  rw [Tn4 v]
  exact u32_xor_nat (v / 16) (Tn 4 (v % 16)) (by omega) (Tn_lt 4 _ (by omega))

set_option maxHeartbeats 1000000 in
set_option maxRecDepth 100000 in
theorem sum_any (s : ByteArray) (w : World) (hs : s.size ≤ 9223372036854775807) :
    Calls Try.prog 17 #[.string s] w fun e w' => e = .returned (.int .u32 ((sum (bl s) : Nat) : Int)) ∧ Below w.heap.size w w' := by
  have HLEN := Lib.hid (bl_length s)
  have HSUM := Lib.hid (show sum (bl s) = 4294967295 ^^^ crc 4294967295 (bl s) from rfl)
  have h0 : (4294967295 : Nat) < 2 ^ 32 := by omega
  generalize hM : (4294967295 : Nat) = M at h0
  have HC := Lib.hid (fun j => crc_lt ((bl s).take j) (fun x hx => bl_lt s x (List.mem_of_mem_take hx)) M h0)
  have HT := Lib.hid (fun j h => crc_take M (bl s) j h)
  have HE := Lib.hid (show crc M ((bl s).take s.size) = crc M (bl s) by rw [List.take_of_length_le (by rw [bl_length]; exact Nat.le_refl _)])
  have HM := Lib.hid hM
  clear h0 hM
  go_enter Try.func17, Try.ntmps17
  go_wp2
  go_loopw [3, 7] (fun x i wr => ∃ j : Nat, j ≤ s.size ∧ i = .int .i64 (j : Int) ∧ x = .int .u32 ((crc M ((bl s).take j) : Nat) : Int) ∧ Below w.heap.size w wr) (fun _ i _ => s.size - (intOf i).toNat)
  case atStart => exact ⟨0, Nat.zero_le _, rfl, by rw [List.take_zero, crc_nil, ← HM.out]; rfl, Below.refl _ _⟩
  case round =>
    obtain ⟨j, hj, rfl, rfl, hB⟩ := hrel
    have K1 := Lib.hid hB
    clear hB
    by_cases hlt : j < s.size
    · have hT := HT.out j (by rw [HLEN.out]; exact hlt)
      rw [bl_get s j hlt] at hT
      have hV := HC.out j
      have hmod : ((s[j].toNat : Nat) : Int) % 4294967296 = ((s[j].toNat : Nat) : Int) := by have := UInt8.toNat_lt s[j]; omega
      have hx : bits .xor .u32 ((crc M ((bl s).take j) : Nat) : Int) (((s[j].toNat : Nat) : Int) % 4294967296) = ((crc M ((bl s).take j) ^^^ s[j].toNat : Nat) : Int) := by
        rw [hmod]
        exact u32_xor_nat (crc M ((bl s).take j)) s[j].toNat hV (by have := UInt8.toNat_lt s[j]; omega)
      clear hmod
      have hY : crc M ((bl s).take j) ^^^ s[j].toNat < 2 ^ 32 := Nat.xor_lt_two_pow hV (by have := UInt8.toNat_lt s[j]; omega)
      rw [show (8 : Nat) = 4 + 4 from rfl, Tn_add] at hT
      have hY4 := Tn_lt 4 _ hY
      have HX := Lib.hid hT
      generalize hV1 : crc M ((bl s).take (j + 1)) = V' at *
      have HVV := Lib.hid hV1
      clear hV1 hT hV
      generalize crc M ((bl s).take j) = V at *
      generalize V ^^^ s[j].toNat = y at *
      have e1 := xor_16 y hY
      have e2 := xor_16 (Tn 4 y) hY4
      have H1 := Lib.hid (fun w => halves_any y w hY)
      have H2 := Lib.hid (fun w => halves_any (Tn 4 y) w hY4)
      generalize Tn 4 (y % 16) = t1 at *
      generalize Tn 4 y = y4 at *
      generalize Tn 4 (y4 % 16) = t2 at *
      generalize Tn 4 y4 = y8 at *
      go_wp2_with fail
      refine (H1.out _).mono ?_
      rintro e w1 ⟨rfl, hB1⟩
      have K2 := Lib.hid (K1.out.trans (hB1.mono K1.out.size))
      clear hB1
      go_wp2_with fail
      refine (H2.out _).mono ?_
      rintro e w2 ⟨rfl, hB2⟩
      have K3 := Lib.hid (K2.out.trans (hB2.mono K2.out.size))
      clear hB2
      go_wp2
      go_roundw
      case rel => exact ⟨j + 1, by omega, by go_num, by rw [HVV.out, HX.out], K3.out⟩
      case measure => simp [intOf]; omega
    · obtain rfl : j = s.size := by omega
      have h1 := HC.out s.size
      rw [HE.out] at h1
      rw [HE.out]
      have h2 := not_nat (crc M (bl s)) h1
      have hfin : sum (bl s) = 4294967295 ^^^ crc M (bl s) := by rw [HSUM.out, HM.out]
      have HF := Lib.hid hfin
      clear h1 hfin
      go_wp2
      go_ret
      exact ⟨by rw [HF.out]; rfl, K1.out⟩
end Go.Proofs.Ytjjhbkmmkhkjnaa
