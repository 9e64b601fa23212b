/- The walks of layer 3: the reference. -/
import Derived.Test.YtjjhbkmmkhkjnaaGet
import Derived.Test.YtjjhbkmmkhkjnaaCrcLaw
import Derived.WalkKit
import Derived.WalkSpells
import Derived.WalkLawsBesides
import Derived.Below
import Derived.Lib.Hide
import Derived.BigQuiet
import Derived.Deep.QuietTactic
import Derived.Outline
import Derived.OwnWalk
import Derived.Maps.AppendAt
import Derived.Deep.DeepMust
import Derived.Laws.Bits64
import Derived.Laws.BitsAllLaws
namespace Go.Proofs.Ytjjhbkmmkhkjnaa
open Go.RowKit Crc

theorem not_nat (c : Nat) (hc : c < 4294967296) : bits .xor .u32 IntKind.u32.max (c : Int) = ((4294967295 ^^^ c : Nat) : Int) := u32_xor_nat 4294967295 c (by omega) hc
theorem and_one (v : Nat) (hv : v < 4294967296) : bits .and .u32 (v : Int) 1 = ((v % 2 : Nat) : Int) := by
  have h := u32_and_nat v 1 hv (by omega)
  rw [Nat.and_one_is_mod] at h
  exact h
theorem xor_poly (v : Nat) (hv : v < 4294967296) : bits .xor .u32 (v : Int) 3988292384 = ((v ^^^ poly : Nat) : Int) := u32_xor_nat v 3988292384 hv (by omega)
theorem T_one (v : Nat) (h : v % 2 = 1) : T v = v / 2 ^^^ poly := by unfold T; rw [if_pos h]
theorem T_none (v : Nat) (h : ¬ v % 2 = 1) : T v = v / 2 := by unfold T; rw [if_neg h]
theorem Tn_succ (n w : Nat) : Tn (n + 1) w = T (Tn n w) := by rw [Tn_add]; rfl
theorem crc_take (w : Nat) (l : List Nat) (j : Nat) (h : j < l.length) : crc w (l.take (j + 1)) = Tn 8 (crc w (l.take j) ^^^ l[j]) := by
  rw [List.take_succ_eq_append_getElem h, crc_append, crc_cons, crc_nil]

set_option maxHeartbeats 1000000 in
set_option maxRecDepth 100000 in
theorem refAdd_any (c : Nat) (s : ByteArray) (w : World) (hc : c < 4294967296) (hs : s.size ≤ 9223372036854775807) :
    Calls Try.prog 27 #[.int .u32 c, .string s] w fun e w' => e = .returned (.int .u32 ((4294967295 ^^^ crc (4294967295 ^^^ c) (bl s) : Nat) : Int)) ∧ w = w' := by
  have hlen := bl_length s
  have HLEN := Lib.hid hlen
  have hn := not_nat c hc
  have h0 : (4294967295 ^^^ c) < 2 ^ 32 := Nat.xor_lt_two_pow (by omega) (by omega)
  generalize (4294967295 ^^^ c) = M at *
  have HC := Lib.hid (fun j => crc_lt ((bl s).take j) (fun x hx => bl_lt s x (List.mem_of_mem_take hx)) M h0)
  have HT := Lib.hid (fun j h => crc_take M (bl s) j h)
  have HE := Lib.hid (show crc M ((bl s).take s.size) = crc M (bl s) by rw [List.take_of_length_le (by rw [bl_length]; exact Nat.le_refl _)])
  clear hlen h0
  go_enter Try.func27, Try.ntmps27
  go_wp2
  go_loop [5, 6] (fun x i => ∃ j : Nat, j ≤ s.size ∧ i = .int .i64 (j : Int) ∧ x = .int .u32 ((crc M ((bl s).take j) : Nat) : Int)) (fun _ i => s.size - (intOf i).toNat)
  case atStart => exact ⟨0, Nat.zero_le _, rfl, by rw [List.take_zero, crc_nil]⟩
  case round =>
    obtain ⟨j, hj, rfl, rfl⟩ := hrel
    by_cases hlt : j < s.size
    · have hT := HT.out j (by rw [HLEN.out]; exact hlt)
      rw [bl_get s j hlt] at hT
      have hV := HC.out j
      have hmod : ((s[j].toNat : Nat) : Int) % 4294967296 = ((s[j].toNat : Nat) : Int) := by have := UInt8.toNat_lt s[j]; omega
      have hx : bits .xor .u32 ((crc M ((bl s).take j) : Nat) : Int) (((s[j].toNat : Nat) : Int) % 4294967296) = ((crc M ((bl s).take j) ^^^ s[j].toNat : Nat) : Int) := by
        rw [hmod]
        exact u32_xor_nat (crc M ((bl s).take j)) s[j].toNat hV (by have := UInt8.toNat_lt s[j]; omega)
      clear hmod
      have hY : crc M ((bl s).take j) ^^^ s[j].toNat < 2 ^ 32 := Nat.xor_lt_two_pow hV (by have := UInt8.toNat_lt s[j]; omega)
      have HTT := Lib.hid hT
      have HY := Lib.hid hY
      clear hT hV hY
      generalize hV1 : crc M ((bl s).take (j + 1)) = V' at *
      have HVV := Lib.hid hV1
      clear hV1
      generalize crc M ((bl s).take j) = V at *
      generalize V ^^^ s[j].toNat = y at *
      go_wp2
      go_loop [5, 7] (fun x i => ∃ k : Nat, k ≤ 8 ∧ i = .int .i64 (k : Int) ∧ x = .int .u32 ((Tn k y : Nat) : Int)) (fun _ i => 8 - (intOf i).toNat)
      case atStart => exact ⟨0, by omega, rfl, rfl⟩
      case round =>
        obtain ⟨k, hk, rfl, rfl⟩ := hrel
        by_cases hk8 : k < 8
        · have hv := Tn_lt k y HY.out
          have hs1 := Tn_succ k y
          have HS := Lib.hid hs1
          clear hs1
          generalize hv1 : Tn (k + 1) y = v' at *
          have HV1 := Lib.hid hv1
          clear hv1
          generalize Tn k y = v at *
          have ha := and_one v hv
          by_cases hodd : v % 2 = 1
          · rw [hodd] at ha
            have ho := T_one v hodd
            have hq := xor_poly (v / 2) (by omega)
            have HO := Lib.hid (HS.out.trans ho)
            clear hodd ho
            go_wp2
            go_round
            case rel => exact ⟨k + 1, by omega, by go_num, by rw [HV1.out, HO.out]; exact congrArg (Value.int .u32) hq⟩
            case measure => simp [intOf]; omega
          · rw [show v % 2 = 0 by omega] at ha
            have HO := Lib.hid (HS.out.trans (T_none v hodd))
            clear hodd
            go_wp2
            go_round
            case rel => exact ⟨k + 1, by omega, by go_num, by rw [HV1.out, HO.out]; rfl⟩
            case measure => simp [intOf]; omega
        · obtain rfl : k = 8 := by omega
          go_wp2
          go_round
          case rel => exact ⟨j + 1, by omega, by go_num, by rw [HVV.out, HTT.out]⟩
          case measure => simp [intOf]; omega
    · obtain rfl : j = s.size := by omega
      have h1 := HC.out s.size
      rw [HE.out] at h1
      rw [HE.out]
      have h2 := not_nat (crc M (bl s)) h1
      clear h1
      go_wp2
      go_ret
      first | exact ⟨rfl, rfl⟩ | exact ⟨congrArg (fun z => Ending.returned (.int .u32 z)) h2, rfl⟩
end Go.Proofs.Ytjjhbkmmkhkjnaa
