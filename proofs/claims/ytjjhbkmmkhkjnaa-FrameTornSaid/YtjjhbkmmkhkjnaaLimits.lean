/- The walk of FrameLimits: a text of any length. -/
import Derived.Test.YtjjhbkmmkhkjnaaFrLaw
import Derived.Laws.MakeOwn
namespace Go.Proofs.Ytjjhbkmmkhkjnaa
open Go.RowKit Crc Law

theorem make_zero (n : Nat) (hn : n ≤ 281474976710656) (w : World) :
    (Instr.makeSlice 23 (.int .i64 (n : Int)) (.int .i64 (n : Int))).run Try.prog w = .ok (.slice (some ⟨w.heap.size, 0, none⟩) n n) (w.alloc (.cells (byteV (List.replicate n 0)) 5)) := by
  obtain ⟨i, hi, h1, h2, h3⟩ := info_parts Try.infoU8
  have := run_make (P := Try.prog) (w := w) 23 5 i (.int .u8 0) Try.underlying23 hi h1 .i64 .i64 (n : Int) (n : Int) (by omega) (by omega) (by rw [h3]; omega) (by omega)
  rw [this, h2, Int.toNat_natCast, Nat.mul_one]
  congr 3
  apply Array.ext
  · simp [madeCells, byteV]
  · intro j h1 h2
    simp [madeCells, byteV, Value.cells, Nat.mod_one]
theorem byteV_get (l : List Nat) (i : Nat) (h : i < l.length) : (byteV l)[i]? = some (.int .u8 (l[i] : Nat)) := by
  unfold byteV
  rw [List.getElem?_toArray, List.getElem?_map, List.getElem?_eq_getElem h]
  rfl
theorem empty_text : (ByteArray.mk #[]).toList.isEmpty = true := by rw [ByteArray.toList_eq]; rfl

set_option maxHeartbeats 1000000 in
set_option maxRecDepth 100000 in
theorem limits_any (a b : Nat) (w : World) (ha : a < 65536) (hb : b < 256) :
    Calls Try.prog 3 #[.int .u16 a, .int .u8 b] w fun e w' => e = .returned (.bool true) ∧ Below w.heap.size w w' := by
  obtain ⟨t, ht⟩ : ∃ t, t = a + b := ⟨_, rfl⟩
  have hmk := make_zero t (by omega) w
  have htI : (t : Int) = (a : Int) + (b : Int) := by omega
  have hconv := conv_row (w.alloc (.cells (byteV (List.replicate t 0)) 5)) w.heap.size 0 t t (List.replicate t 0) (by simp) (fun i hi => by
    rw [Nat.zero_add]
    exact (cell_of_row _ _ i _ 5 _ (heap_alloc_new w _)).trans (byteV_get _ i hi))
  have hsz : (strOfNums (ints (List.replicate t 0))).size = t := by rw [strOfNums_size]; simp [ints]
  have HA := Lib.hid ((Below.refl w.heap.size w).alloc (Nat.le_refl _) (.cells (byteV (List.replicate t 0)) 5))
  generalize w.alloc (.cells (byteV (List.replicate t 0)) 5) = wz at *
  generalize hw : strOfNums (ints (List.replicate t 0)) = z at *
  clear hw
  rw [htI] at hmk
  clear htI
  subst ht
  have HP := Lib.hid (fun w => framePut_any z w (by omega))
  by_cases hlong : 65536 < z.size
  · rw [show putR z = (⟨#[]⟩, 3) by unfold putR; rw [if_pos hlong]; rfl] at HP
    simp only [Puts] at HP
    have het := empty_text
    go_enter Try.func3, Try.ntmps3
    go_wp2_with fail
    refine (HP.out _).mono ?_
    rintro e w1 ⟨rfl, hB⟩
    have K1 := Lib.hid (HA.out.trans (hB.mono HA.out.size))
    clear hB
    go_wp2_with fail
    refine (awake_any _).mono ?_
    rintro e w2 ⟨rfl, hB⟩
    have K2 := Lib.hid (K1.out.trans (hB.mono K1.out.size))
    clear hB
    go_wp2
    go_ret
    exact ⟨rfl, K2.out⟩
  · rw [show putR z = (frameS z, 0) by unfold putR; rw [if_neg hlong]] at HP
    simp only [Puts] at HP
    have h2 := next_frame ByteArray.empty z ByteArray.empty (by omega)
    rw [app_empty, empty_app, ByteArray.size_empty, Nat.zero_add] at h2
    have hfs : (frameS z).size ≤ 9223372036854775807 := by
      have := putS_size z.size (by omega)
      unfold frameS
      rw [ByteArray.size_append, ByteArray.size_append, markS_size]
      omega
    generalize frameS z = f at *
    have HN := Lib.hid (fun w => next_any f 0 w hfs)
    rw [show nextR f 0 = (z, (f.size : Int), 0) from h2] at HN
    simp only [Nexts] at HN
    have heq : (z.toList == z.toList) = true := by simp
    clear h2
    go_enter Try.func3, Try.ntmps3
    go_wp2_with fail
    refine (HP.out _).mono ?_
    rintro e w1 ⟨rfl, hB⟩
    have K1 := Lib.hid (HA.out.trans (hB.mono HA.out.size))
    clear hB
    go_wp2_with fail
    refine (HN.out _).mono ?_
    rintro e w2 ⟨rfl, hB⟩
    have K2 := Lib.hid (K1.out.trans (hB.mono K1.out.size))
    clear hB
    go_wp2_with fail
    refine (awake_any _).mono ?_
    rintro e w3 ⟨rfl, hB⟩
    have K3 := Lib.hid (K2.out.trans (hB.mono K2.out.size))
    clear hB
    go_wp2
    go_ret
    exact ⟨rfl, K3.out⟩
theorem limits_law (a b : Int) (w : World) (ha : 0 ≤ a ∧ a < 65536) (hb : 0 ≤ b ∧ b < 256) :
    Calls Try.prog 3 #[.int .u16 a, .int .u8 b] w fun e w' => e = .returned (.bool true) ∧ Below w.heap.size w w' := by
  obtain ⟨k, rfl⟩ := Int.eq_ofNat_of_zero_le ha.1
  obtain ⟨m, rfl⟩ := Int.eq_ofNat_of_zero_le hb.1
  exact limits_any k m w (by omega) (by omega)
end Go.Proofs.Ytjjhbkmmkhkjnaa
