/- The walks of a text's frame: frame.Put, and the document's. -/
import Derived.Test.YtjjhbkmmkhkjnaaMark
import Derived.Laws.Concat
namespace Go.Proofs.Ytjjhbkmmkhkjnaa
open Go.RowKit Crc Law

/-- A text's frame. -/
def frameS (s : ByteArray) : ByteArray := putS s.size ++ markS (sum (bl (putS s.size ++ s))) ++ s
def putR (s : ByteArray) : ByteArray × Int := if 65536 < s.size then (ByteArray.empty, 3) else (frameS s, 0)
def Puts (r : ByteArray × Int) : Ending := .returned (.tuple #[.string r.1, .int .i64 r.2])
theorem putS_size (n : Nat) (h : n < 18446744073709551616) : (putS n).size ≤ 9 := by
  have := putL_le n h
  rw [← bl_put n h, bl_length] at this
  exact this
theorem markS_size (c : Nat) : (markS c).size = 4 := by unfold markS; rw [strOfNums_size]; rfl

set_option maxHeartbeats 1000000 in
set_option maxRecDepth 100000 in
theorem framePut_any (s : ByteArray) (w : World) (hs : s.size ≤ 9223372036854775807) :
    Calls Try.prog 7 #[.string s] w fun e w' => e = Puts (putR s) ∧ Below w.heap.size w w' := by
  unfold putR
  by_cases hlong : 65536 < s.size
  · rw [if_pos hlong]
    go_enter Try.func7, Try.ntmps7
    go_wp2
    go_ret2
    exact ⟨rfl, Below.refl _ _⟩
  · rw [if_neg hlong]
    have HP := Lib.hid (fun w => put_any s.size w (by omega))
    have hz := putS_size s.size (by omega)
    have HF := Lib.hid (show frameS s = putS s.size ++ markS (sum (bl (putS s.size ++ s))) ++ s from rfl)
    generalize putS s.size = ps at *
    have hadd1 := fun w => run_string_add_sum (P := Try.prog) w ps s (by omega)
    have HS := Lib.hid (fun w => sum_any (ps ++ s) w (by rw [ByteArray.size_append]; omega))
    generalize sum (bl (ps ++ s)) = c at *
    have HM := Lib.hid (fun w => mark_any c w)
    have hmz := markS_size c
    generalize markS c = m at *
    have hadd2 := fun w => run_string_add_sum (P := Try.prog) w ps m (by omega)
    have hadd3 := fun w => run_string_add_sum (P := Try.prog) w (ps ++ m) s (by rw [ByteArray.size_append]; omega)
    rw [← HF.out] at hadd3
    clear hz hmz
    generalize frameS s = fs at *
    have hk : IntKind.wrap .u64 (s.size : Int) = (s.size : Int) := IntWalk.u64_in _ (by omega)
    go_enter Try.func7, Try.ntmps7
    go_wp2_with fail
    refine (HP.out _).mono ?_
    rintro e w1 ⟨rfl, hB⟩
    have K1 := Lib.hid hB
    clear hB
    go_wp2_with fail
    refine (HS.out _).mono ?_
    rintro e w2 ⟨rfl, hB⟩
    have K2 := Lib.hid (K1.out.trans (hB.mono K1.out.size))
    clear hB
    go_wp2_with fail
    refine (HM.out _).mono ?_
    rintro e w3 ⟨rfl, hB⟩
    have K3 := Lib.hid (K2.out.trans (hB.mono K2.out.size))
    clear hB
    go_wp2
    go_ret2
    exact ⟨rfl, K3.out⟩

set_option maxHeartbeats 1000000 in
set_option maxRecDepth 100000 in
theorem refPutF_any (s : ByteArray) (w : World) (hs : s.size ≤ 9223372036854775807) :
    Calls Try.prog 10 #[.string s] w fun e w' => e = Puts (putR s) ∧ Below w.heap.size w w' := by
  unfold putR
  by_cases hlong : 65536 < s.size
  · rw [if_pos hlong]
    go_enter Try.func10, Try.ntmps10
    go_wp2
    go_ret2
    exact ⟨rfl, Below.refl _ _⟩
  · rw [if_neg hlong]
    have HP := Lib.hid (fun w => refPut_any s.size w (by omega))
    have hz := putS_size s.size (by omega)
    have HF := Lib.hid (show frameS s = putS s.size ++ markS (sum (bl (putS s.size ++ s))) ++ s from rfl)
    generalize putS s.size = ps at *
    have hadd1 := fun w => run_string_add_sum (P := Try.prog) w ps s (by omega)
    have HS := Lib.hid (fun w => refSum_any (ps ++ s) w (by rw [ByteArray.size_append]; omega))
    generalize sum (bl (ps ++ s)) = c at *
    have HM := Lib.hid (fun w => four_any c w)
    have hmz := markS_size c
    generalize markS c = m at *
    have hadd2 := fun w => run_string_add_sum (P := Try.prog) w ps m (by omega)
    have hadd3 := fun w => run_string_add_sum (P := Try.prog) w (ps ++ m) s (by rw [ByteArray.size_append]; omega)
    rw [← HF.out] at hadd3
    clear hz hmz
    generalize frameS s = fs at *
    have hk : IntKind.wrap .u64 (s.size : Int) = (s.size : Int) := IntWalk.u64_in _ (by omega)
    go_enter Try.func10, Try.ntmps10
    go_wp2_with fail
    refine (HP.out _).mono ?_
    rintro e w1 ⟨rfl, hB⟩
    have K1 := Lib.hid hB
    clear hB
    go_wp2_with fail
    refine (HS.out _).mono ?_
    rintro e w2 ⟨rfl, rfl⟩
    go_wp2_with fail
    refine (HM.out _).mono ?_
    rintro e w3 ⟨rfl, hB⟩
    have K3 := Lib.hid (K1.out.trans (hB.mono K1.out.size))
    clear hB
    go_wp2
    go_ret2
    exact ⟨rfl, K3.out⟩
end Go.Proofs.Ytjjhbkmmkhkjnaa
