/- The walk of VarnumPlays. -/
import Derived.Test.YtclbndfoljmakaaRefAll
import Derived.Test.YtclbndfoljmakaaList
namespace Go.Proofs.Ytclbndfoljmakaa
open Go.RowKit Law

theorem Nums64.kept {w w' : World} {A : Option Addr} {l : List Nat} (h : Nums64 w A l) (hb : Below w.heap.size w w') : Nums64 w' A l := by
  intro hne
  obtain ⟨b, off, rfl, h1, h2⟩ := h hne
  have := hb.size
  exact ⟨b, off, rfl, by omega, fun i hi => (hb.cell (p := ⟨b, off + i, none⟩) h1).trans (h2 i hi)⟩

theorem allF_le (f : Nat) (l : List Nat) (a : Nat) (acc : List Nat) : (allF f l a acc).1.length ≤ acc.length + f := by
  induction f generalizing a acc with
  | zero => simp [allF]
  | succ f ih =>
    simp only [allF]
    split
    · split
      · refine Nat.le_trans (ih _ _) ?_
        simp
        omega
      · simp
    · simp
theorem allR_le (s : ByteArray) : (AllR (bl s)).1.length ≤ s.size + 1 := by
  have := allF_le ((bl s).length + 1) (bl s) 0 []
  rw [bl_length] at this
  simpa [AllR, bl_length] using this

set_option maxHeartbeats 2000000 in
set_option maxRecDepth 100000 in
theorem plays_law (n : Nat) (s : ByteArray) (at_ : Int) (w : World) (hn : n < 18446744073709551616) (hs : s.size ≤ 1048576) :
    Calls Try.prog 6 #[.int .u64 n, .string s, .int .i64 at_] w fun e w' => e = .returned (.bool true) ∧ Below w.heap.size w w' := by
  have hp := putS_size n
  have HP := Lib.hid (fun w => put_any n w hn)
  have HQ := Lib.hid (fun w => refPut_any n w hn)
  have HL := Lib.hid (fun w => len_any n w hn)
  have HG := Lib.hid (fun w => get_any s at_ w (by omega))
  have HH := Lib.hid (fun w => refGet_any s at_ w (by omega))
  have HA := Lib.hid (fun w => all_any s w (by omega))
  have HB := Lib.hid (fun w => refAll_any s w (by omega))
  have heq : ((putS n).toList == (putS n).toList) = true := by simp
  have hle : (((putL n).length : Int) == ((putS n).size : Int)) = true := by rw [hp]; simp
  have hzl : (AllR (bl s)).1.length ≤ 1048577 := by have := allR_le s; omega
  clear hp
  generalize putL n = pl at *
  generalize putS n = ps at *
  generalize getR (bl s) at_ = r at *
  obtain ⟨r1, r2, r3⟩ := r
  generalize AllR (bl s) = R at *
  obtain ⟨zs, z⟩ := R
  simp only at HA HB hzl
  go_enter Try.func6, Try.ntmps6
  go_wp2_with fail
  refine (HG.out _).mono ?_
  rintro e w1 ⟨rfl, rfl⟩
  unfold Gets
  go_wp2_with fail
  refine (HH.out _).mono ?_
  rintro e w1 ⟨rfl, hB1⟩
  unfold Gets
  have K1 := Lib.hid hB1
  clear hB1
  go_wp2_with fail
  refine (HA.out _).mono ?_
  rintro e w2 ⟨v2, rfl, hown2, hB2⟩
  obtain ⟨A2, cap2, rfl, hl2, hN2⟩ := own_nums hown2
  have K2 := Lib.hid (K1.out.trans (hB2.mono K1.out.size))
  clear hown2 hB2 hl2
  go_wp2_with fail
  refine (HB.out _).mono ?_
  rintro e w3 ⟨v3, rfl, hown3, hB3⟩
  obtain ⟨A3, cap3, rfl, hl3, hN3⟩ := own_nums hown3
  have HN2 := Lib.hid (hN2.kept hB3)
  have HN3 := Lib.hid hN3
  have K3 := Lib.hid (K2.out.trans (hB3.mono K2.out.size))
  clear hown3 hB3 hl3 hN2 hN3 K1 K2
  go_wp2
  go_loopw [17] (fun i wr => ∃ q : Nat, q ≤ zs.length ∧ i = .int .i64 (q : Int) ∧ ∃ k, wr = w3.drewN k) (fun i _ => zs.length - (intOf i).toNat)
  case atStart => exact ⟨0, by omega, rfl, 0, rfl⟩
  case round =>
    obtain ⟨q, hq, rfl, k, rfl⟩ := hrel
    by_cases hqj : q < zs.length
    · obtain ⟨b2, off2, rfl, hb2, hc2⟩ := HN2.out (by rintro rfl; simp at hqj)
      obtain ⟨b3, off3, rfl, hb3, hc3⟩ := HN3.out (by rintro rfl; simp at hqj)
      have e2 : w3.cell? ⟨b2, off2 + q, none⟩ = some (.int .u64 (zs[q] : Int)) := hc2 q hqj
      have e3 : w3.cell? ⟨b3, off3 + q, none⟩ = some (.int .u64 (zs[q] : Int)) := hc3 q hqj
      have q0 : (0 : Int) ≤ (q : Int) := Int.natCast_nonneg _
      have q2 : (q : Int) < (zs.length : Int) := by omega
      have hd : decide ((q : Int) < (zs.length : Int)) = true := by simp; omega
      clear hc2 hc3
      generalize zs[q] = x at *
      go_wp2
      go_quiet (fail)
      go_wp2
      go_roundw
      case rel =>
        first | exact ⟨q + 1, by omega, by go_num, _, rfl⟩ | ((repeat apply Exists.intro); exact ⟨⟨q + 1, by omega, by go_num, _, rfl⟩, rfl⟩)
      case measure => simp [intOf]; omega
    · obtain rfl : q = zs.length := by omega
      have K4 := Lib.hid (below_drewN K3.out k)
      generalize w3.drewN k = w4 at *
      go_wp2_with fail
      refine (HP.out _).mono ?_
      rintro e w5 ⟨rfl, hB5⟩
      have K5 := Lib.hid (K4.out.trans (hB5.mono K4.out.size))
      clear hB5
      go_wp2_with fail
      refine (HQ.out _).mono ?_
      rintro e w6 ⟨rfl, hB6⟩
      have K6 := Lib.hid (K5.out.trans (hB6.mono K5.out.size))
      clear hB6
      go_wp2_with fail
      refine (HL.out _).mono ?_
      rintro e w7 ⟨rfl, rfl⟩
      go_wp2_with fail
      refine (HQ.out _).mono ?_
      rintro e w7 ⟨rfl, hB7⟩
      have K7 := Lib.hid (K6.out.trans (hB7.mono K6.out.size))
      clear hB7
      go_wp2_with fail
      refine (awake_any _).mono ?_
      rintro e w8 ⟨rfl, hB8⟩
      have K8 := Lib.hid (K7.out.trans (hB8.mono K7.out.size))
      clear hB8
      go_wp2
      go_ret
      exact ⟨rfl, K8.out⟩

theorem plays_any (z : Int) (s : ByteArray) (at_ : Int) (w : World) (hz : 0 ≤ z ∧ z ≤ 18446744073709551615) (hs : s.size ≤ 1048576) :
    Calls Try.prog 6 #[.int .u64 z, .string s, .int .i64 at_] w fun e w' => e = .returned (.bool true) ∧ Below w.heap.size w w' := by
  obtain ⟨n, rfl⟩ := Int.eq_ofNat_of_zero_le hz.1
  exact plays_law n s at_ w (by omega) hs
end Go.Proofs.Ytclbndfoljmakaa
