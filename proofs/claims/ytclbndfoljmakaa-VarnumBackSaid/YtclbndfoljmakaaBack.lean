/- The walk of VarnumBack. -/
import Derived.Test.YtclbndfoljmakaaBackLaw
import Derived.Laws.Concat
import Derived.Deep.RegionHeld3
namespace Go.Proofs.Ytclbndfoljmakaa
open Go.RowKit Law

/-- What the second half makes of the texts behind. -/
theorem eq_toList {a b : ByteArray} (h : a = b) : (a.toList == b.toList) = true := by rw [h]; simp

section
variable {P : Program} {md : Region.Mode} {ops : Array Oper} {Q : Exit → Act → World → Prop} {S : World → Prop}
/-- An operation that is not wanted, taken first: its target's number is told. -/
theorem take_no (i d : Nat) {oi : Oper} {fuel : Nat} {listed : Array Bool} {a : Act} {w : World} (hi : ops[i]? = some oi) (hd : oi.dst = some d)
    (hs : Region.noSelect ops = true) (hf : Region.free md ops listed i = true) (hr : (Region.ready md ops listed).contains i = true)
    (hQ : ∀ c a w, Q (.panic c) (a.put oi.dst undef) w → Q (.panic c) a w) (hw : Region.wanted oi (yielded ops a.tmps) = false) (hS : S w)
    (h : wpAnyH P md ops Q S fuel (listed.setIfInBounds i true) (a.put (some d) undef) w) : wpAnyH P md ops Q S (fuel + 1) listed a w :=
  wpAnyH_take hi hs hf hr hQ (.inr ⟨hw, rfl⟩) hS (by rw [hd]; exact h)
/-- One that is wanted and reads nothing. -/
theorem take_run (i d : Nat) {oi : Oper} {v : Value} {fuel : Nat} {listed : Array Bool} {a : Act} {w : World} (hi : ops[i]? = some oi) (hd : oi.dst = some d)
    (hs : Region.noSelect ops = true) (hf : Region.free md ops listed i = true) (hr : (Region.ready md ops listed).contains i = true)
    (hQ : ∀ c a w, Q (.panic c) (a.put oi.dst v) w → Q (.panic c) a w) (hw : Region.wanted oi (yielded ops a.tmps) = true) (hS : S w)
    (hv : ∀ w, S w → (execOp a.eval oi).run P w = .ok (.value v) w)
    (h : wpAnyH P md ops Q S fuel (listed.setIfInBounds i true) (a.put (some d) v) w) : wpAnyH P md ops Q S (fuel + 1) listed a w :=
  wpAnyH_take hi hs hf hr hQ (.inl ⟨hw, hv⟩) hS (by rw [hd]; exact h)
end

set_option linter.unusedSimpArgs false
set_option maxHeartbeats 1000000 in
set_option maxRecDepth 100000 in
theorem back_law (a : ByteArray) (n : Nat) (b : ByteArray) (w : World) (hn : n < 18446744073709551616) (ha : a.size ≤ 140737488351232) (hb : b.size ≤ 140737488351232) :
    Calls Try.prog 4 #[.string a, .int .u64 n, .string b] w fun e w' => e = .returned (.bool true) ∧ Below w.heap.size w w' := by
  have hp := putS_size n
  have hp9 := putL_le n hn
  have h1 : ∀ w, (Op.stringOp .add a (putS n)).run Try.prog w = .ok (.string (a ++ putS n)) w := fun w => run_string_add_sum w _ _ (by omega)
  have h2 : ∀ w, (Op.stringOp .add (a ++ putS n) b).run Try.prog w = .ok (.string (a ++ putS n ++ b)) w := fun w => run_string_add_sum w _ _ (by rw [ByteArray.size_append]; omega)
  have hs : (a ++ putS n ++ b).size ≤ 9223372036854775807 := by rw [ByteArray.size_append, ByteArray.size_append]; omega
  have ht := there_text a b n hn
  have HP := Lib.hid (fun w => put_any n w hn)
  have HL := Lib.hid (fun w => len_any n w hn)
  have HG := Lib.hid (fun w => get_any (a ++ putS n ++ b) a.size w hs)
  have HT := Lib.hid ht
  have HB := Lib.hid (back_text b)
  have HB0 := Lib.hid (fun w => get_any b 0 w (by omega))
  have hw : IntKind.i64.wrap ((a.size : Int) + ((putL n).length : Int)) = ((a.size + (putL n).length : Nat) : Int) := by rw [IntWalk.i64_in _ (by omega)]; omega
  clear hs ht hp
  generalize putL n = pl at *
  generalize putS n = ps at *
  go_enter Try.func4, Try.ntmps4
  go_wp2_with fail
  refine (HP.out _).mono ?_
  rintro e w1 ⟨rfl, hB1⟩
  go_wp2_with fail
  refine (HG.out _).mono ?_
  rintro e w2 ⟨rfl, rfl⟩
  rw [HT.out]
  unfold Gets
  go_wp2_with fail
  refine (HL.out _).mono ?_
  rintro e w2 ⟨rfl, rfl⟩
  go_wp2_with fail
  refine (HB0.out _).mono ?_
  rintro e w2 ⟨rfl, rfl⟩
  have K1 := Lib.hid hB1
  clear hB1 HL HP HT HG HB0 h1 h2 hw hp9
  by_cases hf : (getR (bl b) 0).2.2 = 0
  · obtain ⟨y, m, h3, h4, h5, h6⟩ := HB.out hf
    rw [h3]
    have h7 := eq_toList h6
    have HY := Lib.hid (fun w => put_any y w h5)
    have hmb : (m : Int) ≤ (b.size : Int) := by omega
    have hmd : decide ((m : Int) ≤ (b.size : Int)) = true := by simp; omega
    have hm0 : (0 : Int) ≤ (m : Int) := by omega
    clear HB hf h3 h5 h6
    generalize putS y = py at *
    unfold Gets
    go_wp2_with fail
    go_region_held3 (fun _ => True) (exact trivial)
      (first
        | (go_at_call 7
           refine (HY.out _).mono ?_
           rintro e w2 ⟨rfl, hB2⟩
           have K2 := Lib.hid ((below_drewN K1.out 1).trans (hB2.mono K1.out.size))
           clear hB2)
        | (go_at_call 8
           refine (awake_any _).mono ?_
           rintro e w3 ⟨rfl, hB3⟩
           have K3 := Lib.hid (K2.out.trans (hB3.mono K2.out.size))
           clear hB3))
    go_wp2
    go_ret
    exact ⟨rfl, K3.out⟩
  · have h3 := getR_e (bl b) 0
    clear HB
    generalize getR (bl b) 0 = r at *
    obtain ⟨y, t, f⟩ := r
    simp only at hf h3
    unfold Gets
    rcases h3 with rfl | rfl | rfl | rfl
    · exact absurd rfl hf
    all_goals
      clear hf
      go_wp2_with fail
      refine wp_region_held_drew (S := fun _ => True) (by kernel_rfl) trivial (fun hHeld => ?_)
      refine take_run 0 50 rfl rfl (by kernel_rfl) (by kernel_rfl) (by kernel_rfl) (fun _ _ _ h => h) rfl trivial (fun w _ => by (go_simp; first | done | with_reducible rfl)) ?_
      try simp only [Act.put, List.setIfInBounds_toArray, List.set_cons_zero, List.set_cons_succ]
      refine take_run 1 51 rfl rfl (by kernel_rfl) (by kernel_rfl) (by kernel_rfl) (fun _ _ _ h => h) rfl trivial (fun w _ => by (go_simp; first | done | with_reducible rfl)) ?_
      try simp only [Act.put, List.setIfInBounds_toArray, List.set_cons_zero, List.set_cons_succ]
      refine take_run 2 52 rfl rfl (by kernel_rfl) (by kernel_rfl) (by kernel_rfl) (fun _ _ _ h => h) rfl trivial (fun w _ => by (go_simp; first | done | with_reducible rfl)) ?_
      try simp only [Act.put, List.setIfInBounds_toArray, List.set_cons_zero, List.set_cons_succ]
      refine take_no 3 53 rfl rfl (by kernel_rfl) (by kernel_rfl) (by kernel_rfl) (fun _ _ _ h => h) rfl trivial ?_
      try simp only [Act.put, List.setIfInBounds_toArray, List.set_cons_zero, List.set_cons_succ]
      refine take_no 4 54 rfl rfl (by kernel_rfl) (by kernel_rfl) (by kernel_rfl) (fun _ _ _ h => h) rfl trivial ?_
      try simp only [Act.put, List.setIfInBounds_toArray, List.set_cons_zero, List.set_cons_succ]
      refine take_no 5 55 rfl rfl (by kernel_rfl) (by kernel_rfl) (by kernel_rfl) (fun _ _ _ h => h) rfl trivial ?_
      try simp only [Act.put, List.setIfInBounds_toArray, List.set_cons_zero, List.set_cons_succ]
      refine take_no 6 56 rfl rfl (by kernel_rfl) (by kernel_rfl) (by kernel_rfl) (fun _ _ _ h => h) rfl trivial ?_
      try simp only [Act.put, List.setIfInBounds_toArray, List.set_cons_zero, List.set_cons_succ]
      refine take_no 7 57 rfl rfl (by kernel_rfl) (by kernel_rfl) (by kernel_rfl) (fun _ _ _ h => h) rfl trivial ?_
      try simp only [Act.put, List.setIfInBounds_toArray, List.set_cons_zero, List.set_cons_succ]
      refine take_no 8 58 rfl rfl (by kernel_rfl) (by kernel_rfl) (by kernel_rfl) (fun _ _ _ h => h) rfl trivial ?_
      try simp only [Act.put, List.setIfInBounds_toArray, List.set_cons_zero, List.set_cons_succ]
      refine take_no 9 59 rfl rfl (by kernel_rfl) (by kernel_rfl) (by kernel_rfl) (fun _ _ _ h => h) rfl trivial ?_
      try simp only [Act.put, List.setIfInBounds_toArray, List.set_cons_zero, List.set_cons_succ]
      refine take_no 10 60 rfl rfl (by kernel_rfl) (by kernel_rfl) (by kernel_rfl) (fun _ _ _ h => h) rfl trivial ?_
      try simp only [Act.put, List.setIfInBounds_toArray, List.set_cons_zero, List.set_cons_succ]
      refine take_no 11 61 rfl rfl (by kernel_rfl) (by kernel_rfl) (by kernel_rfl) (fun _ _ _ h => h) rfl trivial ?_
      try simp only [Act.put, List.setIfInBounds_toArray, List.set_cons_zero, List.set_cons_succ]
      refine take_no 12 62 rfl rfl (by kernel_rfl) (by kernel_rfl) (by kernel_rfl) (fun _ _ _ h => h) rfl trivial ?_
      try simp only [Act.put, List.setIfInBounds_toArray, List.set_cons_zero, List.set_cons_succ]
      refine take_no 13 63 rfl rfl (by kernel_rfl) (by kernel_rfl) (by kernel_rfl) (fun _ _ _ h => h) rfl trivial ?_
      try simp only [Act.put, List.setIfInBounds_toArray, List.set_cons_zero, List.set_cons_succ]
      refine take_no 14 64 rfl rfl (by kernel_rfl) (by kernel_rfl) (by kernel_rfl) (fun _ _ _ h => h) rfl trivial ?_
      try simp only [Act.put, List.setIfInBounds_toArray, List.set_cons_zero, List.set_cons_succ]
      refine take_run 15 65 rfl rfl (by kernel_rfl) (by kernel_rfl) (by kernel_rfl) (fun _ _ _ h => h) rfl trivial (fun w _ => by (go_simp; first | done | with_reducible rfl)) ?_
      try simp only [Act.put, List.setIfInBounds_toArray, List.set_cons_zero, List.set_cons_succ]
      refine take_run 16 66 rfl rfl (by kernel_rfl) (by kernel_rfl) (by kernel_rfl) (fun _ _ _ h => h) rfl trivial (fun w _ => by (go_simp; first | done | with_reducible rfl)) ?_
      try simp only [Act.put, List.setIfInBounds_toArray, List.set_cons_zero, List.set_cons_succ]
      refine wpAnyH_ready (rs := [17]) (by kernel_rfl) (by simp) ?_
      refine AllReadyH.cons rfl (fun K hK => ?_) AllReadyH.nil
      go_simp
      go_at_call 8
      refine (awake_any _).mono ?_
      rintro e w3 ⟨rfl, hB3⟩
      have K3 := Lib.hid ((below_drewN K1.out 1).trans (hB3.mono K1.out.size))
      clear hB3
      go_simp
      refine hK.out _ _ trivial (fun hHeld => ?_)
      clear hK K
      try simp only [Act.put, List.setIfInBounds_toArray, List.set_cons_zero, List.set_cons_succ]
      refine take_run 18 68 rfl rfl (by kernel_rfl) (by kernel_rfl) (by kernel_rfl) (fun _ _ _ h => h) rfl trivial (fun w _ => by (go_simp; first | done | with_reducible rfl)) ?_
      try simp only [Act.put, List.setIfInBounds_toArray, List.set_cons_zero, List.set_cons_succ]
      refine take_run 19 6 rfl rfl (by kernel_rfl) (by kernel_rfl) (by kernel_rfl) (fun _ _ _ h => h) rfl trivial (fun w _ => by (go_simp; first | done | with_reducible rfl)) ?_
      try simp only [Act.put, List.setIfInBounds_toArray, List.set_cons_zero, List.set_cons_succ]
      refine wpAnyH_done (by kernel_rfl) ?_ _
      go_wp2
      go_ret
      exact ⟨rfl, K3.out⟩

theorem back_any (a : ByteArray) (z : Int) (b : ByteArray) (w : World) (hz : 0 ≤ z ∧ z ≤ 18446744073709551615) (ha : a.size ≤ 140737488351232) (hb : b.size ≤ 140737488351232) :
    Calls Try.prog 4 #[.string a, .int .u64 z, .string b] w fun e w' => e = .returned (.bool true) ∧ Below w.heap.size w w' := by
  obtain ⟨n, rfl⟩ := Int.eq_ofNat_of_zero_le hz.1
  exact back_law a n b w (by omega) ha hb
end Go.Proofs.Ytclbndfoljmakaa
