/- The walk of StampRises. -/
import Derived.Test.YtboiilbeioaneaaLogStamp
namespace Go.Proofs.Ytboiilbeioaneaa
open Go.RowKit Law

theorem right_ops {es : List Ent} (h : rightE es = 0) : ∀ e ∈ es, e.ops.length ≤ 4 := by
  intro e he
  obtain ⟨j, hj, rfl⟩ := List.getElem_of_mem he
  have h1 := ((row_zero es j).1 ((right_zero es).1 h j hj)).1
  rw [List.getElem?_eq_getElem hj] at h1
  simp only [Option.getD_some] at h1
  by_cases h4 : es[j].ops.length ≤ 4
  · exact h4
  · exfalso
    unfold chkE chkB at h1
    by_cases a1 : es[j].client < 0 ∨ 3 ≤ es[j].client
    · rw [if_pos a1] at h1; simp at h1
    · rw [if_neg a1] at h1
      by_cases a2 : es[j].req < 1 ∨ 1073741824 < es[j].req
      · rw [if_pos a2] at h1; simp at h1
      · rw [if_neg a2, if_pos (by omega)] at h1; simp at h1
theorem LogAt.below {w w' : World} {X n : Nat} {es : List Ent} (h : LogAt w X n es) (hb : Below w.heap.size w w') : LogAt w' X n es := by
  obtain ⟨h1, ⟨A, cap, h2, h3⟩, h4⟩ := h
  exact ⟨h1, ⟨A, cap, (hb.block X h2.lt).trans h2, h3.below hb⟩, h4⟩
theorem LogAt.same {w : World} {X n : Nat} {es : List Ent} (h : LogAt w X n es) (k : Nat) : LogAt (w.drewN k) X n es := h
theorem Notes.grown {w w' : World} {a : Option Addr} {i0 X : Nat} {ts : List Nat} (h : Notes w a i0 ts) (hg : w.grownBy w' (some X)) (hx : ∀ b off, a = some ⟨b, off, none⟩ → b ≠ X) : Notes w' a i0 ts := fun hne => by
  obtain ⟨b, off, rfl, hlt, hc⟩ := h hne
  have hn : some b ≠ some X := by simpa using hx b off rfl
  exact ⟨b, off, rfl, Nat.lt_of_lt_of_le hlt hg.size, fun i hi => ⟨hg.cell (hc i hi).1 hn, hg.cell (hc i hi).2.1 hn, hg.cell (hc i hi).2.2 hn⟩⟩
theorem Gen.at {last floor : Nat} {ts : List Nat} (h : Gen last floor ts) (k : Nat) (hk : k < ts.length) : ts[k] = nx (curL last (ts.take k)) floor ∧ curL last (ts.take (k + 1)) = ts[k] := by
  have sd : ts = ts.take k ++ ts[k] :: ts.drop (k + 1) := by rw [← List.drop_eq_getElem_cons hk, List.take_append_drop]
  refine ⟨(h _ _ _ sd).2, ?_⟩
  rw [List.take_succ_eq_append_getElem hk, curL_snoc]
theorem nx_floor (last floor : Nat) : floor ≤ nx last floor := by unfold nx; split <;> omega
theorem end_last (es : List Ent) (K : Nat) (hK : stp (tss es) = K) (h : 0 < K) : endB es (K : Int) = (lastT (tss es) == 18446744073709551615) := by
  have hl := stp_le (tss es)
  rw [tss_length, hK] at hl
  unfold endB lastT
  rw [hK, if_neg (by omega), tss_getD es (K - 1) (by omega), show decide (1 ≤ (K : Int)) = true by simp; omega, show decide ((K : Int) ≤ (es.length : Int)) = true by simp; omega, Bool.true_and, Bool.true_and, Int.toNat_natCast]
  rfl

set_option maxHeartbeats 4000000 in
set_option maxRecDepth 100000 in
theorem rises_any (A : Option Addr) (len cap : Nat) (es : List Ent) (nn : Int) (floor : Nat) (w : World) (h : Ents w A es) (hl : es.length = len) (hm : len ≤ 140737488351232) (hnn : -9223372036854775808 ≤ nn ∧ nn ≤ 9223372036854775807)
    (hf : floor < 18446744073709551616) (hts : ∀ e ∈ es, 0 ≤ e.ts ∧ e.ts < 18446744073709551616) (ho : ∀ e ∈ es, e.ops.length ≤ 140737488351232) (hno : ∀ e ∈ es, e.oa = none → e.oc = 0) :
    Calls Try.prog 4 #[.slice A len cap, .int .i64 nn, .int .u64 floor] w fun e w' => e = .returned (.bool true) ∧ Below w.heap.size w w' := by
  have H5 := Lib.hid (much_real A len cap es w h hl hm ho)
  have HR := Lib.hid (fun w h => refRight_any A len cap es w h hl (by omega) (fun e he => by have := ho e he; omega))
  have HH := Lib.hid h
  have HNO := Lib.hid hno
  have HL := Lib.hid hl
  have HTS := Lib.hid hts
  clear h hts ho hno hl
  go_enter Try.func4, Try.ntmps4
  go_wp2_with fail
  refine H5.out.mono ?_
  rintro e w1 ⟨m, rfl, hmn, rfl⟩
  by_cases h80 : m ≤ 80
  · have hlen : len ≤ 80 := by omega
    have hd80 : decide ((80 : Int) < (m : Int)) = false := by simp; omega
    go_wp2_with fail
    refine (HR.out _ HH.out).mono ?_
    rintro e w1 ⟨rfl, hB1⟩
    have K1 := Lib.hid hB1
    clear hB1
    by_cases hr : rightE es = 0
    · have hops := right_ops hr
      have HRT := Lib.hid hr
      rw [hr]
      have HCO := Lib.hid (fun w h => copy_any A len cap es w h HL.out hlen hops HNO.out)
      clear hops hr
      go_wp2_with fail
      refine (HCO.out _ (HH.out.below K1.out)).mono ?_
      rintro e w2 ⟨v, es1, rfl, hsh, hown, hfar, hB⟩
      have K2 := Lib.hid (K1.out.trans (hB.mono K1.out.size))
      obtain ⟨A1, cap1, rfl, hE1⟩ := ents_of (by rw [len_sh hsh, HL.out]) hown hfar
      have hLg : LogAt (w2.alloc (.cells #[.slice A1 len cap1] 53)) w2.heap.size len es1 :=
        ⟨by rw [len_sh hsh, HL.out], ⟨_, _, Boxed.new w2 53 _, hE1.below ((Below.refl _ _).alloc (Nat.le_refl _) _)⟩, ops_sh hsh (right_ops HRT.out), fun e he e2 => by
          obtain ⟨_, b, ob, _⟩ := hfar e he
          rw [ob] at e2
          cases e2⟩
      have HLG := Lib.hid hLg
      have HSH := Lib.hid hsh
      have K3 := Lib.hid (K2.out.alloc K2.out.size (.cells #[.slice A1 len cap1] 53))
      have hX : w.heap.size ≤ w2.heap.size := K2.out.size
      clear hown hfar hB hE1 hLg hsh
      go_wp2_with fail
      refine ((callsIn_wide (n := 3)).1 (all_in 3 (Nat.le_refl _) A len cap es nn floor _ (HH.out.below K3.out) HL.out hlen hnn hf HTS.out)).mono ?_
      rintro e w4 ⟨ts, v, hN, rfl, hown, hB⟩
      obtain ⟨A2, cap2, rfl, hS⟩ := own_notes rfl hown
      have hfarN : ∀ b off, A2 = some ⟨b, off, none⟩ → b ≠ w2.heap.size := fun b off e => by
        have := row_from hown b (by subst e; rfl)
        simp at this
        omega
      have HFN := Lib.hid hfarN
      have HS := Lib.hid hS
      have HN := Lib.hid hN
      have K4 := Lib.hid (K3.out.trans (hB.mono K3.out.size))
      have HLG4 := Lib.hid (HLG.out.below hB)
      have hX4 : w2.heap.size < w4.heap.size := by have := hB.size; simp at this; omega
      clear hown hS hN hB hfarN HLG HCO
      have hst0 : stp (tss es) ≤ len := by have := stp_le (tss es); rwa [tss_length, HL.out] at this
      have hlast : 0 ≤ lastT (tss es) := by
        unfold lastT
        split
        · omega
        · have hlt : stp (tss es) - 1 < es.length := by have := HL.out; omega
          rw [tss_getD es _ hlt, List.getElem?_eq_getElem hlt]
          exact (HTS.out _ (List.getElem_mem _)).1
      obtain ⟨last, hlastE⟩ : ∃ last : Nat, lastT (tss es) = (last : Int) := ⟨(lastT (tss es)).toNat, by omega⟩
      have hT1 := tss_sh HSH.out
      have hR1 := right_sh HSH.out
      have HI0 := Lib.hid (show rightE es1 = 0 ∧ stp (tss es1) = stp (tss es) ∧ lastT (tss es1) = (last : Int) from ⟨by rw [hR1]; exact HRT.out, by rw [hT1], by rw [hT1]; exact hlastE⟩)
      have hlt2 : (lastT (tss es)).toNat = last := by omega
      rw [hlt2] at HN
      generalize hst : stp (tss es) = st at *
      clear hlast hlastE hT1 hR1 hlt2 hst
      have HST := Lib.hid hst0
      clear hst0
      go_wp2
      obtain ⟨w0, rfl⟩ : ∃ w0 : World, w0 = w4 := ⟨_, rfl⟩
      go_loopw [9] (fun i wr => ∃ (k : Nat) (esk : List Ent), k ≤ ts.length ∧ i = .int .i64 (k : Int) ∧ LogAt wr w2.heap.size len esk ∧ (rightE esk = 0 ∧ stp (tss esk) = st + k ∧ lastT (tss esk) = (curL last (ts.take k) : Int)) ∧ w0.grownBy wr (some w2.heap.size)) (fun i _ => ts.length - (intOf i).toNat)
      case atStart => exact ⟨0, es1, Nat.zero_le _, rfl, HLG4.out, by simpa [curL] using HI0.out, World.grownBy.refl _ _⟩
      case round =>
        obtain ⟨k, esk, hk, rfl, hlg, hinv, hgr⟩ := hrel
        have HLGk := Lib.hid hlg
        have HINV := Lib.hid hinv
        have HGR := Lib.hid hgr
        clear hlg hinv hgr
        by_cases hlt : k < ts.length
        · obtain ⟨b, off, rfl, hb, hc⟩ := (HS.out.grown HGR.out HFN.out) (by rintro rfl; simp at hlt)
          obtain ⟨c1, c2, c3⟩ := hc k hlt
          obtain ⟨g1, g2⟩ := HN.out.1.at k hlt
          have hx := nx_gt (curL last (ts.take k)) floor
          have hx2 := nx_floor (curL last (ts.take k)) floor
          rw [← g1] at hx hx2
          have hxm : ts[k] < 18446744073709551616 := by
            have := (HN.out.1.at k hlt).1
            have h1 : curL last (ts.take k) < 18446744073709551615 := by
              have sd : ts = ts.take k ++ ts[k] :: ts.drop (k + 1) := by rw [← List.drop_eq_getElem_cons hlt, List.take_append_drop]
              exact (HN.out.1 _ _ _ sd).1
            rw [this]
            exact nx_lt _ _ h1 hf
          have hin : st + k < len := by
            obtain ⟨n1, n2, n3⟩ := HN.out
            by_cases c : min nn (len : Int) ≤ (st : Int)
            · rw [n2 c] at hlt; simp at hlt
            · have := (n3 (by omega)).1
              omega
          have CS := Lib.hid (fun w h => stamp_any w2.heap.size len (st + k) (ts[k] : Int) esk w h hlen HINV.out.2.1 hin (by rw [HINV.out.2.2]; omega) (by rw [HINV.out.2.2]; omega))
          have HSL := Lib.hid (step_law esk (st + k) (ts[k] : Int) HINV.out.1 HINV.out.2.1 (by rw [HLGk.out.1]; exact hin) (by rw [HINV.out.2.2]; omega) (by rw [HINV.out.2.2]; omega))
          have HG2 := Lib.hid g2
          have hd : decide (ts[k] < floor) = false := by simp; omega
          have k0 : (0 : Int) ≤ (k : Int) := by omega
          have k1 : (k : Int) < (ts.length : Int) := by omega
          have e1 : ((st + k : Nat) : Int) = (st : Int) + (k : Int) := by omega
          clear hc hx hx2 g1 g2
          generalize ts[k] = x at *
          go_wp2
          go_still_tail 19, (by kernel_rfl)
          change wpList _ _ _ _ _ wr.drew
          have HLd : LogAt wr.drew w2.heap.size len esk := HLGk.out
          have HGd : w0.grownBy wr.drew (some w2.heap.size) := ⟨HGR.out.os, HGR.out.tape, HGR.out.output, HGR.out.size, HGR.out.block⟩
          have HLd' := Lib.hid HLd
          have HGd' := Lib.hid HGd
          clear HLd HGd c1 c2 c3
          generalize wr.drew = w5 at *
          go_wp2_with fail
          refine (CS.out _ HLd'.out).mono ?_
          rintro e w6 ⟨rfl, hg6, es', hlg6, hsh6⟩
          have hr6 := right_sh hsh6
          have ht6 := tss_sh hsh6
          have HI6 := Lib.hid (show rightE es' = 0 ∧ stp (tss es') = st + (k + 1) ∧ lastT (tss es') = (curL last (ts.take (k + 1)) : Int) from
            ⟨by rw [hr6]; exact HSL.out.1, by rw [ht6, HSL.out.2.1]; omega, by rw [ht6, HSL.out.2.2, HG2.out]⟩)
          have HL6 := Lib.hid hlg6
          have HG6 := Lib.hid (HGd'.out.trans hg6)
          clear hg6 hlg6 hsh6 hr6 ht6
          go_wp2
          go_roundw
          case rel => exact ⟨k + 1, es', by omega, by go_num, HL6.out, HI6.out, HG6.out⟩
          case measure => simp [intOf]; omega
        · have hke : k = ts.length := by omega
          subst hke
          have hinv := HINV.out
          rw [List.take_length] at hinv
          obtain ⟨v1, v2, v3⟩ := hinv
          obtain ⟨hn, ⟨A', cap', hbx, hE⟩, hop4, hno⟩ := HLGk.out
          have x0 := hbx.cell
          have CR := Lib.hid (refRight_any A' len cap' esk wr hE hn (by omega) (fun e he => by have := hop4 e he; omega))
          rw [v1] at CR
          have K5 := Lib.hid (K4.out.grown HGR.out K4.out.size (fun j e => by cases e; exact hX))
          have HBX := Lib.hid hbx
          have HEE := Lib.hid hE
          have HNL := Lib.hid hn
          clear hbx hE hop4 hno hn v1
          go_wp2_with fail
          refine CR.out.mono ?_
          rintro e w7 ⟨rfl, hB7⟩
          have K7 := Lib.hid (K5.out.trans (hB7.mono K5.out.size))
          have HE7 := Lib.hid (HEE.out.below hB7)
          have x7 : w7.cell? ⟨w2.heap.size, 0, none⟩ = some (.slice A' len cap') := (show Boxed w7 w2.heap.size 53 _ from (hB7.block _ HBX.out.lt).trans HBX.out).cell
          clear hB7 x0
          have hfewer : ts.length ≤ 80 ∧ st + ts.length ≤ len := by
            obtain ⟨n1, n2, n3⟩ := HN.out
            by_cases c : min nn (len : Int) ≤ (st : Int)
            · rw [n2 c]; have := HST.out; simp; omega
            · have := (n3 (by omega)).1
              omega
          generalize hKK : st + ts.length = K at *
          have HNN := Lib.hid (show (True) ∧ ((K : Int) < min nn (len : Int) → lastT (tss esk) = 18446744073709551615) from ⟨trivial, fun hlt => by
            obtain ⟨n1, n2, n3⟩ := HN.out
            rw [v3]
            by_cases c : min nn (len : Int) ≤ (st : Int)
            · omega
            · have := (n3 (by omega)).2
              omega⟩)
          have CSt := Lib.hid (refStamped_any A' len cap' esk w7 HE7.out HNL.out (by omega))
          rw [v2] at CSt
          have hEd : ∀ n, Ents (w7.drewN n) A' esk := fun n => HE7.out.keep (Nat.le_refl _) (fun _ _ => rfl)
          have HL15 := Lib.hid (fun n => refLast_any A' len cap' esk (w7.drewN n) (hEd n) HNL.out (by omega))
          have HA15 := Lib.hid (fun n => awake_any (w7.drewN n))
          have hE15 : ∀ n, Calls Try.prog 11 #[.slice A' len cap', .int .i64 (K : Int)] (w7.drewN n) fun e w' => e = .returned (.bool (endB esk (K : Int))) ∧ w7.drewN n = w' := fun n => ended_any A' len cap' esk (K : Int) (w7.drewN n) (hEd n) HNL.out (by omega) (by omega)
          have hel : 0 < K → endB esk (K : Int) = (lastT (tss esk) == 18446744073709551615) := end_last esk K v2
          have HE15 := Lib.hid hE15
          have HEL := Lib.hid hel
          have hK80 : K ≤ 80 := by omega
          clear hE15 hel hEd v2 v3 hfewer hKK
          generalize lastT (tss esk) = lst at *
          go_wp2_with fail
          refine CSt.out.mono ?_
          rintro e w8 ⟨rfl, rfl⟩
          by_cases hK0 : K = 0
          · subst hK0
            by_cases hc : (len : Int) < nn
            · have hcd : decide ((len : Int) < nn) = true := by simp; omega
              have hmin : min nn (len : Int) = (len : Int) := by omega
              rw [hmin] at HNN
              by_cases hK : (0 : Int) < (len : Int)
              · have hKd : decide (0 < len) = true := by simp; omega
                have hmx := (HNN.out.2 hK)
                have hlm : (lst != 18446744073709551615) = false := by rw [hmx]; rfl
                clear hmx
                go_wp2_with fail
                refine (HL15.out 0).mono ?_
                rintro e w9 ⟨rfl, rfl⟩
                go_wp2
                go_quiet ((first | (go_at_call 11; exact quiet_l (HE15.out _)) | (go_at_call 17; exact quiet_l (HL15.out _)) | (go_at_call 6; exact quiet_l (HA15.out _))))
                go_wp2
                go_ret
                exact ⟨rfl, below_drewN K7.out _⟩
              · have hKd : decide (0 < len) = false := by simp; omega
                go_wp2
                go_quiet ((first | (go_at_call 11; exact quiet_l (HE15.out _)) | (go_at_call 17; exact quiet_l (HL15.out _)) | (go_at_call 6; exact quiet_l (HA15.out _))))
                go_wp2
                go_ret
                exact ⟨rfl, below_drewN K7.out _⟩
            · have hcd : decide ((len : Int) < nn) = false := by simp; omega
              have hmin : min nn (len : Int) = nn := by omega
              rw [hmin] at HNN
              by_cases hK : (0 : Int) < nn
              · have hKd : decide ((0 : Int) < nn) = true := by simp; omega
                have hmx := (HNN.out.2 hK)
                have hlm : (lst != 18446744073709551615) = false := by rw [hmx]; rfl
                clear hmx
                go_wp2_with fail
                refine (HL15.out 0).mono ?_
                rintro e w9 ⟨rfl, rfl⟩
                go_wp2
                go_quiet ((first | (go_at_call 11; exact quiet_l (HE15.out _)) | (go_at_call 17; exact quiet_l (HL15.out _)) | (go_at_call 6; exact quiet_l (HA15.out _))))
                go_wp2
                go_ret
                exact ⟨rfl, below_drewN K7.out _⟩
              · have hKd : decide ((0 : Int) < nn) = false := by simp; omega
                go_wp2
                go_quiet ((first | (go_at_call 11; exact quiet_l (HE15.out _)) | (go_at_call 17; exact quiet_l (HL15.out _)) | (go_at_call 6; exact quiet_l (HA15.out _))))
                go_wp2
                go_ret
                exact ⟨rfl, below_drewN K7.out _⟩
          · have hk0 : ((K : Int) == 0) = false := by simp; omega
            obtain ⟨bl, hbl⟩ : ∃ bl, (lst == 18446744073709551615) = bl := ⟨_, rfl⟩
            have hbb : (bl == bl) = true := by simp
            have hE15' := HE15.out
            rw [HEL.out (by omega), hbl] at hE15'
            clear HE15
            have HE15 := Lib.hid hE15'
            clear hE15'
            by_cases hc : (len : Int) < nn
            · have hcd : decide ((len : Int) < nn) = true := by simp; omega
              have hmin : min nn (len : Int) = (len : Int) := by omega
              rw [hmin] at HNN
              by_cases hK : (K : Int) < (len : Int)
              · have hKd : decide (K < len) = true := by simp; omega
                have hmx := (HNN.out.2 hK)
                have hlm : (lst != 18446744073709551615) = false := by rw [hmx]; rfl
                clear hmx
                go_wp2_with fail
                refine (HL15.out 0).mono ?_
                rintro e w9 ⟨rfl, rfl⟩
                go_wp2
                go_quiet ((first | (go_at_call 11; exact quiet_l (HE15.out _)) | (go_at_call 17; exact quiet_l (HL15.out _)) | (go_at_call 6; exact quiet_l (HA15.out _))))
                go_wp2
                go_ret
                exact ⟨rfl, below_drewN K7.out _⟩
              · have hKd : decide (K < len) = false := by simp; omega
                go_wp2
                go_quiet ((first | (go_at_call 11; exact quiet_l (HE15.out _)) | (go_at_call 17; exact quiet_l (HL15.out _)) | (go_at_call 6; exact quiet_l (HA15.out _))))
                go_wp2
                go_ret
                exact ⟨rfl, below_drewN K7.out _⟩
            · have hcd : decide ((len : Int) < nn) = false := by simp; omega
              have hmin : min nn (len : Int) = nn := by omega
              rw [hmin] at HNN
              by_cases hK : (K : Int) < nn
              · have hKd : decide ((K : Int) < nn) = true := by simp; omega
                have hmx := (HNN.out.2 hK)
                have hlm : (lst != 18446744073709551615) = false := by rw [hmx]; rfl
                clear hmx
                go_wp2_with fail
                refine (HL15.out 0).mono ?_
                rintro e w9 ⟨rfl, rfl⟩
                go_wp2
                go_quiet ((first | (go_at_call 11; exact quiet_l (HE15.out _)) | (go_at_call 17; exact quiet_l (HL15.out _)) | (go_at_call 6; exact quiet_l (HA15.out _))))
                go_wp2
                go_ret
                exact ⟨rfl, below_drewN K7.out _⟩
              · have hKd : decide ((K : Int) < nn) = false := by simp; omega
                go_wp2
                go_quiet ((first | (go_at_call 11; exact quiet_l (HE15.out _)) | (go_at_call 17; exact quiet_l (HL15.out _)) | (go_at_call 6; exact quiet_l (HA15.out _))))
                go_wp2
                go_ret
                exact ⟨rfl, below_drewN K7.out _⟩
    · have hr2 : (rightE es != 0) = true := by simpa using hr
      go_wp2_with fail
      refine (awake_any _).mono ?_
      rintro e w8 ⟨rfl, rfl⟩
      go_wp2
      go_ret
      exact ⟨rfl, K1.out⟩
  · have hd80 : decide ((80 : Int) < (m : Int)) = true := by simp; omega
    go_wp2_with fail
    refine (awake_any _).mono ?_
    rintro e w8 ⟨rfl, rfl⟩
    go_wp2
    go_ret
    exact ⟨rfl, Below.refl _ _⟩
theorem rises_int (A : Option Addr) (len cap : Nat) (es : List Ent) (nn : Int) (floor : Int) (w : World) (h : Ents w A es) (hl : es.length = len) (hm : len ≤ 140737488351232) (hnn : -9223372036854775808 ≤ nn ∧ nn ≤ 9223372036854775807)
    (hf : 0 ≤ floor ∧ floor < 18446744073709551616) (hts : ∀ e ∈ es, 0 ≤ e.ts ∧ e.ts < 18446744073709551616) (ho : ∀ e ∈ es, e.ops.length ≤ 140737488351232) (hno : ∀ e ∈ es, e.oa = none → e.oc = 0) :
    Calls Try.prog 4 #[.slice A len cap, .int .i64 nn, .int .u64 floor] w fun e w' => e = .returned (.bool true) ∧ Below w.heap.size w w' := by
  obtain ⟨f, rfl⟩ := Int.eq_ofNat_of_zero_le hf.1
  exact rises_any A len cap es nn f w h hl hm hnn (by omega) hts ho hno
end Go.Proofs.Ytboiilbeioaneaa
