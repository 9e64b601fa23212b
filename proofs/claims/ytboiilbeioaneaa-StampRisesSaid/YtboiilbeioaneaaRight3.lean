/- Whether a log is right, by the reference: the walk of Right. -/
import Derived.Test.YtboiilbeioaneaaRight2
namespace Go.Proofs.Ytboiilbeioaneaa
open Go.RowKit Law

theorem rowE_chk (es : List Ent) (k : Nat) (hk : k < es.length) (h : chkE es[k] ≠ 0) : rowE es k = chkE es[k] := by
  unfold rowE; rw [List.getElem?_eq_getElem hk]; exact if_pos h
theorem rowE_twin (es : List Ent) (k j : Nat) (hk : k < es.length) (hj : j < k) (h : chkE es[k] = 0) (ht : twin (es[j]'(by omega)) es[k] = true) : rowE es k = 18 := by
  unfold rowE
  rw [List.getElem?_eq_getElem hk]
  show (if chkE es[k] ≠ 0 then _ else if _ then _ else _) = _
  rw [if_neg (by simp [h]), if_pos ⟨j, hj, by rw [List.getElem?_eq_getElem (by omega)]; exact ht⟩]
theorem rowE_rest (es : List Ent) (k : Nat) (hk : k < es.length) (h : chkE es[k] = 0) (ht : ∀ j, (hj : j < k) → twin (es[j]'(by omega)) es[k] = false) :
    rowE es k = if 0 < k ∧ es[k].ts ≠ 0 ∧ ((es[k - 1]'(by omega)).ts = 0 ∨ es[k].ts ≤ (es[k - 1]'(by omega)).ts) then 18 else 0 := by
  unfold rowE
  rw [List.getElem?_eq_getElem hk, List.getElem?_eq_getElem (show k - 1 < es.length by omega)]
  show (if chkE es[k] ≠ 0 then _ else if _ then _ else _) = _
  rw [if_neg (by simp [h]), if_neg (by
    rintro ⟨j, hj, e⟩
    rw [List.getElem?_eq_getElem (show j < es.length by omega)] at e
    have := ht j hj
    simp only [Option.getD_some] at e
    rw [this] at e
    cases e)]
  rfl

set_option maxHeartbeats 2000000 in
set_option maxRecDepth 100000 in
theorem refRight_any (A : Option Addr) (n cap : Nat) (es : List Ent) (w : World) (h : Ents w A es) (hn : es.length = n) (hm : n ≤ 9223372036854775807) (hops : ∀ e ∈ es, e.ops.length ≤ 9223372036854775807) :
    Calls Try.prog 13 #[.slice A n cap] w fun e w' => e = .returned (.int .i64 (rightE es)) ∧ Below w.heap.size w w' := by
  subst hn
  have hops' : ∀ k, (hk : k < es.length) → es[k].ops.length ≤ 9223372036854775807 := fun k hk => hops _ (List.getElem_mem hk)
  have HOPS := Lib.hid hops'
  clear hops hops'
  go_enter Try.func13, Try.ntmps13
  go_wp2
  go_loopw [3] (fun i wr => ∃ k : Nat, k ≤ es.length ∧ i = .int .i64 k ∧ (∀ j, j < k → rowE es j = 0) ∧ Below w.heap.size w wr) (fun i _ => es.length - (intOf i).toNat)
  case atStart => exact ⟨0, Nat.zero_le _, rfl, fun j hj => absurd hj (by omega), Below.refl _ _⟩
  case round =>
    obtain ⟨k, hk, rfl, hall, hB⟩ := hrel
    have HA := Lib.hid hall
    clear hall
    by_cases hlt : k < es.length
    · obtain ⟨b, off, rfl, hb, hc⟩ := h (by rintro rfl; simp at hlt)
      have hend : ∀ x, rowE es k = x → x ≠ 0 → rightE es = x := fun x hx hne => by unfold rightE; rw [firstE_at es.length (rowE es) k hlt HA.out (by rw [hx]; exact hne), hx]
      have HE := Lib.hid hend
      have HH := Lib.hid h
      have HC := Lib.hid hc
      have hcw : ∀ o, wr.cell? ⟨b, o, none⟩ = w.cell? ⟨b, o, none⟩ := fun o => hB.cell (p := ⟨b, o, none⟩) hb
      obtain ⟨⟨c0, c1, c2, c3⟩, hop⟩ := hc k hlt
      rw [← hcw] at c0 c1 c2 c3
      rw [List.getElem?_eq_getElem hlt] at hop
      have hop' : Opns w es[k].oa es[k].ops := hop
      have HP := Lib.hid hop'
      clear hend h hc hop hop' hcw
      go_wp2_with fail
      refine (entry_any _ _ _ _ _ _ es[k].ops _ (HP.out.below hB) rfl (HOPS.out k hlt)).mono ?_
      rintro e w1 ⟨rfl, hB1⟩
      have hB2 : Below w.heap.size w w1 := hB.trans (hB1.mono hB.size)
      have hsame : chkB es[k].client es[k].req es[k].ops = chkE es[k] := rfl
      rw [hsame]
      clear hB1 hB hsame c0 c1 c2 c3
      by_cases hchk : chkE es[k] = 0
      · have HK := Lib.hid hchk
        rw [hchk]
        clear hchk
        go_wp2
        obtain ⟨w0, rfl⟩ : ∃ w0 : World, w0 = w1 := ⟨_, rfl⟩
        go_loopw [5] (fun i wr => ∃ j : Nat, j ≤ k ∧ i = .int .i64 j ∧ (∀ q, (hq : q < j) → (hq' : q < es.length) → twin es[q] es[k] = false) ∧ Below w.heap.size w wr) (fun i _ => k - (intOf i).toNat)
        case atStart => exact ⟨0, Nat.zero_le _, rfl, fun q hq => absurd hq (by omega), hB2⟩
        case round =>
          obtain ⟨j, hj, rfl, htw, hB3⟩ := hrel
          have HT := Lib.hid htw
          clear htw
          have hcw : ∀ o, wr.cell? ⟨b, o, none⟩ = w.cell? ⟨b, o, none⟩ := fun o => hB3.cell (p := ⟨b, o, none⟩) hb
          obtain ⟨⟨c0, c1, c2, c3⟩, _⟩ := HC.out k hlt
          rw [← hcw] at c0 c1 c2 c3
          by_cases hjk : j < k
          · obtain ⟨⟨d0, d1, d2, d3⟩, _⟩ := HC.out j (by omega)
            rw [← hcw] at d0 d1 d2 d3
            have hjl : j < es.length := by omega
            clear hcw
            go_wp2
            go_still_tail 8, (by kernel_rfl)
            change wpList _ _ _ _ _ wr.drew
            have hB4 : Below w.heap.size w wr.drew := hB3.drew
            generalize wr.drew = w2 at *
            go_wp2_with fail
            refine (twins_any _ _ _ _ _ _ _ _ _ ⟨_, _, _, rfl⟩ ⟨_, _, _, rfl⟩).mono ?_
            rintro e w3 ⟨rfl, hB5⟩
            have hB6 : Below w.heap.size w w3 := hB4.trans (hB5.mono hB4.size)
            have htn : (es[j].client == es[k].client && es[j].req == es[k].req) = twin es[j] es[k] := rfl
            rw [htn]
            clear hB5 hB4 hB3 htn
            cases htw : twin es[j] es[k]
            · have HW := Lib.hid htw
              clear htw
              go_wp2
              go_roundw
              case rel => exact ⟨j + 1, by omega, by go_num, fun q hq hq' => by
                by_cases e : q = j
                · subst e; exact HW.out
                · exact HT.out q (by omega) hq', hB6⟩
              case measure => simp [intOf]; omega
            · have hfin := HE.out 18 (rowE_twin es k j hlt hjk HK.out htw) (by omega)
              have HF := Lib.hid hfin
              clear hfin htw
              go_wp2
              go_ret
              exact ⟨ret_i64 HF.out.symm, hB6⟩
          · obtain rfl : j = k := by omega
            have hrest := rowE_rest es j hlt HK.out (fun q hq => HT.out q hq (by omega))
            have HR := Lib.hid hrest
            clear hrest
            have hj1 : j - 1 < es.length := by omega
            by_cases hk0 : 0 < j
            · obtain ⟨⟨d0, d1, d2, d3⟩, _⟩ := HC.out (j - 1) (by omega)
              rw [← hcw] at d3
              rw [List.getElem?_eq_getElem (show j - 1 < es.length by omega)] at d3
              have hd3 : wr.cell? ⟨b, off + (j - 1) * 4 + 3, none⟩ = some (.int .u64 es[j - 1].ts) := d3
              clear d0 d1 d2 d3 hcw
              have q0 : decide (0 < j) = true := by simpa using hk0
              have q1 : IntKind.i64.wrap ((j : Int) - 1) = (j : Int) - 1 := IntWalk.i64_in _ (by omega)
              have q2 : 0 ≤ (j : Int) - 1 := by omega
              have q3 : ((j : Int) - 1).toNat = j - 1 := by omega
              have q4 : (j : Int) - 1 < (es.length : Int) := by omega
              by_cases ht0 : es[j].ts = 0
              · have t0 : (es[j].ts != 0) = false := by simp [ht0]
                have hgood : rowE es j = 0 := by rw [HR.out, if_neg (by omega)]
                have HG := Lib.hid hgood
                clear hgood ht0
                go_wp2
                go_quiet (fail)
                go_wp2
                go_roundw
                case rel => exact ⟨j + 1, by omega, by go_num, fun q hq => by
                  by_cases e : q = j
                  · subst e; exact HG.out
                  · exact HA.out q (by omega), below_drewN hB3 _⟩
                case measure => simp [intOf]; omega
              · have t0 : (es[j].ts != 0) = true := by simpa using ht0
                by_cases hp0 : es[j - 1].ts = 0
                · have p0 : (es[j - 1].ts == 0) = true := by simpa using hp0
                  have hfin := HE.out 18 (by rw [HR.out, if_pos ⟨hk0, ht0, .inl hp0⟩]) (by omega)
                  have HF := Lib.hid hfin
                  clear hfin ht0 hp0
                  go_wp2
                  go_quiet (fail)
                  go_wp2
                  go_ret
                  exact ⟨ret_i64 HF.out.symm, below_drewN hB3 _⟩
                · have p0 : (es[j - 1].ts == 0) = false := by simpa using hp0
                  by_cases hge : es[j].ts ≤ es[j - 1].ts
                  · have g0 : decide (es[j].ts ≤ es[j - 1].ts) = true := by simpa using hge
                    have hfin := HE.out 18 (by rw [HR.out, if_pos ⟨hk0, ht0, .inr hge⟩]) (by omega)
                    have HF := Lib.hid hfin
                    clear hfin ht0 hp0
                    go_wp2
                    go_quiet (fail)
                    go_wp2
                    go_ret
                    exact ⟨ret_i64 HF.out.symm, below_drewN hB3 _⟩
                  · have g0 : decide (es[j].ts ≤ es[j - 1].ts) = false := by simpa using hge
                    have hgood : rowE es j = 0 := by rw [HR.out, if_neg (by omega)]
                    have HG := Lib.hid hgood
                    clear hgood ht0 hp0
                    go_wp2
                    go_quiet (fail)
                    go_wp2
                    go_roundw
                    case rel => exact ⟨j + 1, by omega, by go_num, fun q hq => by
                      by_cases e : q = j
                      · subst e; exact HG.out
                      · exact HA.out q (by omega), below_drewN hB3 _⟩
                    case measure => simp [intOf]; omega
            · have q0 : decide (0 < j) = false := by simpa using hk0
              have hgood : rowE es j = 0 := by rw [HR.out, if_neg (by omega)]
              have HG := Lib.hid hgood
              clear hgood hcw
              go_wp2
              go_quiet (fail)
              go_wp2
              go_roundw
              case rel => exact ⟨j + 1, by omega, by go_num, fun q hq => by
                by_cases e : q = j
                · subst e; exact HG.out
                · exact HA.out q (by omega), below_drewN hB3 _⟩
              case measure => simp [intOf]; omega
      · have hfin := HE.out _ (rowE_chk es k hlt hchk) hchk
        have HF := Lib.hid hfin
        have hcb : (chkE es[k] != 0) = true := by simpa using hchk
        clear hfin hchk
        go_wp2
        go_ret
        exact ⟨ret_i64 HF.out.symm, hB2⟩
    · have hz : rightE es = 0 := firstE_none _ _ (fun j hj => HA.out j (by omega))
      have HZ := Lib.hid hz
      clear hz
      go_wp2
      go_ret
      exact ⟨ret_i64 HZ.out.symm, hB⟩
end Go.Proofs.Ytboiilbeioaneaa
