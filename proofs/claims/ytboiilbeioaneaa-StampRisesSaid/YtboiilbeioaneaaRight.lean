/- Whether a log is right, by the reference: the walks of its checks. -/
import Derived.Test.YtboiilbeioaneaaLast
import Derived.StillTailTactics
import Derived.IntWalk
namespace Go.Proofs.Ytboiilbeioaneaa
open Go.RowKit Law

/-- What is wrong with a key. -/
def keyE (k : ByteArray) : Int := if k.size < 1 ∨ 8 < k.size then 10 else 0
/-- What is wrong with the i-th operation. -/
def opE (ps : List Opn) (i : Nat) : Int :=
  if keyE (ps[i]?.getD opn0).key ≠ 0 then 10 else if 8 < (ps[i]?.getD opn0).val.size then 3 else if (ps[i]?.getD opn0).del = true ∧ (ps[i]?.getD opn0).val.toList.isEmpty = false then 4
  else if 0 < i ∧ Op.bytesLess (ps[i - 1]?.getD opn0).key.toList (ps[i]?.getD opn0).key.toList = false then 18 else 0
/-- What is wrong with a batch. -/
def chkB (c r : Int) (ps : List Opn) : Int := if c < 0 ∨ 3 ≤ c then 1 else if r < 1 ∨ 1073741824 < r then 5 else if 4 < ps.length then 6 else firstE ps.length (opE ps)

theorem key_good (k : ByteArray) (w : World) (h : 1 ≤ k.size) (h' : k.size ≤ 8) : Calls Try.prog 25 #[.string k] w fun e w' => e = .returned (.int .i64 0) ∧ w = w' := by
  go_enter Try.func25, Try.ntmps25
  go_wp2
  go_ret
  exact ⟨rfl, rfl⟩
theorem key_bad (k : ByteArray) (w : World) (h : k.size < 1 ∨ 8 < k.size) : Calls Try.prog 25 #[.string k] w fun e w' => e = .returned (.int .i64 10) ∧ w = w' := by
  rcases h with h | h
  · go_enter Try.func25, Try.ntmps25
    go_wp2
    go_ret
    exact ⟨rfl, rfl⟩
  · have h' : ¬ k.size < 1 := by omega
    go_enter Try.func25, Try.ntmps25
    go_wp2
    go_ret
    exact ⟨rfl, rfl⟩

set_option maxHeartbeats 1000000 in
set_option maxRecDepth 100000 in
theorem batch_any (c r : Int) (A : Option Addr) (n cap : Nat) (ps : List Opn) (w : World) (h : Opns w A ps) (hn : ps.length = n) (hm : n ≤ 9223372036854775807) :
    Calls Try.prog 24 #[.agg #[.int .i64 c, .int .i64 r, .slice A n cap]] w fun e w' => e = .returned (.int .i64 (chkB c r ps)) ∧ Below w.heap.size w w' := by
  have hA := (Below.refl w.heap.size w).alloc (Nat.le_refl _) (.cells #[.int .i64 c, .int .i64 r, .slice A n cap] 40)
  by_cases h1 : c < 0
  · rw [show chkB c r ps = 1 by unfold chkB; rw [if_pos (.inl h1)]]
    go_enter Try.func24, Try.ntmps24
    go_wp2
    go_ret
    exact ⟨rfl, hA⟩
  by_cases h2 : 3 ≤ c
  · rw [show chkB c r ps = 1 by unfold chkB; rw [if_pos (.inr h2)]]
    go_enter Try.func24, Try.ntmps24
    go_wp2
    go_ret
    exact ⟨rfl, hA⟩
  by_cases h3 : r < 1
  · rw [show chkB c r ps = 5 by unfold chkB; rw [if_neg (by omega), if_pos (.inl h3)]]
    go_enter Try.func24, Try.ntmps24
    go_wp2
    go_ret
    exact ⟨rfl, hA⟩
  by_cases h4 : 1073741824 < r
  · rw [show chkB c r ps = 5 by unfold chkB; rw [if_neg (by omega), if_pos (.inr h4)]]
    go_enter Try.func24, Try.ntmps24
    go_wp2
    go_ret
    exact ⟨rfl, hA⟩
  by_cases h5 : 4 < n
  · rw [show chkB c r ps = 6 by unfold chkB; rw [if_neg (by omega), if_neg (by omega), if_pos (by omega)]]
    go_enter Try.func24, Try.ntmps24
    go_wp2
    go_ret
    exact ⟨rfl, hA⟩
  have hchk : chkB c r ps = firstE ps.length (opE ps) := by unfold chkB; rw [if_neg (by omega), if_neg (by omega), if_neg (by omega)]
  rw [hchk]
  subst hn
  clear hchk hA
  go_enter Try.func24, Try.ntmps24
  go_wp2
  go_loopw [3] (fun i wr => ∃ k : Nat, k ≤ ps.length ∧ i = .int .i64 k ∧ (∀ j, j < k → opE ps j = 0) ∧ Below (w.heap.size + 1) (w.alloc (.cells #[.int .i64 c, .int .i64 r, .slice A ps.length cap] 40)) wr) (fun i _ => ps.length - (intOf i).toNat)
  case atStart => exact ⟨0, Nat.zero_le _, rfl, fun j hj => absurd hj (by omega), Below.refl _ _⟩
  case round =>
    obtain ⟨k, hk, rfl, hall, hB⟩ := hrel
    have HA := Lib.hid hall
    clear hall
    have hBs : w.heap.size + 1 ≤ wr.heap.size := by have := hB.size; simpa using this
    have hbox : wr.cell? ⟨w.heap.size, 2, none⟩ = some (.slice A ps.length cap) := (hB.cell (p := ⟨w.heap.size, 2, none⟩) (by simp)).trans (World.cell?_alloc_at _ _ _ _ rfl)
    by_cases hlt : k < ps.length
    · have hpos : ps ≠ [] := by rintro rfl; simp at hlt
      obtain ⟨b, off, rfl, hb, hc⟩ := h hpos
      have hcell : ∀ o, wr.cell? ⟨b, o, none⟩ = w.cell? ⟨b, o, none⟩ := fun o => (hB.cell (p := ⟨b, o, none⟩) (by show b < _; omega)).trans (World.cell?_alloc_past _ _ _ hb)
      obtain ⟨c0, c1, c2⟩ := hc k hlt
      rw [← hcell] at c0 c1 c2
      have hend : ∀ x, opE ps k = x → x ≠ 0 → firstE ps.length (opE ps) = x := fun x hx hne => by rw [firstE_at ps.length (opE ps) k hlt HA.out (by rw [hx]; exact hne), hx]
      have hop : opE ps k = if keyE ps[k].key ≠ 0 then 10 else if 8 < ps[k].val.size then 3 else if ps[k].del = true ∧ ps[k].val.toList.isEmpty = false then 4
          else if 0 < k ∧ Op.bytesLess (ps[k - 1]?.getD opn0).key.toList ps[k].key.toList = false then 18 else 0 := by
        unfold opE
        rw [List.getElem?_eq_getElem hlt]
        rfl
      have HE := Lib.hid hend
      have HO := Lib.hid hop
      have hB1 : ∀ o, Below w.heap.size w (wr.alloc o) := fun o => (((Below.refl _ w).alloc (Nat.le_refl _) _).trans (hB.mono (by omega))).alloc (by omega) o
      clear hend hop
      by_cases hkey : ps[k].key.size < 1 ∨ 8 < ps[k].key.size
      · go_wp2_with fail
        refine (key_bad _ _ hkey).mono ?_
        rintro e w1 ⟨rfl, rfl⟩
        go_wp2
        go_ret
        exact ⟨ret_i64 (HE.out 10 (by rw [HO.out]; unfold keyE; rw [if_pos hkey]; rfl) (by omega)).symm, hB1 _⟩
      have hk0 : keyE ps[k].key = 0 := by unfold keyE; rw [if_neg hkey]
      have HK := Lib.hid hk0
      clear hk0
      by_cases hval : 8 < ps[k].val.size
      · go_wp2_with fail
        refine (key_good _ _ (by omega) (by omega)).mono ?_
        rintro e w1 ⟨rfl, rfl⟩
        go_wp2
        go_ret
        exact ⟨ret_i64 (HE.out 3 (by rw [HO.out, HK.out, if_neg (by simp), if_pos hval]) (by omega)).symm, hB1 _⟩
      by_cases hdv : ps[k].del = true ∧ ps[k].val.toList.isEmpty = false
      · obtain ⟨hd, hv⟩ := hdv
        go_wp2_with fail
        refine (key_good _ _ (by omega) (by omega)).mono ?_
        rintro e w1 ⟨rfl, rfl⟩
        go_wp2
        go_ret
        exact ⟨ret_i64 (HE.out 4 (by rw [HO.out, HK.out, if_neg (by simp), if_neg (by omega), if_pos ⟨hd, hv⟩]) (by omega)).symm, hB1 _⟩
      have hcase : ps[k].del = false ∨ (ps[k].del = true ∧ ps[k].val.toList.isEmpty = true) := by
        cases hd : ps[k].del
        · exact .inl rfl
        · cases hv : ps[k].val.toList.isEmpty
          · exact absurd ⟨hd, hv⟩ hdv
          · exact .inr ⟨rfl, rfl⟩
      have HDV := Lib.hid hdv
      clear hdv
      by_cases hk0 : 0 < k
      · obtain ⟨p0, _, _⟩ := hc (k - 1) (by omega)
        rw [← hcell] at p0
        have hpk : ps[k - 1]? = some ps[k - 1] := List.getElem?_eq_getElem (by omega)
        rw [hpk] at p0
        have HP := Lib.hid hpk
        have hbox1 : ∀ o, (wr.alloc o).cell? ⟨w.heap.size, 2, none⟩ = some (.slice (some ⟨b, off, none⟩) ps.length cap) := fun o => (World.cell?_alloc_past _ _ _ (by omega)).trans hbox
        have p1 : ∀ o, (wr.alloc o).cell? ⟨b, off + (k - 1) * 3, none⟩ = some (.string ps[k - 1].key) := fun o => (World.cell?_alloc_past _ _ _ (by omega)).trans p0
        have q0 : decide (0 < k) = true := by simpa using hk0
        have q1 : IntKind.i64.wrap ((k : Int) - 1) = (k : Int) - 1 := IntWalk.i64_in _ (by omega)
        have q2 : 0 ≤ (k : Int) - 1 := by omega
        have q3 : ((k : Int) - 1).toNat = k - 1 := by omega
        have q4 : (k : Int) - 1 < (ps.length : Int) := by omega
        have g2 : ∀ o, Below (w.heap.size + 1) (w.alloc (.cells #[.int .i64 c, .int .i64 r, .slice (some ⟨b, off, none⟩) ps.length cap] 40)) (wr.alloc o) := fun o => hB.alloc hBs o
        clear hc hcell hB
        cases hless : Op.bytesLess ps[k - 1].key.toList ps[k].key.toList
        · have hfin := HE.out 18 (by rw [HO.out, HK.out, if_neg (by simp), if_neg (by omega), if_neg HDV.out, if_pos ⟨hk0, by rw [HP.out]; exact hless⟩]) (by omega)
          have HF := Lib.hid hfin
          clear hfin
          rcases hcase with hd | ⟨hd, hv⟩
          all_goals
            go_wp2_with fail
            refine (key_good _ _ (by omega) (by omega)).mono ?_
            rintro e w1 ⟨rfl, rfl⟩
            go_wp2
            go_quiet (fail)
            go_wp2
            go_ret
            exact ⟨ret_i64 HF.out.symm, below_drewN (hB1 _) _⟩
        · have hgood : opE ps k = 0 := by rw [HO.out, HK.out, if_neg (by simp), if_neg (by omega), if_neg HDV.out, if_neg (by rw [HP.out]; simp [hless])]
          have HG := Lib.hid hgood
          clear hgood
          rcases hcase with hd | ⟨hd, hv⟩
          all_goals
            go_wp2_with fail
            refine (key_good _ _ (by omega) (by omega)).mono ?_
            rintro e w1 ⟨rfl, rfl⟩
            go_wp2
            go_quiet (fail)
            go_wp2
            go_roundw
            case rel => exact ⟨k + 1, by omega, by go_num, fun j hj => by
              by_cases e : j = k
              · subst e; exact HG.out
              · exact HA.out j (by omega), below_drewN (g2 _) _⟩
            case measure => simp [intOf]; omega
      · have q0 : decide (0 < k) = false := by simpa using hk0
        have g2 : ∀ o, Below (w.heap.size + 1) (w.alloc (.cells #[.int .i64 c, .int .i64 r, .slice (some ⟨b, off, none⟩) ps.length cap] 40)) (wr.alloc o) := fun o => hB.alloc hBs o
        have hgood : opE ps k = 0 := by rw [HO.out, HK.out, if_neg (by simp), if_neg (by omega), if_neg HDV.out, if_neg (by omega)]
        have HG := Lib.hid hgood
        clear hgood hc hcell hB
        rcases hcase with hd | ⟨hd, hv⟩
        all_goals
          go_wp2_with fail
          refine (key_good _ _ (by omega) (by omega)).mono ?_
          rintro e w1 ⟨rfl, rfl⟩
          go_wp2
          go_quiet (fail)
          go_wp2
          go_roundw
          case rel => exact ⟨k + 1, by omega, by go_num, fun j hj => by
            by_cases e : j = k
            · subst e; exact HG.out
            · exact HA.out j (by omega), below_drewN (g2 _) _⟩
          case measure => simp [intOf]; omega
    · have hz : firstE ps.length (opE ps) = 0 := firstE_none _ _ (fun j hj => HA.out j (by omega))
      have HZ := Lib.hid hz
      clear hz
      go_wp2
      go_ret
      exact ⟨ret_i64 HZ.out.symm, ((Below.refl _ w).alloc (Nat.le_refl _) _).trans (hB.mono (by omega))⟩
end Go.Proofs.Ytboiilbeioaneaa
