/- The walk of WatchPlays. -/
import Derived.Test.YtcedjiebnfbabaaRef
namespace Go.Proofs.Ytcedjiebnfbabaa
open Go.RowKit

/-- A count, by any number. -/
def cnt (s : St) (id : Int) : Int := if id < 0 ∨ 4 ≤ id then -1 else s.n id.toNat
theorem count_gen (g : Nat) (id : Int) (s : St) (w : World) (hb : Blk w g 45 (wcs s)) : Calls Try.prog 14 #[.pointer (some ⟨g, 0, none⟩), .int .i64 id] w fun e w' => e = .returned (.int .i64 (cnt s id)) ∧ w = w' := by
  unfold cnt
  by_cases h : id < 0 ∨ 4 ≤ id
  · rw [if_pos h]; exact count_no g id s w hb h
  · rw [if_neg h]
    obtain ⟨k, rfl⟩ := Int.eq_ofNat_of_zero_le (show 0 ≤ id by omega)
    exact count_yes g k s w hb (by omega)
theorem xcount_gen (g : Nat) (id : Int) (s : St) (w : World) (hb : Blk w g 28 (xcs s)) : Calls Try.prog 15 #[.pointer (some ⟨g, 0, none⟩), .int .i64 id] w fun e w' => e = .returned (.int .i64 (cnt s id)) ∧ w = w' := by
  unfold cnt
  by_cases h : id < 0 ∨ 4 ≤ id
  · rw [if_pos h]; exact xcount_no _ id w h
  · rw [if_neg h]
    obtain ⟨k, rfl⟩ := Int.eq_ofNat_of_zero_le (show 0 ≤ id by omega)
    exact xcount_yes g k s w hb (by omega)
/-- Heard of, by any number. -/
def hrd (s : St) (id : Int) : St := if id < 0 ∨ 4 ≤ id then s else s.zero id.toNat
def isB (id : Int) : Bool := if id < 0 ∨ 4 ≤ id then false else true
theorem hrd_ok {s : St} (h : s.Ok) (id : Int) : (hrd s id).Ok := by
  unfold hrd
  split
  · exact h
  · exact h.zero _
theorem heard_gen (g : Nat) (id : Int) (s : St) (w : World) (hb : Blk w g 45 (wcs s)) : Calls Try.prog 9 #[.pointer (some ⟨g, 0, none⟩), .int .i64 id] w fun e w' => e = .returned (.bool (isB id)) ∧ Blk w' g 45 (wcs (hrd s id)) ∧ w.grownBy w' (some g) := by
  unfold hrd isB
  by_cases h : id < 0 ∨ 4 ≤ id
  · rw [if_pos h, if_pos h]
    refine (heard_no g id s w hb h).mono ?_
    rintro e w' ⟨rfl, rfl⟩
    exact ⟨rfl, hb, World.grownBy.refl _ _⟩
  · rw [if_neg h, if_neg h]
    obtain ⟨k, rfl⟩ := Int.eq_ofNat_of_zero_le (show 0 ≤ id by omega)
    exact heard_yes g k s w hb (by omega)
theorem xheard_gen (g : Nat) (id : Int) (s : St) (w : World) (hb : Blk w g 28 (xcs s)) : Calls Try.prog 10 #[.pointer (some ⟨g, 0, none⟩), .int .i64 id] w fun e w' => e = .returned (.bool (isB id)) ∧ Blk w' g 28 (xcs (hrd s id)) ∧ w.grownBy w' (some g) := by
  unfold hrd isB
  by_cases h : id < 0 ∨ 4 ≤ id
  · rw [if_pos h, if_pos h]
    refine (xheard_no _ id w h).mono ?_
    rintro e w' ⟨rfl, rfl⟩
    exact ⟨rfl, hb, World.grownBy.refl _ _⟩
  · rw [if_neg h, if_neg h]
    obtain ⟨k, rfl⟩ := Int.eq_ofNat_of_zero_le (show 0 ≤ id by omega)
    exact xheard_yes g k s w hb (by omega)

theorem Ints.kept {w w' : World} {A : Option Addr} {l : List Nat} (h : Ints w A l) (hb : Below w.heap.size w w') : Ints w' A l := by
  intro hne
  obtain ⟨b, off, rfl, h1, h2⟩ := h hne
  have := hb.size
  exact ⟨b, off, rfl, by omega, fun i hi => (hb.cell (p := ⟨b, off + i, none⟩) h1).trans (h2 i hi)⟩

set_option maxHeartbeats 2000000 in
set_option maxRecDepth 100000 in
theorem plays_law (A : Option Addr) (m cap : Nat) (zs : List Int) (w : World) (hz : Nums w A zs) (hn : zs.length = m) (hm : m ≤ 9223372036854775807) :
    Calls Try.prog 3 #[.slice A m cap] w fun e w' => e = .returned (.bool true) ∧ Below w.heap.size w w' := by
  subst hn
  go_enter Try.func3, Try.ntmps3
  go_wp2_with fail
  refine (new_any _).mono ?_
  rintro e w1 ⟨rfl, hw1⟩
  have hsz : w1.heap.size = w.heap.size + 1 := by rw [hw1]; simp
  have hb0 : Blk (w1.alloc (.cells (xcs ⟨0, 0, 0, 0, 0⟩) 28)) w.heap.size 45 (wcs ⟨0, 0, 0, 0, 0⟩) := by rw [hw1]; exact (Below.heap_alloc _ _ _ (by simp)).trans (Blk.new _ _ _)
  have hx0 : Blk (w1.alloc (.cells (xcs ⟨0, 0, 0, 0, 0⟩) 28)) (w.heap.size + 1) 28 (xcs ⟨0, 0, 0, 0, 0⟩) := by rw [← hsz]; exact Blk.new _ _ _
  have hB0 : Below w.heap.size w (w1.alloc (.cells (xcs ⟨0, 0, 0, 0, 0⟩) 28)) := by rw [hw1]; exact ((Below.refl _ _).alloc (Nat.le_refl _) _).alloc (by simp) _
  clear hw1
  have H0 := Lib.hid hb0
  have H1 := Lib.hid hx0
  have H2 := Lib.hid hB0
  clear hb0 hx0 hB0
  go_wp2
  go_loopw [5] (fun i wr => ∃ (j : Nat) (s : St), j ≤ zs.length ∧ i = .int .i64 (j : Int) ∧ Blk wr w.heap.size 45 (wcs s) ∧ Blk wr (w.heap.size + 1) 28 (xcs s) ∧ s.Ok ∧ Below w.heap.size w wr) (fun i _ => zs.length - (intOf i).toNat)
  case atStart => exact ⟨0, _, Nat.zero_le _, rfl, H0.out, H1.out, ⟨by simp, by simp, by simp, by simp, by simp⟩, H2.out⟩
  case round =>
    obtain ⟨j, s, hj, rfl, hblk, hxb, hok, hB⟩ := hrel
    have K1 := Lib.hid hblk
    have K2 := Lib.hid hxb
    have K3 := Lib.hid hok
    have K4 := Lib.hid hB
    clear hblk hxb hok hB
    by_cases hlt : j < zs.length
    · by_cases h200 : j < 200
      · obtain ⟨b, off, rfl, hb, hc⟩ := hz (by rintro rfl; simp at hlt)
        have hcw : w.cell? ⟨b, off + j, none⟩ = some (.int .i64 (zs[j]?.getD 0)) := hc j hlt
        have h2b : decide ((j : Int) < 200) = true := by simp; omega
        clear hc hz
        generalize zs[j]?.getD 0 = z at hcw
        have hcz : wr.cell? ⟨b, off + j, none⟩ = some (.int .i64 z) := (K4.out.cell (p := ⟨b, off + j, none⟩) hb).trans hcw
        have HCW := Lib.hid hcw
        clear hcw
        generalize zs.length = n at *
        have hj0 : (0 : Int) ≤ (j : Int) := Int.natCast_nonneg _
        have hjn : (j : Int) < (n : Int) := by omega
        by_cases hm2 : (z == -2) = true
        · go_wp2_with fail
          refine (tick_any _ s _ K1.out K3.out).mono ?_
          rintro e w2 ⟨rfl, hb2, hg2⟩
          have L1 := Lib.hid hb2
          have L2 := Lib.hid (K2.out.grown hg2 (by simp))
          have L4 := Lib.hid (K4.out.grown hg2 K4.out.size (fun j hj => by cases hj; exact Nat.le_refl _))
          clear hb2 hg2 hcz
          go_wp2_with fail
          refine (xtick_any _ s _ L2.out K3.out).mono ?_
          rintro e w3 ⟨rfl, hb3, hg3⟩
          have M1 := Lib.hid (L1.out.grown hg3 (by simp))
          have M2 := Lib.hid hb3
          have M3 := Lib.hid K3.out.tk
          have M4 := Lib.hid (L4.out.grown hg3 L4.out.size (fun j hj => by cases hj; omega))
          have hcz3 : w3.cell? ⟨b, off + j, none⟩ = some (.int .i64 z) := (M4.out.cell (p := ⟨b, off + j, none⟩) hb).trans HCW.out
          clear hb3 hg3 L1 L2 L4
          generalize hst : s.tk = s3 at *
          clear hst
          go_wp2_with fail
          have P1d : Blk w3.drew w.heap.size 45 (wcs s3) := M1.out
          have P2d : Blk w3.drew (w.heap.size + 1) 28 (xcs s3) := M2.out
          have P4d : Below w.heap.size w w3.drew := below_drewN M4.out 1
          have P1 := Lib.hid P1d
          have P2 := Lib.hid P2d
          have P4 := Lib.hid P4d
          clear P1d P2d P4d
          go_region_held3 (fun w' => w'.cell? ⟨b, off + j, none⟩ = some (.int .i64 z))
            (first | (exact (N4.out.cell (p := ⟨b, off + j, none⟩) hb).trans HCW.out) | (exact (O4.out.cell (p := ⟨b, off + j, none⟩) hb).trans HCW.out) | (exact (S4.out.cell (p := ⟨b, off + j, none⟩) hb).trans HCW.out) | go_keep)
            (first
              | (go_at_call 12
                 refine (late_any _ s3 _ P1.out).mono ?_
                 rintro e wA ⟨v1, rfl, hown1, hBA⟩
                 obtain ⟨A1, cap1, rfl, hl1, hI1⟩ := own_ints hown1
                 have hL4 := lateL_le s3 4
                 have N1 := Lib.hid (P1.out.below hBA P1.out.lt)
                 have N2 := Lib.hid (P2.out.below hBA P2.out.lt)
                 have N4 := Lib.hid (P4.out.trans (hBA.mono P4.out.size))
                 clear hown1 hBA hl1)
              | (go_at_call 13
                 refine (xlate_any _ s3 _ N2.out).mono ?_
                 rintro e wB ⟨v2, rfl, hown2, hBB⟩
                 obtain ⟨A2, cap2, rfl, hl2, hI2⟩ := own_ints hown2
                 have O1 := Lib.hid (N1.out.below hBB N1.out.lt)
                 have O2 := Lib.hid (N2.out.below hBB N2.out.lt)
                 have O4 := Lib.hid (N4.out.trans (hBB.mono N4.out.size))
                 have hI1' := hI1.kept hBB
                 clear hown2 hBB hl2 hI1)
              | (go_at_call 11
                 refine (same_any _ _ _ _ _ _ _ hI1' hI2 rfl (by omega)).mono ?_
                 rintro e wC ⟨rfl, mC, rfl⟩
                 have S1 := Lib.hid (show Blk (World.drewN _ mC) w.heap.size 45 (wcs s3) from O1.out)
                 have S2 := Lib.hid (show Blk (World.drewN _ mC) (w.heap.size + 1) 28 (xcs s3) from O2.out)
                 have S4 := Lib.hid (below_drewN O4.out mC)
                 clear hI1' hI2)
              | (go_at_call 14
                 refine (count_gen _ _ s3 _ S1.out).mono ?_
                 rintro e wD ⟨rfl, rfl⟩)
              | (go_at_call 15
                 refine (xcount_gen _ _ s3 _ S2.out).mono ?_
                 rintro e wE ⟨rfl, rfl⟩))
          go_wp2
          go_roundw
          case rel =>
            have hr : ∃ (j' : Nat) (s' : St), j' ≤ n ∧ Value.int .i64 ((j : Int) + 1) = .int .i64 (j' : Int) ∧ Blk (World.drewN wB mC) w.heap.size 45 (wcs s') ∧ Blk (World.drewN wB mC) (w.heap.size + 1) 28 (xcs s') ∧ s'.Ok ∧ Below w.heap.size w (World.drewN wB mC) :=
              ⟨j + 1, s3, by omega, by go_num, S1.out, S2.out, M3.out, S4.out⟩
            first | exact hr | ((repeat apply Exists.intro); exact ⟨hr, rfl⟩)
          case measure => simp [intOf]; omega
        · have hm3 : (z == -2) = false := by simpa using hm2
          clear hm2
          go_wp2_with fail
          have K1d : Blk wr.drew w.heap.size 45 (wcs s) := K1.out
          have K2d : Blk wr.drew (w.heap.size + 1) 28 (xcs s) := K2.out
          have K4d : Below w.heap.size w wr.drew := below_drewN K4.out 1
          have K1h := Lib.hid K1d
          have K2h := Lib.hid K2d
          have K4h := Lib.hid K4d
          clear K1d K2d K4d
          go_region_held3 (fun w' => w'.cell? ⟨b, off + j, none⟩ = some (.int .i64 z))
            (first | (exact (M4.out.cell (p := ⟨b, off + j, none⟩) hb).trans HCW.out) | (exact (L4.out.cell (p := ⟨b, off + j, none⟩) hb).trans HCW.out) | go_keep)
            (first
              | (go_at_call 10
                 refine (xheard_gen _ z s _ L2.out).mono ?_
                 rintro e w3 ⟨rfl, hb3, hg3⟩
                 have M1 := Lib.hid (L1.out.grown hg3 (by simp))
                 have M2 := Lib.hid hb3
                 have M3 := Lib.hid (hrd_ok K3.out z)
                 have M4 := Lib.hid (L4.out.grown hg3 L4.out.size (fun j hj => by cases hj; omega))
                 clear hb3 hg3)
              | (go_at_call 9
                 refine (heard_gen _ z s _ K1h.out).mono ?_
                 rintro e w2 ⟨rfl, hb2, hg2⟩
                 have L1 := Lib.hid hb2
                 have L2 := Lib.hid (K2h.out.grown hg2 (by simp))
                 have L4 := Lib.hid (K4h.out.grown hg2 K4h.out.size (fun j hj => by cases hj; exact Nat.le_refl _))
                 clear hb2 hg2))
          have hcz3 : w3.cell? ⟨b, off + j, none⟩ = some (.int .i64 z) := (M4.out.cell (p := ⟨b, off + j, none⟩) hb).trans HCW.out
          clear L1 L2 L4
          generalize hst : hrd s z = s3 at *
          clear hst
          go_wp2_with fail
          have P1d : Blk w3.drew w.heap.size 45 (wcs s3) := M1.out
          have P2d : Blk w3.drew (w.heap.size + 1) 28 (xcs s3) := M2.out
          have P4d : Below w.heap.size w w3.drew := below_drewN M4.out 1
          have P1 := Lib.hid P1d
          have P2 := Lib.hid P2d
          have P4 := Lib.hid P4d
          clear P1d P2d P4d
          go_region_held3 (fun w' => w'.cell? ⟨b, off + j, none⟩ = some (.int .i64 z))
            (first | (exact (N4.out.cell (p := ⟨b, off + j, none⟩) hb).trans HCW.out) | (exact (O4.out.cell (p := ⟨b, off + j, none⟩) hb).trans HCW.out) | (exact (S4.out.cell (p := ⟨b, off + j, none⟩) hb).trans HCW.out) | go_keep)
            (first
              | (go_at_call 12
                 refine (late_any _ s3 _ P1.out).mono ?_
                 rintro e wA ⟨v1, rfl, hown1, hBA⟩
                 obtain ⟨A1, cap1, rfl, hl1, hI1⟩ := own_ints hown1
                 have hL4 := lateL_le s3 4
                 have N1 := Lib.hid (P1.out.below hBA P1.out.lt)
                 have N2 := Lib.hid (P2.out.below hBA P2.out.lt)
                 have N4 := Lib.hid (P4.out.trans (hBA.mono P4.out.size))
                 clear hown1 hBA hl1)
              | (go_at_call 13
                 refine (xlate_any _ s3 _ N2.out).mono ?_
                 rintro e wB ⟨v2, rfl, hown2, hBB⟩
                 obtain ⟨A2, cap2, rfl, hl2, hI2⟩ := own_ints hown2
                 have O1 := Lib.hid (N1.out.below hBB N1.out.lt)
                 have O2 := Lib.hid (N2.out.below hBB N2.out.lt)
                 have O4 := Lib.hid (N4.out.trans (hBB.mono N4.out.size))
                 have hI1' := hI1.kept hBB
                 clear hown2 hBB hl2 hI1)
              | (go_at_call 11
                 refine (same_any _ _ _ _ _ _ _ hI1' hI2 rfl (by omega)).mono ?_
                 rintro e wC ⟨rfl, mC, rfl⟩
                 have S1 := Lib.hid (show Blk (World.drewN _ mC) w.heap.size 45 (wcs s3) from O1.out)
                 have S2 := Lib.hid (show Blk (World.drewN _ mC) (w.heap.size + 1) 28 (xcs s3) from O2.out)
                 have S4 := Lib.hid (below_drewN O4.out mC)
                 clear hI1' hI2)
              | (go_at_call 14
                 refine (count_gen _ _ s3 _ S1.out).mono ?_
                 rintro e wD ⟨rfl, rfl⟩)
              | (go_at_call 15
                 refine (xcount_gen _ _ s3 _ S2.out).mono ?_
                 rintro e wE ⟨rfl, rfl⟩))
          go_wp2
          go_roundw
          case rel =>
            have hr : ∃ (j' : Nat) (s' : St), j' ≤ n ∧ Value.int .i64 ((j : Int) + 1) = .int .i64 (j' : Int) ∧ Blk (World.drewN wB mC) w.heap.size 45 (wcs s') ∧ Blk (World.drewN wB mC) (w.heap.size + 1) 28 (xcs s') ∧ s'.Ok ∧ Below w.heap.size w (World.drewN wB mC) :=
              ⟨j + 1, s3, by omega, by go_num, S1.out, S2.out, M3.out, S4.out⟩
            first | exact hr | ((repeat apply Exists.intro); exact ⟨hr, rfl⟩)
          case measure => simp [intOf]; omega
      · have h2b : decide ((j : Int) < 200) = false := by simp; omega
        go_wp2_with fail
        refine (awake_any _).mono ?_
        rintro e w2 ⟨rfl, hB2⟩
        have L4 := Lib.hid (K4.out.trans (hB2.mono K4.out.size))
        clear hB2
        go_wp2
        go_ret
        exact ⟨rfl, L4.out⟩
    · go_wp2_with fail
      refine (awake_any _).mono ?_
      rintro e w2 ⟨rfl, hB2⟩
      have L4 := Lib.hid (K4.out.trans (hB2.mono K4.out.size))
      clear hB2
      go_wp2
      go_ret
      exact ⟨rfl, L4.out⟩
end Go.Proofs.Ytcedjiebnfbabaa
