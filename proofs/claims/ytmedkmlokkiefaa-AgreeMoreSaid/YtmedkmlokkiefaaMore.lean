/- The walk of AgreeMore. -/
import Derived.Test.YtmedkmlokkiefaaAwake
import Derived.StillTailTactics
import Derived.Deep.RegionHeld3
import Derived.Deep.AppendLies
namespace Go.Proofs.Ytmedkmlokkiefaa
open Go.RowKit Law

/-- A mark, later by so much, at most the last one. -/
def lat (m x : Int) : Int := x + min m (18446744073709551615 - x)
theorem le_lat (m x : Int) (hm : 0 ≤ m) (hx : x < 18446744073709551616) : x ≤ lat m x ∧ lat m x < 18446744073709551616 := by unfold lat; omega
def rv (zs : List Int) (j : Nat) : List Value := (zs.drop j).reverse.map (Value.int .u64)
theorem rv_step (zs : List Int) (j : Nat) (hj : j < zs.length) : rv zs (j + 1) ++ [.int .u64 zs[j]] = rv zs j := by
  unfold rv
  rw [List.drop_eq_getElem_cons hj, List.reverse_cons, List.map_append]
  rfl
theorem rv_none (zs : List Int) : rv zs zs.length = [] := by unfold rv; rw [List.drop_length]; rfl
theorem lv_none (m : Int) (zs : List Int) : rv (zs.map (lat m)) zs.length = [] := by have := rv_none (zs.map (lat m)); simpa using this
def lv (m : Int) (zs : List Int) (j : Nat) : List Value := rv (zs.map (lat m)) j
theorem lv_step (m : Int) (zs : List Int) (j : Nat) (hj : j < zs.length) (x : Int) (hx : x = lat m zs[j]) : lv m zs (j + 1) ++ [.int .u64 x] = lv m zs j := by
  have := rv_step (zs.map (lat m)) j (by simpa using hj)
  unfold lv
  rw [← this, hx]
  simp

/-- A row of the call's own reads as its numbers. -/
theorem own_reads {w : World} {base n : Nat} {v : Value} {l : List Int} (h : w.ownsRow base 22 1 v n (l.map (Value.int .u64))) : ∃ A cap, v = .slice A n cap ∧ l.length = n ∧ n ≤ cap ∧ cap ≤ 9223372036854775807 ∧ Nums w A l := by
  have hb := h.lt
  have hc := fun g => h.cells (g := g)
  have hl : l.length = n := by simpa using h.1
  rcases h.2 with ⟨rfl, h0⟩ | ⟨g, cap, cur, rfl, h1, _, h3, h4, _⟩
  · refine ⟨none, 0, by rw [h0], hl, by omega, by omega, fun hne => absurd ?_ hne⟩
    exact List.eq_nil_of_length_eq_zero (by omega)
  · refine ⟨some ⟨g, 0, none⟩, cap, rfl, hl, h3, h4, fun _ => ⟨g, 0, rfl, (hb g rfl).2, fun i hi => ?_⟩⟩
    have := hc g rfl i (.int .u64 l[i]) (by simp [hi])
    simpa [Addr.add_lit, hi] using this

/-- Two rows that share no block. -/
def Apart (v u : Value) : Prop := ∀ g, v.ownBlock = some g → u.ownBlock ≠ some g
theorem Apart.symm {v u : Value} (h : Apart v u) : Apart u v := fun g hu hv => h g hv hu
theorem Apart.kept {v u : Value} (h : Apart v u) : u.ownBlock = none ∨ u.ownBlock ≠ v.ownBlock := by
  cases hv : v.ownBlock with
  | none => cases hu : u.ownBlock <;> simp
  | some g => exact .inr (h g hv)
theorem Apart.new {v v' u : Value} {S : Nat} (h : Apart v u) (hat : v'.ownBlock = v.ownBlock ∨ v'.ownBlock = some S) (hu : ∀ g, u.ownBlock = some g → g < S) : Apart v' u := by
  intro g hv hu'
  rcases hat with e | e
  · exact h g (e ▸ hv) hu'
  · rw [hv] at e
    injection e with e
    have := hu g hu'
    omega

theorem keep_cell {w1 w2 : World} {o : Obj} {row : Option Nat} (hg : (w1.alloc o).drew.grownBy w2 row) {b c : Nat} {v : Value} (hc : w1.cell? ⟨b, c, none⟩ = some v) (hne : row ≠ some b) : w2.cell? ⟨b, c, none⟩ = some v := by
  have hlt : b < w1.heap.size := World.block_lt_of_cell? w1 _ hc
  refine (hg.cell_far ⟨b, c, none⟩ (by show b < (w1.alloc o).heap.size; simp; omega) (Ne.symm hne)).trans ?_
  exact (World.cell?_alloc_past _ _ _ hlt).trans hc

theorem wrap_lat (m z : Int) (hm0 : 0 ≤ m) (hm1 : m ≤ 255) (x0 : 0 ≤ z) (x1 : z < 18446744073709551616) :
    IntKind.u64.wrap (z + if IntKind.u64.wrap (18446744073709551615 - z) < m then IntKind.u64.wrap (18446744073709551615 - z) else m) = lat m z := by
  have e : IntKind.u64.wrap (18446744073709551615 - z) = 18446744073709551615 - z := by rw [IntKind.wrap_u64]; omega
  rw [e, IntKind.wrap_u64]
  unfold lat
  split <;> omega

theorem lst_lt (zs : List Int) (h : ∀ x ∈ zs, x < 18446744073709551616) : lst zs < 18446744073709551616 := by
  by_cases hne : zs = []
  · subst hne; decide
  · exact h _ (lst_mem zs hne)

theorem pins_tail {w : World} {A : Option Addr} {ps : List (Int × Int × Int)} (h : Pins w A ps) : Pins w (A.map fun x => ⟨x.block, x.off + 3, none⟩) (ps.drop 1) := fun hne => by
  obtain ⟨b, off, rfl, hb, hc⟩ := h (by rintro rfl; exact hne rfl)
  refine ⟨b, off + 3, rfl, hb, fun i hi => ?_⟩
  obtain ⟨h1, h2, h3⟩ := hc (1 + i) (by rw [List.length_drop] at hi; omega)
  rw [List.getElem?_drop, show off + 3 + i * 3 = off + (1 + i) * 3 by omega]
  exact ⟨h1, h2, h3⟩

set_option maxHeartbeats 400000 in
theorem more_much (old m : Int) (A A' : Option Addr) (n cap n' cap' : Nat) (w : World) (h : 60 < n ∨ 60 < n') (hm : n ≤ 9223372036854775807) (hm' : n' ≤ 9223372036854775807) :
    Calls Try.prog 5 #[.int .u64 old, .slice A n cap, .slice A' n' cap', .int .u8 m] w fun e w' => e = .returned (.bool true) ∧ Below w.heap.size w w' := by
  by_cases h1 : 60 < n
  · go_enter Try.func5, Try.ntmps5
    go_wp2_with (go_at_call 6; refine (awake_any _).mono ?_; rintro e w1 ⟨rfl, hB⟩)
    go_ret
    exact ⟨rfl, hB⟩
  · have h2 : 60 < n' := by omega
    go_enter Try.func5, Try.ntmps5
    go_wp2_with (go_at_call 6; refine (awake_any _).mono ?_; rintro e w1 ⟨rfl, hB⟩)
    go_ret
    exact ⟨rfl, hB⟩

set_option maxHeartbeats 1000000 in
theorem more_few (old m : Int) (A A' : Option Addr) (cap cap' : Nat) (zs : List Int) (ps : List (Int × Int × Int)) (w : World) (hz : Nums w A zs) (hcap : zs.length ≤ cap) (hmax : cap ≤ 9223372036854775807)
    (hp : Pins w A' ps) (hcap' : ps.length ≤ cap') (hmax' : cap' ≤ 9223372036854775807) (hb0 : ∀ x ∈ zs, 0 ≤ x ∧ x < 18446744073709551616) (h60 : zs.length ≤ 60) (h60' : ps.length ≤ 60) (hm0 : 0 ≤ m) (hm1 : m ≤ 255) :
    Calls Try.prog 5 #[.int .u64 old, .slice A zs.length cap, .slice A' ps.length cap', .int .u8 m] w fun e w' => e = .returned (.bool true) ∧ Below w.heap.size w w' := by
  obtain ⟨i0, hi, hz0, hz1, hz2⟩ := info_parts Try.info22
  have hbk : ∀ k, (h : k < zs.length) → 0 ≤ zs[k] ∧ zs[k] < 18446744073709551616 := fun k h => hb0 _ (List.getElem_mem h)
  have HB := Lib.hid hbk
  have HB0 := Lib.hid hb0
  clear hbk hb0
  go_enter Try.func5, Try.ntmps5
  go_wp2
  go_loopw [9, 10, 11] (fun v u i wr => ∃ j : Nat, j ≤ zs.length ∧ i = .int .i64 ((j : Int) - 1) ∧ wr.ownsRow w.heap.size 22 1 v (zs.length - j) (rv zs j) ∧ wr.ownsRow w.heap.size 22 1 u (zs.length - j) (lv m zs j) ∧ Apart v u ∧ Below w.heap.size w wr)
    (fun _ _ i _ => (intOf i + 1).toNat)
  case atStart => exact ⟨zs.length, Nat.le_refl _, by go_num, by rw [Nat.sub_self, rv_none]; exact World.ownsRow_nil _ _ _ _, by rw [Nat.sub_self, lv, lv_none]; exact World.ownsRow_nil _ _ _ _, fun g h => by simp [Value.ownBlock] at h, Below.refl _ _⟩
  case round =>
    obtain ⟨j, hj, rfl, hv, hu, hap, hB⟩ := hrel
    cases j with
    | zero =>
      obtain ⟨A2, cap2, rfl, hl2, hc2, hm2, hN2⟩ := own_reads (l := zs.reverse) hv
      obtain ⟨A3, cap3, rfl, hl3, hc3, hm3, hN3⟩ := own_reads (l := (zs.map (lat m)).reverse) hu
      rw [Nat.sub_zero] at hl2 hc2 hl3 hc3
      have HL2 := Lib.hid hl2
      have HL3 := Lib.hid hl3
      have hzr := hz.below hB
      have hpr := hp.below hB
      obtain ⟨h, hh⟩ : ∃ h, h = hor old zs (ats ps) := ⟨_, rfl⟩
      obtain ⟨h2, hh2⟩ : ∃ h2, h2 = hor old (zs.map (lat m)).reverse (ats (ps.drop 1)) := ⟨_, rfl⟩
      have hle : h ≤ h2 := by
        rw [hh, hh2]
        exact hor_later old zs (ats ps) _ (lat m) (fun x hx => (le_lat m x hm0 (HB0.out x hx).2).1) (fun x hx => (HB0.out x hx).1) (fun x hx => by
          obtain ⟨q, hq, rfl⟩ := List.mem_map.1 hx
          exact List.mem_map.2 ⟨q, List.mem_of_mem_drop hq, rfl⟩)
      have n0 := lst_nonneg zs (fun x hx => (HB0.out x hx).1)
      have n1 := lst_lt zs (fun x hx => (HB0.out x hx).2)
      have n2 : 0 ≤ lst (zs.map (lat m)).reverse := lst_nonneg _ (fun x hx => by
        obtain ⟨q, hq, rfl⟩ := List.mem_map.1 (List.mem_reverse.1 hx)
        exact Int.le_trans (HB0.out q hq).1 (le_lat m q hm0 (HB0.out q hq).2).1)
      have n3 : lst (zs.map (lat m)).reverse < 18446744073709551616 := lst_lt _ (fun x hx => by
        obtain ⟨q, hq, rfl⟩ := List.mem_map.1 (List.mem_reverse.1 hx)
        exact (le_lat m q hm0 (HB0.out q hq).2).2)
      have C1 : ∀ W, Below wr.heap.size wr W → Calls Try.prog 9 #[.int .u64 old, .slice A zs.length cap, .slice A' ps.length cap'] W fun e w' => e = .returned (.int .u64 h) ∧ Below W.heap.size W w' := fun W hW => by
        rw [hh]
        exact Horizon_any old A A' zs.length cap ps.length cap' zs ps W (hzr.below hW) rfl hcap hmax (hpr.below hW) rfl (by omega) n0 n1
      have C2 : ∀ W, Below wr.heap.size wr W → Calls Try.prog 9 #[.int .u64 old, .slice A2 zs.length cap2, .slice A' ps.length cap'] W fun e w' => e = .returned (.int .u64 h) ∧ Below W.heap.size W w' := fun W hW => by
        rw [hh, ← hor_reverse]
        exact Horizon_any old A2 A' zs.length cap2 ps.length cap' zs.reverse ps W (hN2.below hW) HL2.out hc2 hm2 (hpr.below hW) rfl (by omega) (by rw [lst_reverse]; exact n0) (by rw [lst_reverse]; exact n1)
      have C3 : ∀ W A4 n4 cap4, Below wr.heap.size wr W → Pins wr A4 (ps.drop 1) → (ps.drop 1).length = n4 → Calls Try.prog 9 #[.int .u64 old, .slice A3 zs.length cap3, .slice A4 n4 cap4] W fun e w' => e = .returned (.int .u64 h2) ∧ Below W.heap.size W w' := fun W A4 n4 cap4 hW hP hn => by
        rw [hh2]
        exact Horizon_any old A3 A4 zs.length cap3 n4 cap4 _ (ps.drop 1) W (hN3.below hW) HL3.out hc3 hm3 (hP.below hW) hn (by rw [List.length_drop] at hn; omega) n2 n3
      have C4 : ∀ W, Below wr.heap.size wr W → Calls Try.prog 9 #[.int .u64 h, .slice A zs.length cap, .slice A' ps.length cap'] W fun e w' => e = .returned (.int .u64 h) ∧ Below W.heap.size W w' := fun W hW => by
        have := Horizon_any h A A' zs.length cap ps.length cap' zs ps W (hzr.below hW) rfl hcap hmax (hpr.below hW) rfl (by omega) n0 n1
        rwa [hh, hor_again, ← hh] at this
      have K1 := Lib.hid C1
      have K2 := Lib.hid C2
      have K3 := Lib.hid C3
      have K4 := Lib.hid C4
      have KP := Lib.hid hpr
      clear C1 C2 C3 C4 hh hh2 n0 n1 n2 n3 hl2 hl3 hv hu hap HB HB0 hz hp hzr hpr hN2 hN3
      go_wp2_with fail
      refine (K1.out _ (Below.refl _ _)).mono ?_
      rintro e w1 ⟨rfl, hB1⟩
      rcases Nat.eq_zero_or_pos ps.length with hp0 | hp0
      · obtain rfl : ps = [] := List.eq_nil_of_length_eq_zero hp0
        go_wp2_with fail
        refine (K2.out _ hB1).mono ?_
        rintro e w2 ⟨rfl, hB2⟩
        have hB2' := hB1.trans (hB2.mono hB1.size)
        clear hB1 hB2
        go_wp2_with fail
        refine (K3.out _ _ _ _ hB2' (fun h => absurd rfl h) rfl).mono ?_
        rintro e w3 ⟨rfl, hB3⟩
        have hB3' := hB2'.trans (hB3.mono hB2'.size)
        clear hB2' hB3
        go_wp2_with fail
        refine (K4.out _ hB3').mono ?_
        rintro e w4 ⟨rfl, hB4⟩
        have hB4' := hB3'.trans (hB4.mono hB3'.size)
        clear hB3' hB4
        go_wp2_with fail
        refine (awake_any _).mono ?_
        rintro e w5 ⟨rfl, hB5⟩
        have hB5' := hB.trans ((hB4'.trans (hB5.mono hB4'.size)).mono hB.size)
        clear hB4' hB5
        go_wp2
        go_ret
        exact ⟨rfl, hB5'⟩
      · by_cases hc1 : cap' = 1
        · subst hc1
          go_wp2_with fail
          refine (K2.out _ hB1).mono ?_
          rintro e w2 ⟨rfl, hB2⟩
          have hB2' := hB1.trans (hB2.mono hB1.size)
          clear hB1 hB2
          go_wp2_with fail
          refine (K3.out _ _ _ _ hB2' (fun h => absurd (List.eq_nil_of_length_eq_zero (by rw [List.length_drop]; omega)) h) (by rw [List.length_drop]; omega)).mono ?_
          rintro e w3 ⟨rfl, hB3⟩
          have hB3' := hB2'.trans (hB3.mono hB2'.size)
          clear hB2' hB3
          go_wp2_with fail
          refine (K4.out _ hB3').mono ?_
          rintro e w4 ⟨rfl, hB4⟩
          have hB4' := hB3'.trans (hB4.mono hB3'.size)
          clear hB3' hB4
          go_wp2_with fail
          refine (awake_any _).mono ?_
          rintro e w5 ⟨rfl, hB5⟩
          have hB5' := hB.trans ((hB4'.trans (hB5.mono hB4'.size)).mono hB.size)
          clear hB4' hB5
          go_wp2
          go_ret
          exact ⟨rfl, hB5'⟩
        · go_wp2_with fail
          refine (K2.out _ hB1).mono ?_
          rintro e w2 ⟨rfl, hB2⟩
          have hB2' := hB1.trans (hB2.mono hB1.size)
          clear hB1 hB2
          go_wp2_with fail
          refine (K3.out _ _ _ _ hB2' (pins_tail KP.out) (by rw [List.length_drop])).mono ?_
          rintro e w3 ⟨rfl, hB3⟩
          have hB3' := hB2'.trans (hB3.mono hB2'.size)
          clear hB2' hB3
          go_wp2_with fail
          refine (K4.out _ hB3').mono ?_
          rintro e w4 ⟨rfl, hB4⟩
          have hB4' := hB3'.trans (hB4.mono hB3'.size)
          clear hB3' hB4
          go_wp2_with fail
          refine (awake_any _).mono ?_
          rintro e w5 ⟨rfl, hB5⟩
          have hB5' := hB.trans ((hB4'.trans (hB5.mono hB4'.size)).mono hB.size)
          clear hB4' hB5
          go_wp2
          go_ret
          exact ⟨rfl, hB5'⟩
    | succ j =>
      rw [show (((j + 1 : Nat) : Int) - 1) = (j : Int) by omega]
      obtain ⟨b, off, rfl, hb, hc⟩ := hz (by rintro rfl; simp at hj)
      have hlt : j < zs.length := hj
      have hck : wr.cell? ⟨b, off + j, none⟩ = some (.int .u64 (zs[j]?.getD 0)) := (hB.cell (p := ⟨b, off + j, none⟩) hb).trans (hc j hlt)
      have hc0 := hc j hlt
      obtain ⟨x0, x1⟩ := HB.out j hlt
      have hBs := hB.size
      clear hc hz hp
      go_wp2_with (at_builtin; go_must (refine wpList_append_own_at _ rfl _ _ 23 rfl w.heap.size 22 i0 (.int .u64 0) 1 8 Try.underlying23 hi hz0 hz1 hz2 rfl (by decide) _ _ _ rfl (hv.alloc _) ⟨wr.heap.size, 0, none⟩ 1 1 [.int .u64 zs[j]] rfl rfl ?c1 ?c2 ?c3 ?c4 ?c5 ?_))
      case c1 => exact cell_one_new _ _ _
      case c2 => simp [Value.oneCell']
      case c3 => simp [maxLen]; omega
      case c4 => omega
      case c5 => simp; omega
      intro v1 w1 hv1 hg1 _ hat1
      rw [rv_step zs j hlt, show zs.length - (j + 1) + 1 = zs.length - j by omega] at hv1
      have hu1 := (hu.alloc (.cells #[.int .u64 zs[j]] 22)).kept hg1 hap.kept
      have hB1 : Below w.heap.size w w1 := (hB.alloc hBs _).grown hg1 (by simp; omega) (fun g hg => (hv.lt g hg).1)
      have hap1 : Apart v1 u10 := hap.new hat1 (fun g hg => by have := (hu.lt g hg).2; simp; omega)
      have hck1 : w1.cell? ⟨b, off + j, none⟩ = some (.int .u64 (zs[j]?.getD 0)) := (hB1.cell (p := ⟨b, off + j, none⟩) hb).trans hc0
      have hBs1 := hB1.size
      clear hck hc0 hg1 hat1 hv hu hap hB hBs
      go_wp2
      have j0 : (0 : Int) ≤ (j : Int) := Int.natCast_nonneg _
      have j1 : (j : Int) < (zs.length : Int) := by omega
      have hne : u10.ownBlock ≠ some b := fun e => by have := (hu1.lt b e).1; omega
      have hwrap : IntKind.u64.wrap m = m := by rw [IntKind.wrap_u64]; omega
      go_region_held3 (fun w' => w'.cell? ⟨b, off + j, none⟩ = some (.int .u64 (zs[j]?.getD 0)))
        (first | (exact keep_cell hgrow hck1 hne) | go_keep)
        ((refine step_append_lies _ (by rfl) _ _ _ (by rfl) w.heap.size 22 i0 _ 1 8 Try.underlying23 hi hz0 hz1 hz2 rfl (by omega) u10 (zs.length - (j + 1)) (lv m zs (j + 1)) (by rfl) ((hu1.alloc _).drew) ⟨w1.heap.size, 0, none⟩ 1 1 [.int .u64 (IntKind.u64.wrap (zs[j] + if IntKind.u64.wrap (18446744073709551615 - zs[j]) < m then IntKind.u64.wrap (18446744073709551615 - zs[j]) else m))] (by rfl) (by rfl) (World.news_of_block (cs := #[.int .u64 (IntKind.u64.wrap (zs[j] + if IntKind.u64.wrap (18446744073709551615 - zs[j]) < m then IntKind.u64.wrap (18446744073709551615 - zs[j]) else m))]) (t := 22) (fr := (0, 0)) (heap_alloc_new w1 _)) (by simp [Value.oneCell']) (by omega) (by simp [maxLen]; omega) (by omega) (by simp; omega) (w1.heap.size + 1) (by simp) ?_; intro gg cap2 w2 hu2 hgrow hat hlt3))
      have hx : IntKind.u64.wrap (zs[j] + if IntKind.u64.wrap (18446744073709551615 - zs[j]) < m then IntKind.u64.wrap (18446744073709551615 - zs[j]) else m) = lat m zs[j] := wrap_lat m zs[j] hm0 hm1 x0 x1
      have hu3 : w2.ownsRow w.heap.size 22 1 (.slice (some ⟨gg, 0, none⟩) (zs.length - (j + 1) + 1) cap2) (zs.length - j) (lv m zs j) := by
        rw [← lv_step m zs j hlt _ hx, show zs.length - j = zs.length - (j + 1) + 1 by omega]
        exact hu2
      have hv3 := ((hv1.alloc (.cells #[.int .u64 (IntKind.u64.wrap (zs[j] + if IntKind.u64.wrap (18446744073709551615 - zs[j]) < m then IntKind.u64.wrap (18446744073709551615 - zs[j]) else m))] 22)).drew).kept hgrow hap1.symm.kept
      have hap3 : Apart v1 (.slice (some ⟨gg, 0, none⟩) (zs.length - (j + 1) + 1) cap2) := by
        refine (Apart.new (S := w1.heap.size + 1) hap1.symm ?_ (fun g hg => by have := (hv1.lt g hg).2; omega)).symm
        rcases hat with e | e
        · exact .inl e.symm
        · exact .inr (by rw [e]; rfl)
      have hB3 : Below w.heap.size w w2 := ((hB1.alloc hBs1 _).drew).grown hgrow (by simp; omega) (fun g hg => (hu1.lt g hg).1)
      clear hx hu2 hgrow hat hu1 hv1 hap1 hB1
      go_wp2
      go_roundw
      case rel => exact ⟨j, by omega, rfl, hv3, hu3, hap3, hB3⟩
      case measure => simp [intOf]
end Go.Proofs.Ytmedkmlokkiefaa
