/- The walks of layer 24: the reference's methods. -/
import Derived.Test.YtcedjiebnfbabaaOpen
namespace Go.Proofs.Ytcedjiebnfbabaa
open Go.RowKit

/-- The reference's cells. -/
def xcs (s : St) : Array Value := #[.int .i64 s.a, .int .i64 s.b, .int .i64 s.c, .int .i64 s.d, .int .i64 s.t]
def ycs (s : St) (k : Nat) : Array Value := #[.int .i64 (if 0 < k then up s.a else s.a), .int .i64 (if 1 < k then up s.b else s.b), .int .i64 (if 2 < k then up s.c else s.c), .int .i64 (if 3 < k then up s.d else s.d), .int .i64 s.t]
theorem ycs_get (s : St) (k : Nat) (h : k < 4) : (ycs s k)[k]? = some (.int .i64 (s.n k)) := by
  rcases four k h with rfl | rfl | rfl | rfl <;> rfl
theorem ycs_set (s : St) (k : Nat) (h : k < 4) : (ycs s k).setIfInBounds k (.int .i64 (up (s.n k))) = ycs s (k + 1) := by
  rcases four k h with rfl | rfl | rfl | rfl <;> rfl
theorem xcs_get (s : St) (k : Nat) (h : k < 4) : (xcs s)[k]? = some (.int .i64 (s.n k)) := by
  rcases four k h with rfl | rfl | rfl | rfl <;> rfl
theorem xcs_set (s : St) (k : Nat) (h : k < 4) : (xcs s).setIfInBounds k (.int .i64 0) = xcs (s.zero k) := by
  rcases four k h with rfl | rfl | rfl | rfl <;> rfl
theorem up_if (x : Int) : (if 1073741824 < x + 1 then (1073741824 : Int) else x + 1) = up x := by unfold up; split <;> omega

set_option maxHeartbeats 1000000 in
theorem xtick_any (g : Nat) (s : St) (w : World) (hb : Blk w g 28 (xcs s)) (ok : s.Ok) :
    Calls Try.prog 8 #[.pointer (some ⟨g, 0, none⟩)] w fun e w' => e = .returned (.int .i64 (up s.t)) ∧ Blk w' g 28 (xcs s.tk) ∧ w.grownBy w' (some g) := by
  have HO := Lib.hid ok
  have HB := Lib.hid hb
  clear ok hb
  go_enter Try.func8, Try.ntmps8
  go_wp2
  go_loopw [3] (fun i wr => ∃ k : Nat, k ≤ 4 ∧ i = .int .i64 (k : Int) ∧ Blk wr g 28 (ycs s k) ∧ w.grownBy wr (some g)) (fun i _ => 4 - (intOf i).toNat)
  case atStart => exact ⟨0, by omega, rfl, HB.out, World.grownBy.refl _ _⟩
  case round =>
    obtain ⟨k, hk, rfl, hblk, hgr⟩ := hrel
    have H1 := Lib.hid hblk
    have H2 := Lib.hid hgr
    clear hblk hgr
    by_cases hlt : k < 4
    · have hc : wr.cell? ⟨g, k, none⟩ = some (.int .i64 (s.n k)) := (H1.out.cell k).trans (ycs_get s k hlt)
      have hf : wr.frozen? ⟨g, k, none⟩ = false := H1.out.frozen k
      have h0 : (0 : Int) ≤ (k : Int) := by omega
      have h4 : (k : Int) < 4 := by omega
      have hbd := HO.out.n k
      have hw : IntKind.i64.wrap (s.n k + 1) = s.n k + 1 := IntWalk.i64_in _ (by omega)
      have hset := H1.out.set_ k (.int .i64 (up (s.n k)))
      rw [ycs_set s k hlt] at hset
      have H3 := Lib.hid hset
      have HU := Lib.hid (up_if (s.n k))
      clear hset hbd
      go_wp2
      go_region
      go_wp2
      go_roundw
      case rel => exact ⟨k + 1, by omega, by go_num, by rw [HU.out]; exact H3.out, only_drewN (only_setCell H2.out _ _) 1⟩
      case measure => simp [intOf]; omega
    · obtain rfl : k = 4 := by omega
      have hc : wr.cell? ⟨g, 4, none⟩ = some (.int .i64 s.t) := H1.out.cell 4
      have hf : wr.frozen? ⟨g, 4, none⟩ = false := H1.out.frozen 4
      have hbd := HO.out.t
      have hw : IntKind.i64.wrap (s.t + 1) = s.t + 1 := IntWalk.i64_in _ (by omega)
      have hset : Blk (wr.setCell ⟨g, 4, none⟩ (.int .i64 (up s.t))) g 28 (xcs s.tk) := H1.out.set_ 4 (.int .i64 (up s.t))
      have HU := Lib.hid (up_if s.t)
      have H3 := Lib.hid hset
      clear hset hbd
      by_cases h9 : 1073741824 < s.t + 1
      · have e : up s.t = 1073741824 := by unfold up; omega
        have H4 : Hid (Blk (wr.setCell ⟨g, 4, none⟩ (.int .i64 1073741824)) g 28 (xcs s.tk)) := by rw [← e]; exact H3
        have HE := Lib.hid e.symm
        clear e
        go_wp2
        go_ret
        exact ⟨ret_i64 HE.out, H4.out, only_setCell H2.out _ _⟩
      · have e : up s.t = s.t + 1 := by unfold up; omega
        have H4 : Hid (Blk (wr.setCell ⟨g, 4, none⟩ (.int .i64 (s.t + 1))) g 28 (xcs s.tk)) := by rw [← e]; exact H3
        have HE := Lib.hid e.symm
        clear e
        go_wp2
        go_ret
        exact ⟨ret_i64 HE.out, H4.out, only_setCell H2.out _ _⟩

set_option maxHeartbeats 400000 in
theorem xheard_no (p : Option Addr) (id : Int) (w : World) (h : id < 0 ∨ 4 ≤ id) :
    Calls Try.prog 10 #[.pointer p, .int .i64 id] w fun e w' => e = .returned (.bool false) ∧ w = w' := by
  rcases h with h | h
  · go_enter Try.func10, Try.ntmps10
    go_wp2
    go_ret
    exact ⟨rfl, rfl⟩
  · have h' : ¬ id < 0 := by omega
    have h4 : decide (id < 4) = false := by simp; omega
    go_enter Try.func10, Try.ntmps10
    go_wp2
    go_ret
    exact ⟨rfl, rfl⟩

set_option maxHeartbeats 400000 in
theorem xheard_yes (g k : Nat) (s : St) (w : World) (hb : Blk w g 28 (xcs s)) (h : k < 4) :
    Calls Try.prog 10 #[.pointer (some ⟨g, 0, none⟩), .int .i64 k] w fun e w' => e = .returned (.bool true) ∧ Blk w' g 28 (xcs (s.zero k)) ∧ w.grownBy w' (some g) := by
  have hc : w.cell? ⟨g, k, none⟩ = some (.int .i64 (s.n k)) := (hb.cell k).trans (xcs_get s k h)
  have hf : w.frozen? ⟨g, k, none⟩ = false := hb.frozen k
  have hb1 := hb.set_ k (.int .i64 0)
  rw [xcs_set s k h] at hb1
  have H1 := Lib.hid hb1
  have hk : (0 : Int) ≤ (k : Int) := by omega
  have hk4 : decide ((k : Int) < 4) = true := by simp; omega
  clear hb hb1
  go_enter Try.func10, Try.ntmps10
  go_wp2
  go_ret
  exact ⟨rfl, H1.out, only_setCell (World.grownBy.refl _ _) _ _⟩

set_option maxHeartbeats 400000 in
theorem xcount_no (p : Option Addr) (id : Int) (w : World) (h : id < 0 ∨ 4 ≤ id) :
    Calls Try.prog 15 #[.pointer p, .int .i64 id] w fun e w' => e = .returned (.int .i64 (-1)) ∧ w = w' := by
  rcases h with h | h
  · go_enter Try.func15, Try.ntmps15
    go_wp2
    go_ret
    exact ⟨rfl, rfl⟩
  · have h' : ¬ id < 0 := by omega
    have h4 : decide (id < 4) = false := by simp; omega
    go_enter Try.func15, Try.ntmps15
    go_wp2
    go_ret
    exact ⟨rfl, rfl⟩

set_option maxHeartbeats 400000 in
theorem xcount_yes (g k : Nat) (s : St) (w : World) (hb : Blk w g 28 (xcs s)) (h : k < 4) :
    Calls Try.prog 15 #[.pointer (some ⟨g, 0, none⟩), .int .i64 k] w fun e w' => e = .returned (.int .i64 (s.n k)) ∧ w = w' := by
  have hc : w.cell? ⟨g, k, none⟩ = some (.int .i64 (s.n k)) := (hb.cell k).trans (xcs_get s k h)
  have hk : (0 : Int) ≤ (k : Int) := by omega
  have hk4 : decide ((k : Int) < 4) = true := by simp; omega
  clear hb
  go_enter Try.func15, Try.ntmps15
  go_wp2
  go_ret
  exact ⟨rfl, rfl⟩

set_option maxHeartbeats 1000000 in
theorem xlate_any (g : Nat) (s : St) (w : World) (hb : Blk w g 28 (xcs s)) :
    Calls Try.prog 13 #[.pointer (some ⟨g, 0, none⟩)] w fun e w' => ∃ v, e = .returned v ∧ w'.ownsRow w.heap.size 3 1 v (lateL s 4).length (lateV s 4) ∧ Below w.heap.size w w' := by
  obtain ⟨i0, hi, hz0, hz1, hz2⟩ := info_parts Try.info3
  have HB := Lib.hid hb
  clear hb
  go_enter Try.func13, Try.ntmps13
  go_wp2
  go_loopw [3, 4] (fun v i wr => ∃ k : Nat, k ≤ 4 ∧ i = .int .i64 (k : Int) ∧ wr.ownsRow w.heap.size 3 1 v (lateL s k).length (lateV s k) ∧ Below w.heap.size w wr) (fun _ i _ => 4 - (intOf i).toNat)
  case atStart => exact ⟨0, by omega, rfl, World.ownsRow_nil _ _ _ _, Below.refl _ _⟩
  case round =>
    obtain ⟨k, hk, rfl, hown, hB⟩ := hrel
    have hBs := hB.size
    by_cases hlt : k < 4
    · have hc : wr.cell? ⟨g, k, none⟩ = some (.int .i64 (s.n k)) := ((HB.out.below hB HB.out.lt).cell k).trans (xcs_get s k hlt)
      have hk0 : (0 : Int) ≤ (k : Int) := by omega
      have hle := lateL_le s k
      by_cases h6 : 6 ≤ s.n k
      · have HL := Lib.hid (lateL_yes s k h6)
        go_wp2_with (at_builtin; go_must (refine wpList_append_own_at _ rfl _ _ 22 rfl w.heap.size 3 i0 (.int .i64 0) 1 8 Try.underlying22 hi hz0 hz1 hz2 rfl (by decide) _ _ _ rfl (hown.alloc _) ⟨wr.heap.size, 0, none⟩ 1 1 [.int .i64 (k : Int)] rfl rfl ?c1 ?c2 ?c3 ?c4 ?c5 ?_))
        case c1 => exact cell_one_new _ _ _
        case c2 => simp [Value.oneCell']
        case c3 => simp [maxLen]; omega
        case c4 => omega
        case c5 => simp; omega
        intro v1 w1 hv1 hg1 _ _
        have hv2 : w1.ownsRow w.heap.size 3 1 v1 (lateL s (k + 1)).length (lateV s (k + 1)) := by
          unfold lateV
          rw [HL.out, List.length_append, List.map_append]
          exact hv1
        have hB1 : Below w.heap.size w w1 := (hB.alloc hBs _).grown hg1 (by simp; omega) (fun j hj => (hown.lt j hj).1)
        clear hv1 hg1 hown hB
        go_wp2
        go_roundw
        case rel => first | exact ⟨k + 1, by omega, by go_num, hv2, hB1⟩ | ((repeat apply Exists.intro); exact ⟨⟨k + 1, by omega, by go_num, hv2, hB1⟩, rfl⟩)
        case measure => simp [intOf]; omega
      · have HL := Lib.hid (lateL_no s k h6)
        have hv2 : wr.ownsRow w.heap.size 3 1 u3 (lateL s (k + 1)).length (lateV s (k + 1)) := by
          unfold lateV
          rw [HL.out]
          exact hown
        clear hown
        go_wp2
        go_roundw
        case rel => first | exact ⟨k + 1, by omega, by go_num, hv2, hB⟩ | ((repeat apply Exists.intro); exact ⟨⟨k + 1, by omega, by go_num, hv2, hB⟩, rfl⟩)
        case measure => simp [intOf]; omega
    · obtain rfl : k = 4 := by omega
      go_wp2
      go_ret
      exact ⟨_, rfl, hown, hB⟩

/-- Two lists that are one. -/
theorem same_any (A A' : Option Addr) (n cap cap' : Nat) (l : List Nat) (w : World) (h : Ints w A l) (h' : Ints w A' l) (hn : l.length = n) (hm : n ≤ 9223372036854775807) :
    Calls Try.prog 11 #[.slice A n cap, .slice A' n cap'] w fun e w' => e = .returned (.bool true) ∧ ∃ m, w' = w.drewN m := by
  subst hn
  go_enter Try.func11, Try.ntmps11
  go_wp2
  go_loopw [5] (fun i wr => ∃ (k m : Nat), k ≤ l.length ∧ i = .int .i64 (k : Int) ∧ wr = w.drewN m) (fun i _ => l.length - (intOf i).toNat)
  case atStart => exact ⟨0, 0, Nat.zero_le _, rfl, rfl⟩
  case round =>
    obtain ⟨k, m, hk, rfl, rfl⟩ := hrel
    by_cases hlt : k < l.length
    · obtain ⟨b, off, rfl, hb, hc⟩ := h (by rintro rfl; simp at hlt)
      obtain ⟨b', off', rfl, hb', hc'⟩ := h' (by rintro rfl; simp at hlt)
      have c1 : w.cell? ⟨b, off + k, none⟩ = some (.int .i64 (l[k] : Int)) := hc k hlt
      have c2 : w.cell? ⟨b', off' + k, none⟩ = some (.int .i64 (l[k] : Int)) := hc' k hlt
      have k0 : (0 : Int) ≤ (k : Int) := by omega
      have k1 : (k : Int) < (l.length : Int) := by omega
      clear hc hc' h h'
      go_wp2
      go_quiet (fail)
      go_wp2
      go_roundw
      case rel => exact ⟨k + 1, _, by omega, by go_num, rfl⟩
      case measure => simp [intOf]; omega
    · go_wp2
      go_ret
      exact ⟨rfl, _, rfl⟩
end Go.Proofs.Ytcedjiebnfbabaa
