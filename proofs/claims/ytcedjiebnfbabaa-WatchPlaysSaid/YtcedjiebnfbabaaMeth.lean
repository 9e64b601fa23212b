/- The walks of layer 24: the program's methods. -/
import Derived.Test.YtcedjiebnfbabaaBase
namespace Go.Proofs.Ytcedjiebnfbabaa
open Go.RowKit

/-- Four counts, and how many ticks. -/
structure St where
  a : Int
  b : Int
  c : Int
  d : Int
  t : Int
def St.n (s : St) (i : Nat) : Int := if i = 0 then s.a else if i = 1 then s.b else if i = 2 then s.c else s.d
structure St.Ok (s : St) : Prop where
  a : 0 ≤ s.a ∧ s.a ≤ 1073741824
  b : 0 ≤ s.b ∧ s.b ≤ 1073741824
  c : 0 ≤ s.c ∧ s.c ≤ 1073741824
  d : 0 ≤ s.d ∧ s.d ≤ 1073741824
  t : 0 ≤ s.t ∧ s.t ≤ 1073741824
/-- Behind a tick. -/
def St.tk (s : St) : St := ⟨up s.a, up s.b, up s.c, up s.d, up s.t⟩
/-- One was heard of. -/
def St.zero (s : St) (i : Nat) : St := ⟨if i = 0 then 0 else s.a, if i = 1 then 0 else s.b, if i = 2 then 0 else s.c, if i = 3 then 0 else s.d, s.t⟩
theorem St.Ok.tk {s : St} (h : s.Ok) : s.tk.Ok := ⟨up_bd _ h.a.1 h.a.2, up_bd _ h.b.1 h.b.2, up_bd _ h.c.1 h.c.2, up_bd _ h.d.1 h.d.2, up_bd _ h.t.1 h.t.2⟩
theorem St.Ok.zero {s : St} (h : s.Ok) (i : Nat) : (s.zero i).Ok := by
  have ha := h.a
  have hb := h.b
  have hc := h.c
  have hd := h.d
  refine ⟨?_, ?_, ?_, ?_, h.t⟩ <;> (unfold St.zero; simp only; split <;> omega)

/-- The program's cells. -/
def wcs (s : St) : Array Value := #[.int .i64 s.a, .int .i64 s.b, .int .i64 s.c, .int .i64 s.d, .int .i64 s.t, .bool true]
/-- .. behind k counts of a tick. -/
def tcs (s : St) (k : Nat) : Array Value := #[.int .i64 (if 0 < k then up s.a else s.a), .int .i64 (if 1 < k then up s.b else s.b), .int .i64 (if 2 < k then up s.c else s.c), .int .i64 (if 3 < k then up s.d else s.d), .int .i64 s.t, .bool true]

theorem St.Ok.n {s : St} (h : s.Ok) (i : Nat) : 0 ≤ s.n i ∧ s.n i ≤ 1073741824 := by
  have ha := h.a
  have hb := h.b
  have hc := h.c
  have hd := h.d
  unfold St.n
  split
  · exact ha
  · split
    · exact hb
    · split
      · exact hc
      · exact hd
theorem four (k : Nat) (h : k < 4) : k = 0 ∨ k = 1 ∨ k = 2 ∨ k = 3 := by omega
theorem tcs_get (s : St) (k : Nat) (h : k < 4) : (tcs s k)[k]? = some (.int .i64 (s.n k)) := by
  rcases four k h with rfl | rfl | rfl | rfl <;> rfl
theorem tcs_set (s : St) (k : Nat) (h : k < 4) : (tcs s k).setIfInBounds k (.int .i64 (up (s.n k))) = tcs s (k + 1) := by
  rcases four k h with rfl | rfl | rfl | rfl <;> rfl
theorem wcs_get (s : St) (k : Nat) (h : k < 4) : (wcs s)[k]? = some (.int .i64 (s.n k)) := by
  rcases four k h with rfl | rfl | rfl | rfl <;> rfl
theorem wcs_set (s : St) (k : Nat) (h : k < 4) : (wcs s).setIfInBounds k (.int .i64 0) = wcs (s.zero k) := by
  rcases four k h with rfl | rfl | rfl | rfl <;> rfl

theorem new_any (w : World) : Calls Try.prog 6 #[] w fun e w' => e = .returned (.pointer (some ⟨w.heap.size, 0, none⟩)) ∧ w' = w.alloc (.cells (wcs ⟨0, 0, 0, 0, 0⟩) 45) := by
  go_enter Try.func6, Try.ntmps6
  go_wp2
  go_ret
  exact ⟨rfl, rfl⟩

set_option maxHeartbeats 1000000 in
theorem tick_any (g : Nat) (s : St) (w : World) (hb : Blk w g 45 (wcs s)) (ok : s.Ok) :
    Calls Try.prog 7 #[.pointer (some ⟨g, 0, none⟩)] w fun e w' => e = .returned (.int .i64 (up s.t)) ∧ Blk w' g 45 (wcs s.tk) ∧ w.grownBy w' (some g) := by
  have hm : w.cell? ⟨g, 5, none⟩ = some (.bool true) := hb.cell 5
  have HO := Lib.hid ok
  have HB := Lib.hid hb
  clear ok hb
  go_enter Try.func7, Try.ntmps7
  go_wp2
  go_loopw [6] (fun i wr => ∃ k : Nat, k ≤ 4 ∧ i = .int .i64 (k : Int) ∧ Blk wr g 45 (tcs s k) ∧ w.grownBy wr (some g)) (fun i _ => 4 - (intOf i).toNat)
  case atStart => exact ⟨0, by omega, rfl, HB.out, World.grownBy.refl _ _⟩
  case round =>
    obtain ⟨k, hk, rfl, hblk, hgr⟩ := hrel
    clear hm
    by_cases hlt : k < 4
    · have H1 := Lib.hid hblk
      have H2 := Lib.hid hgr
      clear hblk hgr
      have h0 : 0 ≤ (k : Int) := by omega
      go_wp2_with fail
      refine (more_any g k 45 _ _ _ H1.out (tcs_get s k hlt) (HO.out.n k).1 (HO.out.n k).2).mono ?_
      rintro e w1 ⟨rfl, hb1, hg1⟩
      rw [tcs_set s k hlt] at hb1
      have H3 := Lib.hid (H2.out.trans hg1)
      have H4 := Lib.hid hb1
      clear hb1 hg1
      go_wp2
      go_roundw
      case rel => (repeat apply Exists.intro); exact ⟨⟨k + 1, by omega, by go_num, H4.out, H3.out⟩, rfl⟩
      case measure => simp [intOf]; omega
    · obtain rfl : k = 4 := by omega
      have H1 := Lib.hid hblk
      have H2 := Lib.hid hgr
      clear hblk hgr
      go_wp2_with fail
      refine (more_any g 4 45 _ _ _ H1.out rfl HO.out.t.1 HO.out.t.2).mono ?_
      rintro e w1 ⟨rfl, hb1, hg1⟩
      have H3 := Lib.hid (H2.out.trans hg1)
      have H4 := Lib.hid hb1
      clear hb1 hg1
      go_wp2
      go_ret
      exact ⟨rfl, H4.out, H3.out⟩

/-- Is there such a number? -/
def has (id : Int) : Bool := decide (0 ≤ id) && decide (id < 4)

set_option maxHeartbeats 400000 in
theorem heard_no (g : Nat) (id : Int) (s : St) (w : World) (hb : Blk w g 45 (wcs s)) (h : id < 0 ∨ 4 ≤ id) :
    Calls Try.prog 9 #[.pointer (some ⟨g, 0, none⟩), .int .i64 id] w fun e w' => e = .returned (.bool false) ∧ w = w' := by
  have hm : w.cell? ⟨g, 5, none⟩ = some (.bool true) := hb.cell 5
  clear hb
  rcases h with h | h
  · go_enter Try.func9, Try.ntmps9
    go_wp2
    go_ret
    exact ⟨rfl, rfl⟩
  · have h' : ¬ id < 0 := by omega
    have h4 : decide (id < 4) = false := by simp; omega
    go_enter Try.func9, Try.ntmps9
    go_wp2
    go_ret
    exact ⟨rfl, rfl⟩

set_option maxHeartbeats 400000 in
theorem heard_yes (g k : Nat) (s : St) (w : World) (hb : Blk w g 45 (wcs s)) (h : k < 4) :
    Calls Try.prog 9 #[.pointer (some ⟨g, 0, none⟩), .int .i64 k] w fun e w' => e = .returned (.bool true) ∧ Blk w' g 45 (wcs (s.zero k)) ∧ w.grownBy w' (some g) := by
  have hm : w.cell? ⟨g, 5, none⟩ = some (.bool true) := hb.cell 5
  have hc : w.cell? ⟨g, k, none⟩ = some (.int .i64 (s.n k)) := (hb.cell k).trans (wcs_get s k h)
  have hf : w.frozen? ⟨g, k, none⟩ = false := hb.frozen k
  have hst := run_call_store (P := Try.prog) Try.func24 (by kernel_rfl) (by kernel_rfl) (by kernel_rfl) (by kernel_rfl) (k := .i64) (y := 0) hc hf
  have hb1 := hb.set_ k (.int .i64 0)
  rw [wcs_set s k h] at hb1
  have H1 := Lib.hid hb1
  have hk : (0 : Int) ≤ (k : Int) := by omega
  have hk4 : decide ((k : Int) < 4) = true := by simp; omega
  clear hb hb1 hc hf
  go_enter Try.func9, Try.ntmps9
  go_wp2
  go_end0
  go_wp2
  go_ret
  exact ⟨rfl, H1.out, only_setCell (World.grownBy.refl _ _) _ _⟩

set_option maxHeartbeats 400000 in
theorem count_no (g : Nat) (id : Int) (s : St) (w : World) (hb : Blk w g 45 (wcs s)) (h : id < 0 ∨ 4 ≤ id) :
    Calls Try.prog 14 #[.pointer (some ⟨g, 0, none⟩), .int .i64 id] w fun e w' => e = .returned (.int .i64 (-1)) ∧ w = w' := by
  have hm : w.cell? ⟨g, 5, none⟩ = some (.bool true) := hb.cell 5
  clear hb
  rcases h with h | h
  · go_enter Try.func14, Try.ntmps14
    go_wp2
    go_ret
    exact ⟨rfl, rfl⟩
  · have h' : ¬ id < 0 := by omega
    have h4 : decide (id < 4) = false := by simp; omega
    go_enter Try.func14, Try.ntmps14
    go_wp2
    go_ret
    exact ⟨rfl, rfl⟩

set_option maxHeartbeats 400000 in
theorem count_yes (g k : Nat) (s : St) (w : World) (hb : Blk w g 45 (wcs s)) (h : k < 4) :
    Calls Try.prog 14 #[.pointer (some ⟨g, 0, none⟩), .int .i64 k] w fun e w' => e = .returned (.int .i64 (s.n k)) ∧ w = w' := by
  have hm : w.cell? ⟨g, 5, none⟩ = some (.bool true) := hb.cell 5
  have hc : w.cell? ⟨g, k, none⟩ = some (.int .i64 (s.n k)) := (hb.cell k).trans (wcs_get s k h)
  have hst := run_call_load (P := Try.prog) Try.func25 (by kernel_rfl) (by kernel_rfl) (by kernel_rfl) .i64 (by kernel_rfl) hc
  have hk : (0 : Int) ≤ (k : Int) := by omega
  have hk4 : decide ((k : Int) < 4) = true := by simp; omega
  clear hb hc
  go_enter Try.func14, Try.ntmps14
  go_wp2
  go_ret
  exact ⟨rfl, rfl⟩

theorem Try.info3 : (Try.prog.info? 3).map (fun i => (i.zero, i.size, i.bytes)) = some (some (.int .i64 0), 1, 8) := by kernel_rfl

/-- Who is late, of the first k. -/
def lateL (s : St) (k : Nat) : List Nat := (List.range k).filter fun i => decide (6 ≤ s.n i)
def lateV (s : St) (k : Nat) : List Value := (lateL s k).map fun i : Nat => .int .i64 (i : Int)
theorem lateL_yes (s : St) (k : Nat) (h : 6 ≤ s.n k) : lateL s (k + 1) = lateL s k ++ [k] := by
  unfold lateL
  rw [List.range_succ, List.filter_append]
  simp [h]
theorem lateL_no (s : St) (k : Nat) (h : ¬ 6 ≤ s.n k) : lateL s (k + 1) = lateL s k := by
  unfold lateL
  rw [List.range_succ, List.filter_append]
  simp [h]
theorem lateL_le (s : St) (k : Nat) : (lateL s k).length ≤ k := by
  unfold lateL
  have := List.length_filter_le (fun i => decide (6 ≤ s.n i)) (List.range k)
  simpa using this

set_option maxHeartbeats 1000000 in
theorem late_any (g : Nat) (s : St) (w : World) (hb : Blk w g 45 (wcs s)) :
    Calls Try.prog 12 #[.pointer (some ⟨g, 0, none⟩)] w fun e w' => ∃ v, e = .returned v ∧ w'.ownsRow w.heap.size 3 1 v (lateL s 4).length (lateV s 4) ∧ Below w.heap.size w w' := by
  obtain ⟨i0, hi, hz0, hz1, hz2⟩ := info_parts Try.info3
  have hm : w.cell? ⟨g, 5, none⟩ = some (.bool true) := hb.cell 5
  have HB := Lib.hid hb
  clear hb
  go_enter Try.func12, Try.ntmps12
  go_wp2
  go_loopw [3, 7] (fun v i wr => ∃ k : Nat, k ≤ 4 ∧ i = .int .i64 (k : Int) ∧ wr.ownsRow w.heap.size 3 1 v (lateL s k).length (lateV s k) ∧ Below w.heap.size w wr) (fun _ i _ => 4 - (intOf i).toNat)
  case atStart => exact ⟨0, by omega, rfl, World.ownsRow_nil _ _ _ _, Below.refl _ _⟩
  case round =>
    obtain ⟨k, hk, rfl, hown, hB⟩ := hrel
    clear hm
    have hBs := hB.size
    by_cases hlt : k < 4
    · have hc : wr.cell? ⟨g, k, none⟩ = some (.int .i64 (s.n k)) := ((HB.out.below hB HB.out.lt).cell k).trans (wcs_get s k hlt)
      have hst := run_call_load (P := Try.prog) Try.func25 (by kernel_rfl) (by kernel_rfl) (by kernel_rfl) .i64 (by kernel_rfl) hc
      have hk0 : (0 : Int) ≤ (k : Int) := by omega
      have hle := lateL_le s k
      clear hc
      by_cases h6 : 6 ≤ s.n k
      · have HL := Lib.hid (lateL_yes s k h6)
        go_wp2_with (first | go_in | (at_builtin; go_must (refine wpList_append_own_at _ rfl _ _ 22 rfl w.heap.size 3 i0 (.int .i64 0) 1 8 Try.underlying22 hi hz0 hz1 hz2 rfl (by decide) _ _ _ rfl (hown.alloc _) ⟨wr.heap.size, 0, none⟩ 1 1 [.int .i64 (k : Int)] rfl rfl ?c1 ?c2 ?c3 ?c4 ?c5 ?_)))
        case c1 => exact cell_one_new _ _ _
        case c2 => simp [Value.oneCell']
        case c3 => simp [maxLen]; omega
        case c4 => omega
        case c5 => simp; omega
        intro v1 w1 hv1 hg1 _ _
        have hv2 : w1.ownsRow w.heap.size 3 1 v1 (lateL s (k + 1)).length (lateV s (k + 1)) := by
          unfold lateV
          rw [HL.out, List.length_append, List.map_append]
          exact hv1
        have hB1 : Below w.heap.size w w1 := (hB.alloc hBs _).grown hg1 (by simp; omega) (fun j hj => (hown.lt j hj).1)
        clear hv1 hg1 hown hB
        go_wp2
        go_roundw
        case rel => first | exact ⟨k + 1, by omega, by go_num, hv2, hB1⟩ | ((repeat apply Exists.intro); exact ⟨⟨k + 1, by omega, by go_num, hv2, hB1⟩, rfl⟩)
        case measure => simp [intOf]; omega
      · have HL := Lib.hid (lateL_no s k h6)
        have hv2 : wr.ownsRow w.heap.size 3 1 u3 (lateL s (k + 1)).length (lateV s (k + 1)) := by
          unfold lateV
          rw [HL.out]
          exact hown
        clear hown
        go_wp2
        go_roundw
        case rel => first | exact ⟨k + 1, by omega, by go_num, hv2, hB⟩ | ((repeat apply Exists.intro); exact ⟨⟨k + 1, by omega, by go_num, hv2, hB⟩, rfl⟩)
        case measure => simp [intOf]; omega
    · obtain rfl : k = 4 := by omega
      go_wp2
      go_ret
      exact ⟨_, rfl, hown, hB⟩
end Go.Proofs.Ytcedjiebnfbabaa
