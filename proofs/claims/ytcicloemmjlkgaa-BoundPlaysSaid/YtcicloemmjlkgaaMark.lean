/- The walks of layer 20: the mark. -/
import Derived.Test.YtcicloemmjlkgaaBound
namespace Go.Proofs.Ytcicloemmjlkgaa
open Go.RowKit Law

set_option maxHeartbeats 400000 in
theorem mark_core (s : Int) (A : Option Addr) (n cap : Nat) (es : List Ent) (w : World) (h : Ents w A es) (hn : es.length = n) (hm : n ≤ 9223372036854775807)
    (C : ∀ W, Below w.heap.size w W → Calls Try.prog 18 #[.slice A n cap] W fun e w' => e = .returned (.int .i64 (stp (tss es))) ∧ Below W.heap.size W w') :
    Calls Try.prog 9 #[.slice A n cap, .int .i64 s] w fun e w' => e = .returned (.int .u64 (markT (tss es) s)) ∧ Below w.heap.size w w' := by
  have hle := stp_le (tss es)
  rw [tss_length] at hle
  have C0 := C w (Below.refl _ _)
  have hmk : markT (tss es) s = if min s (stp (tss es) : Int) < 1 then 0 else (tss es)[(min s (stp (tss es) : Int)).toNat - 1]?.getD 0 := rfl
  generalize stp (tss es) = st at *
  have HC := Lib.hid C0
  have HN := Lib.hid hn
  clear C C0
  by_cases h1 : s < 1
  · rw [show markT (tss es) s = 0 by rw [hmk, if_pos (by omega)]]
    clear hmk hn
    go_enter Try.func9, Try.ntmps9
    go_wp2_with fail
    refine HC.out.mono ?_
    rintro e w1 ⟨rfl, hB⟩
    go_wp2
    go_ret
    exact ⟨rfl, hB⟩
  · cases st with
    | zero =>
      rw [show markT (tss es) s = 0 by rw [hmk, if_pos (by omega)]]
      clear hmk hn
      go_enter Try.func9, Try.ntmps9
      go_wp2_with fail
      refine HC.out.mono ?_
      rintro e w1 ⟨rfl, hB⟩
      go_wp2
      go_ret
      exact ⟨rfl, hB⟩
    | succ t =>
      by_cases h2 : (t : Int) + 1 < s
      · have hq : t < es.length := by omega
        rw [show markT (tss es) s = es[t].ts by
          rw [hmk, if_neg (by omega), show (min s ((t + 1 : Nat) : Int)).toNat - 1 = t by omega, List.getElem?_eq_getElem (by rw [tss_length]; exact hq)]
          exact tss_get es t hq]
        clear hmk hn
        go_enter Try.func9, Try.ntmps9
        go_wp2_with fail
        refine HC.out.mono ?_
        rintro e w1 ⟨rfl, hB⟩
        obtain ⟨b, off, rfl, hb, hc⟩ := (h.below hB) (by rintro rfl; simp at hq)
        obtain ⟨⟨c0, c1, c2, c3⟩, _⟩ := hc t hq
        rw [List.getElem?_eq_getElem hq] at c3
        have hqn : t < n := by have := HN.out; omega
        clear hc h c0 c1 c2
        go_wp2
        go_ret
        exact ⟨rfl, hB⟩
      · obtain ⟨q, rfl⟩ : ∃ q : Nat, s = (q : Int) + 1 := ⟨(s - 1).toNat, by omega⟩
        have hq : q < es.length := by omega
        rw [show markT (tss es) ((q : Int) + 1) = es[q].ts by
          rw [hmk, if_neg (by omega), show (min ((q : Int) + 1) ((t + 1 : Nat) : Int)).toNat - 1 = q by omega, List.getElem?_eq_getElem (by rw [tss_length]; exact hq)]
          exact tss_get es q hq]
        clear hmk hn
        go_enter Try.func9, Try.ntmps9
        go_wp2_with fail
        refine HC.out.mono ?_
        rintro e w1 ⟨rfl, hB⟩
        obtain ⟨b, off, rfl, hb, hc⟩ := (h.below hB) (by rintro rfl; simp at hq)
        obtain ⟨⟨c0, c1, c2, c3⟩, _⟩ := hc q hq
        rw [List.getElem?_eq_getElem hq] at c3
        have hqn : q < n := by have := HN.out; omega
        clear hc h c0 c1 c2
        go_wp2
        go_ret
        exact ⟨rfl, hB⟩
set_option maxHeartbeats 400000 in
theorem refMark_core (s : Int) (A : Option Addr) (n cap : Nat) (es : List Ent) (w : World) (h : Ents w A es) (hn : es.length = n) (hm : n ≤ 9223372036854775807)
    (C : ∀ W, Below w.heap.size w W → Calls Try.prog 19 #[.slice A n cap] W fun e w' => e = .returned (.int .i64 (stp (tss es))) ∧ Below W.heap.size W w') :
    Calls Try.prog 13 #[.slice A n cap, .int .i64 s] w fun e w' => e = .returned (.int .u64 (markT (tss es) s)) ∧ Below w.heap.size w w' := by
  have hle := stp_le (tss es)
  rw [tss_length] at hle
  have C0 := C w (Below.refl _ _)
  have hmk : markT (tss es) s = if min s (stp (tss es) : Int) < 1 then 0 else (tss es)[(min s (stp (tss es) : Int)).toNat - 1]?.getD 0 := rfl
  generalize stp (tss es) = st at *
  have HC := Lib.hid C0
  have HN := Lib.hid hn
  clear C C0
  by_cases h1 : s < 1
  · rw [show markT (tss es) s = 0 by rw [hmk, if_pos (by omega)]]
    clear hmk hn
    go_enter Try.func13, Try.ntmps13
    go_wp2_with fail
    refine HC.out.mono ?_
    rintro e w1 ⟨rfl, hB⟩
    go_wp2
    go_ret
    exact ⟨rfl, hB⟩
  · cases st with
    | zero =>
      rw [show markT (tss es) s = 0 by rw [hmk, if_pos (by omega)]]
      clear hmk hn
      go_enter Try.func13, Try.ntmps13
      go_wp2_with fail
      refine HC.out.mono ?_
      rintro e w1 ⟨rfl, hB⟩
      go_wp2
      go_ret
      exact ⟨rfl, hB⟩
    | succ t =>
      by_cases h2 : (t : Int) + 1 < s
      · have hq : t < es.length := by omega
        rw [show markT (tss es) s = es[t].ts by
          rw [hmk, if_neg (by omega), show (min s ((t + 1 : Nat) : Int)).toNat - 1 = t by omega, List.getElem?_eq_getElem (by rw [tss_length]; exact hq)]
          exact tss_get es t hq]
        clear hmk hn
        go_enter Try.func13, Try.ntmps13
        go_wp2_with fail
        refine HC.out.mono ?_
        rintro e w1 ⟨rfl, hB⟩
        obtain ⟨b, off, rfl, hb, hc⟩ := (h.below hB) (by rintro rfl; simp at hq)
        obtain ⟨⟨c0, c1, c2, c3⟩, _⟩ := hc t hq
        rw [List.getElem?_eq_getElem hq] at c3
        have hqn : t < n := by have := HN.out; omega
        clear hc h c0 c1 c2
        go_wp2
        go_ret
        exact ⟨rfl, hB⟩
      · obtain ⟨q, rfl⟩ : ∃ q : Nat, s = (q : Int) + 1 := ⟨(s - 1).toNat, by omega⟩
        have hq : q < es.length := by omega
        rw [show markT (tss es) ((q : Int) + 1) = es[q].ts by
          rw [hmk, if_neg (by omega), show (min ((q : Int) + 1) ((t + 1 : Nat) : Int)).toNat - 1 = q by omega, List.getElem?_eq_getElem (by rw [tss_length]; exact hq)]
          exact tss_get es q hq]
        clear hmk hn
        go_enter Try.func13, Try.ntmps13
        go_wp2_with fail
        refine HC.out.mono ?_
        rintro e w1 ⟨rfl, hB⟩
        obtain ⟨b, off, rfl, hb, hc⟩ := (h.below hB) (by rintro rfl; simp at hq)
        obtain ⟨⟨c0, c1, c2, c3⟩, _⟩ := hc q hq
        rw [List.getElem?_eq_getElem hq] at c3
        have hqn : q < n := by have := HN.out; omega
        clear hc h c0 c1 c2
        go_wp2
        go_ret
        exact ⟨rfl, hB⟩

/-- THE PROGRAM's Mark. -/
theorem mark_any (s : Int) (A : Option Addr) (n cap : Nat) (es : List Ent) (w : World) (h : Ents w A es) (hn : es.length = n) (hm : n ≤ 9223372036854775807) :
    Calls Try.prog 9 #[.slice A n cap, .int .i64 s] w fun e w' => e = .returned (.int .u64 (markT (tss es) s)) ∧ Below w.heap.size w w' :=
  mark_core s A n cap es w h hn hm (fun W hW => itemStamped_any A n cap es W (h.below hW) hn hm)
/-- THE REFERENCE's Mark. -/
theorem refMark_any (s : Int) (A : Option Addr) (n cap : Nat) (es : List Ent) (w : World) (h : Ents w A es) (hn : es.length = n) (hm : n ≤ 9223372036854775807) :
    Calls Try.prog 13 #[.slice A n cap, .int .i64 s] w fun e w' => e = .returned (.int .u64 (markT (tss es) s)) ∧ Below w.heap.size w w' :=
  refMark_core s A n cap es w h hn hm (fun W hW => (refStamped_any A n cap es W (h.below hW) hn hm).mono fun _ _ ⟨he, hw⟩ => ⟨he, hw ▸ Below.refl _ _⟩)
end Go.Proofs.Ytcicloemmjlkgaa
