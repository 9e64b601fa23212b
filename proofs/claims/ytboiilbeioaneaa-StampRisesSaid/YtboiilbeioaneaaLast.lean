/- The last timestamp of a log, by the reference; how many operations entries have together: some number. -/
import Derived.Test.YtboiilbeioaneaaEnts
namespace Go.Proofs.Ytboiilbeioaneaa
open Go.RowKit Law

set_option maxHeartbeats 400000 in
theorem refLast_any (A : Option Addr) (n cap : Nat) (es : List Ent) (w : World) (h : Ents w A es) (hn : es.length = n) (hm : n ≤ 9223372036854775807) :
    Calls Try.prog 17 #[.slice A n cap] w fun e w' => e = .returned (.int .u64 (lastT (tss es))) ∧ w = w' := by
  subst hn
  have hle := stp_le (tss es)
  rw [tss_length] at hle
  have C := refStamped_any A es.length cap es w h rfl hm
  rcases hs : stp (tss es) with _ | m
  · have hl : (0 : Int) = lastT (tss es) := by unfold lastT; rw [if_pos hs]
    rw [hs] at C
    have HC := Lib.hid C
    have HL := Lib.hid hl
    clear C hl hs hle
    go_enter Try.func17, Try.ntmps17
    go_wp2_with fail
    refine HC.out.mono ?_
    rintro e w1 ⟨rfl, rfl⟩
    go_wp2
    go_ret
    exact ⟨ret_u64 HL.out, rfl⟩
  · have hlt : m < es.length := by omega
    have hl : es[m].ts = lastT (tss es) := by
      unfold lastT
      rw [if_neg (by omega), hs, Nat.add_sub_cancel, List.getElem?_eq_getElem (by simpa [tss] using hlt)]
      exact (tss_get es m hlt).symm
    obtain ⟨b, off, rfl, hb, hc⟩ := h (by rintro rfl; simp at hlt)
    obtain ⟨⟨c0, c1, c2, c3⟩, _⟩ := hc m hlt
    rw [hs] at C
    have HC := Lib.hid C
    have HL := Lib.hid hl
    have hne : ((m : Int) + 1 == 0) = false := by simp; omega
    clear C hl hs hle hc h c0 c1 c2
    go_enter Try.func17, Try.ntmps17
    go_wp2_with fail
    refine HC.out.mono ?_
    rintro e w1 ⟨rfl, rfl⟩
    go_wp2
    go_ret
    exact ⟨ret_u64 HL.out, rfl⟩

/-- Some number, and the world as it was. -/
def AnInt (w : World) (e : Ending) (w' : World) : Prop := ∃ v : Int, e = .returned (.int .i64 v) ∧ w = w'
set_option maxHeartbeats 400000 in
set_option maxRecDepth 100000 in
theorem much_any (A : Option Addr) (n cap : Nat) (es : List Ent) (w : World) (h : Ents w A es) (hn : es.length = n) (hm : n ≤ 9223372036854775807) :
    Calls Try.prog 5 #[.slice A n cap] w (AnInt w) := by
  subst hn
  go_enter Try.func5, Try.ntmps5
  go_wp2
  go_loop [3, 4] (fun s i => ∃ (k : Nat) (v : Int), k ≤ es.length ∧ i = .int .i64 k ∧ s = .int .i64 v) (fun _ i => es.length - (intOf i).toNat)
  case atStart => exact ⟨0, _, Nat.zero_le _, rfl, rfl⟩
  case round =>
    obtain ⟨k, v, hk, rfl, rfl⟩ := hrel
    by_cases hlt : k < es.length
    · by_cases h2 : k < 200
      · obtain ⟨b, off, rfl, hb, hc⟩ := h (by rintro rfl; simp at hlt)
        obtain ⟨⟨c0, c1, c2, c3⟩, _⟩ := hc k hlt
        clear hc h
        go_wp2
        go_round
        case rel => exact ⟨k + 1, _, by omega, by go_num, rfl⟩
        case measure => simp [intOf]; omega
      · go_wp2
        go_ret
        exact ⟨v, rfl, rfl⟩
    · go_wp2
      go_ret
      exact ⟨v, rfl, rfl⟩
end Go.Proofs.Ytboiilbeioaneaa
