/- Is an entry's timestamp the last one: both walks. -/
import Derived.Test.YtboiilbeioaneaaLast
import Derived.IntWalk
namespace Go.Proofs.Ytboiilbeioaneaa
open Go.RowKit Law

/-- Is the n-th entry's timestamp the last one? -/
def endB (es : List Ent) (nn : Int) : Bool := decide (1 ≤ nn) && (decide (nn ≤ (es.length : Int)) && (es[nn.toNat - 1]?.getD ent0).ts == 18446744073709551615)

set_option maxHeartbeats 1000000 in
set_option maxRecDepth 100000 in
theorem ended_any (A : Option Addr) (len cap : Nat) (es : List Ent) (nn : Int) (w : World) (h : Ents w A es) (hl : es.length = len) (hm : len ≤ 9223372036854775807) (hnn : -9223372036854775808 ≤ nn ∧ nn ≤ 9223372036854775807) :
    Calls Try.prog 11 #[.slice A len cap, .int .i64 nn] w fun e w' => e = .returned (.bool (endB es nn)) ∧ w = w' := by
  subst hl
  by_cases h1 : 1 ≤ nn
  · by_cases h2 : nn ≤ (es.length : Int)
    · obtain ⟨k, rfl⟩ : ∃ k : Nat, nn = (k : Int) + 1 := ⟨(nn - 1).toNat, by omega⟩
      have hlt : k < es.length := by omega
      obtain ⟨b, off, rfl, hb, hc⟩ := h (by rintro rfl; simp at hlt)
      obtain ⟨⟨c0, c1, c2, c3⟩, _⟩ := hc k hlt
      have hE : endB es ((k : Int) + 1) = ((es[k]?.getD ent0).ts == 18446744073709551615) := by
        unfold endB
        rw [show decide (1 ≤ (k : Int) + 1) = true by simp; omega, show decide ((k : Int) + 1 ≤ (es.length : Int)) = true by simp; omega, Bool.true_and, Bool.true_and, show ((k : Int) + 1).toNat - 1 = k by omega]
      rw [hE]
      have q0 : decide (1 ≤ (k : Int) + 1) = true := by simp; omega
      have q0' : decide (0 ≤ k) = true := by simp
      have q1 : IntKind.i64.wrap ((k : Int) + 1 - 1) = (k : Int) := (IntWalk.i64_in _ (by omega)).trans (by omega)
      have q2 : decide ((k : Int) + 1 ≤ (es.length : Int)) = true := by simp; omega
      have q4 : (k : Int) < (es.length : Int) := by omega
      generalize es[k]?.getD ent0 = q at *
      obtain ⟨_, _, _, _, _, ts⟩ := q
      dsimp only at *
      clear hc h hE c0 c1 c2
      go_enter Try.func11, Try.ntmps11
      go_wp2
      go_ret
      exact ⟨rfl, rfl⟩
    · have hE : endB es nn = false := by unfold endB; simp; omega
      rw [hE]
      have q0 : decide (1 ≤ nn) = true := by simpa using h1
      have q2 : decide (nn ≤ (es.length : Int)) = false := by simpa using h2
      clear hE
      go_enter Try.func11, Try.ntmps11
      go_wp2
      go_ret
      exact ⟨rfl, rfl⟩
  · have hE : endB es nn = false := by unfold endB; simp; omega
    rw [hE]
    have q0 : decide (1 ≤ nn) = false := by simpa using h1
    clear hE
    go_enter Try.func11, Try.ntmps11
    go_wp2
    go_ret
    exact ⟨rfl, rfl⟩

set_option maxHeartbeats 1000000 in
set_option maxRecDepth 100000 in
theorem refEnded_any (A : Option Addr) (len cap : Nat) (es : List Ent) (nn : Int) (w : World) (h : Ents w A es) (hl : es.length = len) (hm : len ≤ 9223372036854775807) (hnn : -9223372036854775808 ≤ nn ∧ nn ≤ 9223372036854775807) :
    Calls Try.prog 12 #[.slice A len cap, .int .i64 nn] w fun e w' => e = .returned (.bool (endB es nn)) ∧ w = w' := by
  subst hl
  by_cases h1 : 1 ≤ nn
  · by_cases h2 : nn ≤ (es.length : Int)
    · obtain ⟨k, rfl⟩ : ∃ k : Nat, nn = (k : Int) + 1 := ⟨(nn - 1).toNat, by omega⟩
      have hlt : k < es.length := by omega
      obtain ⟨b, off, rfl, hb, hc⟩ := h (by rintro rfl; simp at hlt)
      obtain ⟨⟨c0, c1, c2, c3⟩, _⟩ := hc k hlt
      have hE : endB es ((k : Int) + 1) = ((es[k]?.getD ent0).ts == 18446744073709551615) := by
        unfold endB
        rw [show decide (1 ≤ (k : Int) + 1) = true by simp; omega, show decide ((k : Int) + 1 ≤ (es.length : Int)) = true by simp; omega, Bool.true_and, Bool.true_and, show ((k : Int) + 1).toNat - 1 = k by omega]
      rw [hE]
      have q0 : decide (1 ≤ (k : Int) + 1) = true := by simp; omega
      have q0' : decide (0 ≤ k) = true := by simp
      have q1 : IntKind.i64.wrap ((k : Int) + 1 - 1) = (k : Int) := (IntWalk.i64_in _ (by omega)).trans (by omega)
      have q2 : decide ((k : Int) + 1 ≤ (es.length : Int)) = true := by simp; omega
      have q4 : (k : Int) < (es.length : Int) := by omega
      generalize es[k]?.getD ent0 = q at *
      obtain ⟨_, _, _, _, _, ts⟩ := q
      dsimp only at *
      clear hc h hE c0 c1 c2
      go_enter Try.func12, Try.ntmps12
      go_wp2
      go_ret
      exact ⟨rfl, rfl⟩
    · have hE : endB es nn = false := by unfold endB; simp; omega
      rw [hE]
      have q0 : decide (1 ≤ nn) = true := by simpa using h1
      have q2 : decide (nn ≤ (es.length : Int)) = false := by simpa using h2
      clear hE
      go_enter Try.func12, Try.ntmps12
      go_wp2
      go_ret
      exact ⟨rfl, rfl⟩
  · have hE : endB es nn = false := by unfold endB; simp; omega
    rw [hE]
    have q0 : decide (1 ≤ nn) = false := by simpa using h1
    clear hE
    go_enter Try.func12, Try.ntmps12
    go_wp2
    go_ret
    exact ⟨rfl, rfl⟩
end Go.Proofs.Ytboiilbeioaneaa
