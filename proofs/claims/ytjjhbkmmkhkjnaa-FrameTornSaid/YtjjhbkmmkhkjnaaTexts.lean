/- The walk of the law's texts: two lists that are one. -/
import Derived.Test.YtjjhbkmmkhkjnaaRefAll
namespace Go.Proofs.Ytjjhbkmmkhkjnaa
open Go.RowKit Crc Law

/-- The strings of a slice. -/
def Strs (w : World) (a : Option Addr) (ss : List ByteArray) : Prop :=
  ss ≠ [] → ∃ b off, a = some ⟨b, off, none⟩ ∧ b < w.heap.size ∧ ∀ i (h : i < ss.length), w.cell? ⟨b, off + i, none⟩ = some (.string ss[i])
theorem Strs.below {w w' : World} {a : Option Addr} {ss : List ByteArray} (h : Strs w a ss) (hb : Below w.heap.size w w') : Strs w' a ss := fun hne => by
  obtain ⟨b, off, rfl, hlt, hc⟩ := h hne
  exact ⟨b, off, rfl, Nat.lt_of_lt_of_le hlt hb.size, fun i hi => (hb.cell (p := ⟨b, off + i, none⟩) hlt).trans (hc i hi)⟩
theorem own_strs {w : World} {base n : Nat} {v : Value} {l : List ByteArray} (h : w.ownsRow base 9 1 v n (l.map .string)) : ∃ A cap, v = .slice A n cap ∧ l.length = n ∧ Strs w A l := by
  have hb := h.lt
  have hc := fun g => h.cells (g := g)
  have hl : l.length = n := by simpa using h.1
  rcases h.2 with ⟨rfl, h0⟩ | ⟨g, cap, cur, rfl, h1, _, h3, h4, _⟩
  · refine ⟨none, 0, by rw [h0], hl, fun hne => absurd ?_ hne⟩
    exact List.eq_nil_of_length_eq_zero (by omega)
  · refine ⟨some ⟨g, 0, none⟩, cap, rfl, hl, fun _ => ⟨g, 0, rfl, (hb g rfl).2, fun i hi => ?_⟩⟩
    have := hc g rfl i (.string l[i]) (by simp [hi])
    simpa [Addr.add_lit, hi] using this

set_option maxHeartbeats 1000000 in
theorem texts_any (A A' : Option Addr) (n cap cap' : Nat) (l : List ByteArray) (w : World) (h : Strs w A l) (h' : Strs w A' l) (hn : l.length = n) (hm : n ≤ 9223372036854775807) :
    Calls Try.prog 14 #[.slice A n cap, .slice A' n cap'] w fun e w' => e = .returned (.bool true) ∧ ∃ m, w' = w.drewN m := by
  subst hn
  go_enter Try.func14, Try.ntmps14
  go_wp2
  go_loopw [5] (fun i wr => ∃ (k m : Nat), k ≤ l.length ∧ i = .int .i64 (k : Int) ∧ wr = w.drewN m) (fun i _ => l.length - (intOf i).toNat)
  case atStart => exact ⟨0, 0, Nat.zero_le _, rfl, rfl⟩
  case round =>
    obtain ⟨k, m, hk, rfl, rfl⟩ := hrel
    by_cases hlt : k < l.length
    · obtain ⟨b, off, rfl, hb, hc⟩ := h (by rintro rfl; simp at hlt)
      obtain ⟨b', off', rfl, hb', hc'⟩ := h' (by rintro rfl; simp at hlt)
      have c1 : w.cell? ⟨b, off + k, none⟩ = some (.string l[k]) := hc k hlt
      have c2 : w.cell? ⟨b', off' + k, none⟩ = some (.string l[k]) := hc' k hlt
      have k0 : (0 : Int) ≤ (k : Int) := by omega
      have k1 : (k : Int) < (l.length : Int) := by omega
      have heq : (l[k].toList == l[k].toList) = true := by simp
      clear hc hc' h h'
      go_wp2
      go_quiet (fail)
      go_wp2
      go_roundw
      case rel => exact ⟨k + 1, _, by omega, by go_num, rfl⟩
      case measure => simp [intOf]; omega
    · go_wp2
      go_ret
      exact ⟨rfl, _, rfl⟩
end Go.Proofs.Ytjjhbkmmkhkjnaa
