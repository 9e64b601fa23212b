/- The arguments of FrameTorn, opened. -/
import Derived.Test.YtjjhbkmmkhkjnaaTorn
import Derived.SliceStrings
import Derived.ProofKit
import Derived.OpenShut
namespace Go.Proofs.Ytjjhbkmmkhkjnaa
open Go.ChangeShapes Go.WideShapes Go.ChangeAt Go.RowKit

section
variable {H : Type} {enc : TypeId × Value → H} {W : World}
theorem open_strs {a : Option Addr} {len cap : Nat} {d : DataW H} {p : List MemPlace} (h : DataW.Trod enc Try.prog W 0 (fun _ => true) true 38 (.slice a len cap) d p) :
    ∃ ss : List ByteArray, Strs W a ss ∧ ss.length = len ∧ len ≤ 9223372036854775807 ∧ len ≤ cap ∧ cap ≤ 9223372036854775807 ∧ (a = none → cap = 0) ∧ ∀ s ∈ ss, s.size ≤ 9223372036854775807 := by
  obtain ⟨fuel, hf⟩ := h
  have hmax : maxLen = 9223372036854775807 := rfl
  rcases open_strings Try.underlying38 Try.underlying9 (by kernel_rfl) hf with ⟨hcs, _⟩ | ⟨x, l, c, zs, hcs, _, hl, hm, hz, hx, hcell, hwz⟩
  · simp [Value.cells] at hcs
    obtain ⟨rfl, rfl, rfl⟩ := hcs
    exact ⟨[], fun h => absurd rfl h, rfl, by omega, by omega, by omega, fun _ => rfl, by simp⟩
  · simp [Value.cells] at hcs
    obtain ⟨rfl, rfl, rfl⟩ := hcs
    simp only [if_true] at hz
    refine ⟨zs.take len, fun hne => ?_, by simp; omega, by omega, hl, by omega, (fun h => by cases h), fun s hs => hwz s (List.mem_of_mem_take hs)⟩
    have hpos : 0 < len := by
      rcases Nat.eq_zero_or_pos len with h0 | h0
      · subst h0; exact absurd rfl hne
      · exact h0
    obtain ⟨b, off, spot⟩ := x
    have hc := hcell 0 (by omega)
    have hspot : spot = none := by simpa [Addr.add] using World.cell?_spot hc
    subst hspot
    refine ⟨b, off, rfl, World.block_lt_of_cell? W _ hc, fun i hi => ?_⟩
    have hi' : i < len ∧ i < zs.length := by simp at hi; omega
    have hci := hcell i hi'.2
    rw [Addr.add_lit] at hci
    rw [hci, List.getElem_take, List.getD_eq_getElem?_getD, List.getElem?_eq_getElem hi'.2]
    rfl
end
theorem torn_law (A : Option Addr) (len cap : Nat) (ss : List ByteArray) (a : Int) (w : World) (hS : Strs w A ss) (hn : ss.length = len) (hm : len ≤ 9223372036854775807) (hcap : len ≤ cap) (hcap2 : cap ≤ 9223372036854775807) (hA : A = none → cap = 0) (hz : ∀ s ∈ ss, s.size ≤ 9223372036854775807) (ha : 0 ≤ a ∧ a < 65536) :
    Calls Try.prog 6 #[.slice A len cap, .int .u16 a] w fun e w' => e = .returned (.bool true) ∧ Below w.heap.size w w' := by
  obtain ⟨k, rfl⟩ := Int.eq_ofNat_of_zero_le ha.1
  exact torn_any A len cap ss k w hS hn hm hcap hcap2 hA hz (by omega)
end Go.Proofs.Ytjjhbkmmkhkjnaa
