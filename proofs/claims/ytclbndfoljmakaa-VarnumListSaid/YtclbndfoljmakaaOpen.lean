/- The arguments of this seat's laws, opened. -/
import Derived.Test.YtclbndfoljmakaaList
import Derived.ProofKit
import Derived.OpenShut
namespace Go.Proofs.Ytclbndfoljmakaa
open Go.ChangeShapes Go.WideShapes Go.ChangeAt Go.RowKit

section
variable {H : Type} {enc : TypeId × Value → H} {W : World}
theorem open_kind (k : IntKind) (T E : TypeId) (ht : Try.prog.underlying T = some (.slice E)) (he : Try.prog.underlying E = some (.int k)) (hc : Try.prog.cellsOf E = 1)
    {a : Option Addr} {len cap : Nat} {d : DataW H} {p : List MemPlace} (h : DataW.Trod enc Try.prog W 0 (fun _ => true) true T (.slice a len cap) d p) :
    ∃ zs : List Int, (zs ≠ [] → ∃ b off, a = some ⟨b, off, none⟩ ∧ b < W.heap.size ∧ ∀ i, i < zs.length → W.cell? ⟨b, off + i, none⟩ = some (.int k (zs[i]?.getD 0))) ∧
      zs.length = len ∧ len ≤ cap ∧ cap ≤ 9223372036854775807 ∧ ∀ x ∈ zs, (Lit.int k x).wf = true := by
  obtain ⟨fuel, hf⟩ := h
  rcases open_ints ht he hc hf with ⟨hcs, _⟩ | ⟨x, l, c, zs, hcs, _, hl, hm, hz, _, hcell, hwz⟩
  · simp [Value.cells] at hcs
    obtain ⟨rfl, rfl, rfl⟩ := hcs
    exact ⟨[], fun h => absurd rfl h, rfl, by omega, by omega, by simp⟩
  · simp [Value.cells] at hcs
    obtain ⟨rfl, rfl, rfl⟩ := hcs
    simp only [if_true] at hz
    refine ⟨zs.take len, fun hne => ?_, by simp; omega, hl, hm, fun x hx => hwz x (List.mem_of_mem_take hx)⟩
    have hpos : 0 < len := by
      rcases Nat.eq_zero_or_pos len with h0 | h0
      · subst h0; exact absurd rfl hne
      · exact h0
    obtain ⟨b, off, spot⟩ := x
    have hc := hcell 0 (by omega)
    have hspot : spot = none := by simpa [Addr.add] using World.cell?_spot hc
    subst hspot
    refine ⟨b, off, rfl, World.block_lt_of_cell? W _ hc, fun i hi => ?_⟩
    have hi' : i < len ∧ i < zs.length := by simp at hi; omega
    have hci := hcell i hi'.2
    rw [Addr.add_lit] at hci
    rw [hci, List.getElem?_take_of_lt hi'.1]
    rfl
theorem open_nums64 {a : Option Addr} {len cap : Nat} {d : DataW H} {p : List MemPlace} (h : DataW.Trod enc Try.prog W 0 (fun _ => true) true 31 (.slice a len cap) d p) :
    ∃ zs : List Nat, Nums64 W a zs ∧ zs.length = len ∧ len ≤ 9223372036854775807 ∧ ∀ n ∈ zs, n < 18446744073709551616 := by
  obtain ⟨zs, h1, h2, h3, h4, h5⟩ := open_kind .u64 31 22 Try.underlying31 Try.underlying22 (by kernel_rfl) h
  have hb : ∀ x ∈ zs, 0 ≤ x ∧ x ≤ 18446744073709551615 := fun x hx => bounds_u64 (h5 x hx)
  refine ⟨zs.map Int.toNat, fun hne => ?_, by simpa using h2, by omega, fun n hn => ?_⟩
  · obtain ⟨b, off, rfl, hlt, hc⟩ := h1 (by rintro rfl; exact hne rfl)
    refine ⟨b, off, rfl, hlt, fun i hi => ?_⟩
    have hi2 : i < zs.length := by simpa using hi
    have := hc i hi2
    rw [List.getElem?_eq_getElem hi2, Option.getD_some] at this
    rw [this, List.getElem_map, Int.toNat_of_nonneg (hb _ (List.getElem_mem hi2)).1]
  · obtain ⟨x, hx, rfl⟩ := List.mem_map.1 hn
    have := hb x hx
    omega
end
end Go.Proofs.Ytclbndfoljmakaa
