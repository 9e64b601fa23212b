/- The arguments of this seat's laws, opened: a slice of numbers, a slice of pins. -/
import Derived.Test.YtmedkmlokkiefaaWords
import Derived.ProofKit
import Derived.OpenShut
import Derived.Deep.Slices
import Derived.Deep.Fields
import Derived.ChangeSame
namespace Go.Proofs.Ytmedkmlokkiefaa
open Go.ChangeShapes Go.WideShapes Go.ChangeAt Go.RowKit Go.Deep

/-- A list out of its places. -/
theorem list_of {α : Type} (z : α) (R : Nat → α → Prop) : ∀ n : Nat, (∀ i, i < n → ∃ q, R i q) → ∃ l : List α, l.length = n ∧ ∀ i, i < n → R i (l[i]?.getD z)
  | 0, _ => ⟨[], rfl, fun i hi => absurd hi (by omega)⟩
  | n + 1, h => by
    obtain ⟨l, hl, hR⟩ := list_of z R n (fun i hi => h i (by omega))
    obtain ⟨q, hq⟩ := h n (by omega)
    refine ⟨l ++ [q], by simp [hl], fun i hi => ?_⟩
    by_cases hin : i < n
    · rw [List.getElem?_append_left (by omega)]; exact hR i hin
    · obtain rfl : i = n := by omega
      rw [List.getElem?_append_right (by omega), hl]
      simpa using hq

section
variable {H : Type} {enc : TypeId × Value → H} {W : World}

theorem open_nums {a : Option Addr} {len cap : Nat} {d : DataW H} {p : List MemPlace} (h : DataW.Trod enc Try.prog W 0 (fun _ => true) true 23 (.slice a len cap) d p) :
    ∃ zs : List Int, Nums W a zs ∧ zs.length = len ∧ len ≤ cap ∧ cap ≤ 9223372036854775807 ∧ ∀ x ∈ zs, 0 ≤ x ∧ x < 18446744073709551616 := by
  obtain ⟨fuel, hf⟩ := h
  rcases open_ints Try.underlying23 Try.underlying22 (by kernel_rfl) hf with ⟨hcs, _⟩ | ⟨x, l, c, zs, hcs, _, hl, hm, hz, _, hcell, hwz⟩
  · simp [Value.cells] at hcs
    obtain ⟨rfl, rfl, rfl⟩ := hcs
    exact ⟨[], fun h => absurd rfl h, rfl, by omega, by omega, by simp⟩
  · simp [Value.cells] at hcs
    obtain ⟨rfl, rfl, rfl⟩ := hcs
    simp only [if_true] at hz
    refine ⟨zs.take len, fun hne => ?_, by simp; omega, hl, hm, fun x hx => by have := bounds_u64 (hwz x (List.mem_of_mem_take hx)); omega⟩
    have hpos : 0 < len := by
      rcases Nat.eq_zero_or_pos len with h0 | h0
      · subst h0; exact absurd rfl hne
      · exact h0
    obtain ⟨b, off, spot⟩ := x
    have hc := hcell 0 (by omega)
    have hspot : spot = none := by simpa [Addr.add] using World.cell?_spot hc
    subst hspot
    refine ⟨b, off, rfl, World.block_lt_of_cell? W _ hc, fun i hi => ?_⟩
    have hi' : i < len ∧ i < zs.length := by simp at hi; omega
    have hci := hcell i hi'.2
    rw [Addr.add_lit] at hci
    rw [hci, List.getElem?_take_of_lt hi'.1]
    rfl

theorem open_pins {a : Option Addr} {len cap : Nat} {d : DataW H} {p : List MemPlace} (h : DataW.Trod enc Try.prog W 0 (fun _ => true) true 24 (.slice a len cap) d p) :
    ∃ ps : List (Int × Int × Int), Pins W a ps ∧ ps.length = len ∧ len ≤ cap ∧ cap ≤ 9223372036854775807 ∧ ∀ x ∈ ps, 0 ≤ x.2.1 ∧ x.2.1 < 18446744073709551616 := by
  obtain ⟨fuel, hf⟩ := h
  rcases open_slice Try.underlying24 hf with ⟨hcs, _⟩ | ⟨x, l, c, m, n, D, Pl, hcs, hb, hl, hm, hmm, hx, hi⟩
  · simp [Value.cells] at hcs
    obtain ⟨rfl, rfl, rfl⟩ := hcs
    exact ⟨[], fun h => absurd rfl h, rfl, by omega, by omega, by simp⟩
  · simp [Value.cells] at hcs
    obtain ⟨rfl, rfl, rfl⟩ := hcs
    simp only [if_true] at hmm
    subst hmm
    have each : ∀ i, i < len → ∃ q : Int × Int × Int, W.cell? (x.add (i * 3)) = some (.int .i64 q.1) ∧ W.cell? (x.add (i * 3 + 1)) = some (.int .u64 q.2.1) ∧ W.cell? (x.add (i * 3 + 2)) = some (.int .i64 q.2.2) ∧ 0 ≤ q.2.1 ∧ q.2.1 < 18446744073709551616 := by
      intro i hil
      obtain ⟨cs', hc, ht'⟩ := hi i (by omega)
      have hC : Try.prog.cellsOf 31 = 3 := by kernel_rfl
      rw [hC] at hc
      obtain ⟨ys, n', hn', hy, hlen, hyl, hfl⟩ := DataW.trod_struct Try.underlying31 ht'
      obtain ⟨_, hcl, hat⟩ := World.cells?_some hc
      have k3 : Try.prog.cellsOf 3 = 1 := by kernel_rfl
      have k22 : Try.prog.cellsOf 22 = 1 := by kernel_rfl
      match cs', hcl, ys, hyl with
      | [v0, v1, v2], _, [y0, y1, y2], _ =>
        have e0 := hat 0 (by omega)
        have e1 := hat 1 (by omega)
        have e2 := hat 2 (by omega)
        have g0 : DataW.trod enc Try.prog W 0 (fun _ => true) true n' 3 (List.take (Try.prog.cellsOf 3) (List.drop 0 [v0, v1, v2])) = some y0 := hfl 0 _ rfl
        have g1 : DataW.trod enc Try.prog W 0 (fun _ => true) true n' 22 (List.take (Try.prog.cellsOf 22) (List.drop 1 [v0, v1, v2])) = some y1 := hfl 1 _ rfl
        have g2 : DataW.trod enc Try.prog W 0 (fun _ => true) true n' 3 (List.take (Try.prog.cellsOf 3) (List.drop 2 [v0, v1, v2])) = some y2 := hfl 2 _ rfl
        rw [k3] at g0 g2
        rw [k22] at g1
        obtain ⟨z0, h0, _, _⟩ := DataW.trod_int Try.underlying3 g0
        obtain ⟨z1, h1, _, hw⟩ := DataW.trod_int Try.underlying22 g1
        obtain ⟨z2, h2, _, _⟩ := DataW.trod_int Try.underlying3 g2
        simp at h0 h1 h2
        subst h0 h1 h2
        have hb1 := bounds_u64 hw
        refine ⟨(z0, z1, z2), ?_, ?_, ?_, hb1.1, by show z1 < _; omega⟩
        · simpa [Addr.add] using e0
        · rw [← Go.Deep.add_add]; simpa using e1
        · rw [← Go.Deep.add_add]; simpa using e2
    obtain ⟨ps, hpl, hps⟩ := list_of (0, 0, 0) _ len each
    refine ⟨ps, fun hne => ?_, hpl, hl, hm, fun q hq => ?_⟩
    · have hpos : 0 < len := by rw [← hpl]; exact List.length_pos_iff.2 hne
      obtain ⟨b, off, spot⟩ := x
      obtain ⟨hc, _⟩ := hps 0 hpos
      have hspot : spot = none := by simpa [Addr.add] using World.cell?_spot hc
      subst hspot
      refine ⟨b, off, rfl, by simpa [Addr.add] using World.block_lt_of_cell? W _ hc, fun i hil => ?_⟩
      obtain ⟨h1, h2, h3, _⟩ := hps i (by omega)
      rw [Addr.add_lit] at h1 h2 h3
      exact ⟨h1, h2, h3⟩
    · obtain ⟨i, hil, rfl⟩ := List.getElem_of_mem hq
      have := hps i (by omega)
      rw [List.getElem?_eq_getElem hil] at this
      exact this.2.2.2
end
end Go.Proofs.Ytmedkmlokkiefaa
