/- A slice of entries that came in, opened, with what the reach says of its parts. -/
import Derived.Test.YtboiilbeioaneaaOpenSized
import Derived.SizedLaws
import Derived.ProofKit
import Derived.OpenShut
import Derived.Deep.Slices
import Derived.Deep.Fields
import Derived.ChangeSame
namespace Go.Proofs.Ytboiilbeioaneaa
open Go.ChangeShapes Go.WideShapes Go.ChangeAt Go.RowKit Go.Deep

section
variable {H : Type} {enc : TypeId × Value → H} {W : World}

theorem open_opns3 {fuel : Nat} {v : Value} {x : DataW H × List MemPlace} (hf : DataW.trod enc Try.prog W 0 (fun _ => true) true fuel 38 [v] = some x) :
    ∃ (a : Option Addr) (cap : Nat) (ps : List Opn), v = .slice a ps.length cap ∧ Opns W a ps ∧ ps.length ≤ cap ∧ cap ≤ 9223372036854775807 ∧ ((∀ m ∈ x.1.weights Try.prog 38, m ≤ reachBytes) → ps.length ≤ 140737488351232) ∧ (a = none → cap = 0) := by
  rcases open_slice Try.underlying38 hf with ⟨hcs, _⟩ | ⟨a, len, cap, m, n, D, Pl, hcs, hb, hl, hm, hmm, hx, hi⟩
  · simp at hcs
    subst hcs
    exact ⟨none, 0, [], rfl, fun h => absurd rfl h, by simp, by omega, fun _ => by simp, fun _ => rfl⟩
  · simp at hcs
    subst hcs
    simp only [if_true] at hmm
    subst hmm
    have hC : Try.prog.cellsOf 65 = 3 := by kernel_rfl
    have kS : Try.prog.cellsOf 9 = 1 := by kernel_rfl
    have kB : Try.prog.cellsOf 4 = 1 := by kernel_rfl
    rw [hC] at hi
    have each : ∀ i, i < len → ∃ q : Opn, W.cell? (a.add (i * 3)) = some (.string q.key) ∧ W.cell? (a.add (i * 3 + 1)) = some (.string q.val) ∧ W.cell? (a.add (i * 3 + 2)) = some (.bool q.del) := by
      intro i hil
      obtain ⟨cs', hc, ht'⟩ := hi i (by omega)
      obtain ⟨ys, n', hn', hy, hlen, hyl, hfl⟩ := DataW.trod_struct Try.underlying65 ht'
      obtain ⟨_, hcl, hat⟩ := World.cells?_some hc
      match cs', hcl, ys, hyl with
      | [v0, v1, v2], _, [y0, y1, y2], _ =>
        have e0 := hat 0 (by omega)
        have e1 := hat 1 (by omega)
        have e2 := hat 2 (by omega)
        have g0 : DataW.trod enc Try.prog W 0 (fun _ => true) true n' 9 (List.take (Try.prog.cellsOf 9) (List.drop 0 [v0, v1, v2])) = some y0 := hfl 0 _ rfl
        have g1 : DataW.trod enc Try.prog W 0 (fun _ => true) true n' 9 (List.take (Try.prog.cellsOf 9) (List.drop 1 [v0, v1, v2])) = some y1 := hfl 1 _ rfl
        have g2 : DataW.trod enc Try.prog W 0 (fun _ => true) true n' 4 (List.take (Try.prog.cellsOf 4) (List.drop 2 [v0, v1, v2])) = some y2 := hfl 2 _ rfl
        rw [kS] at g0 g1
        rw [kB] at g2
        obtain ⟨s0, h0, _⟩ := DataW.trod_string Try.underlying9 g0
        obtain ⟨s1, h1, _⟩ := DataW.trod_string Try.underlying9 g1
        obtain ⟨b2, h2, _⟩ := DataW.trod_bool Try.underlying4 g2
        simp at h0 h1 h2
        subst h0 h1 h2
        refine ⟨⟨s0, s1, b2⟩, ?_, ?_, ?_⟩
        · simpa [Addr.add] using e0
        · rw [← Go.Deep.add_add]; simpa using e1
        · rw [← Go.Deep.add_add]; simpa using e2
    obtain ⟨ps, hpl, hps⟩ := list_of opn0 _ len each
    subst hpl
    have hwt : (∀ m' ∈ x.1.weights Try.prog 38, m' ≤ reachBytes) → ps.length ≤ 140737488351232 := fun hall => by
      rw [hx] at hall
      have h1 := hall ((ps.length + (m - ps.length)) * Try.prog.bytesOf 65) (by simp [DataW.weights, Try.underlying38])
      have h2 := bytes65
      have h3 : (ps.length + (m - ps.length)) * 1 ≤ (ps.length + (m - ps.length)) * Try.prog.bytesOf 65 := Nat.mul_le_mul_left _ h2
      have h4 : reachBytes = 140737488351232 := rfl
      omega
    refine ⟨some a, m, ps, rfl, fun hne => ?_, hl, hm, hwt, fun e => by cases e⟩
    have hpos : 0 < ps.length := List.length_pos_iff.2 hne
    obtain ⟨b, off, spot⟩ := a
    obtain ⟨hc, _⟩ := hps 0 hpos
    have hspot : spot = none := by simpa [Addr.add] using World.cell?_spot hc
    subst hspot
    refine ⟨b, off, rfl, by simpa [Addr.add] using World.block_lt_of_cell? W _ hc, fun i hil => ?_⟩
    obtain ⟨h1, h2, h3⟩ := hps i (by omega)
    rw [Addr.add_lit] at h1 h2 h3
    exact ⟨h1, h2, h3⟩

theorem open_ents3 {ts : List TypeId} {d : DataW H} {ds : List (DataW H)} (hsz : (DataW.weightsEach Try.prog (22 :: ts) (d :: ds)).all (· ≤ reachBytes) = true)
    {a : Option Addr} {len cap : Nat} {p : List MemPlace} (h : DataW.Trod enc Try.prog W 0 (fun _ => true) true 22 (.slice a len cap) d p) :
    ∃ es : List Ent, Ents W a es ∧ es.length = len ∧ len ≤ cap ∧ cap ≤ 9223372036854775807 ∧ (∀ e ∈ es, 0 ≤ e.ts ∧ e.ts < 18446744073709551616) ∧ (∀ e ∈ es, e.ops.length ≤ 140737488351232) ∧ (∀ e ∈ es, e.oa = none → e.oc = 0) ∧ len ≤ 140737488351232 := by
  obtain ⟨fuel, hf⟩ := h
  rcases open_slice Try.underlying22 hf with ⟨hcs, _⟩ | ⟨x, l, c, m, n, D, Pl, hcs, hb, hl, hm, hmm, hx, hi⟩
  · simp [Value.cells] at hcs
    obtain ⟨rfl, rfl, rfl⟩ := hcs
    exact ⟨[], fun h => absurd rfl h, rfl, by omega, by omega, by simp, by simp, by simp, by omega⟩
  · simp [Value.cells] at hcs
    obtain ⟨rfl, rfl, rfl⟩ := hcs
    simp only [if_true] at hmm
    subst hmm
    have hw0 : ∀ m' ∈ d.weights Try.prog 22, m' ≤ reachBytes := fun m' hm' => by
      have := List.all_eq_true.1 hsz m' (DataW.weights_mem_each (j := 0) rfl rfl m' hm')
      simpa using this
    have hx1 : d = .slice ((List.range len).map D) ((List.range (m - len)).map fun j => D (len + j)) := congrArg Prod.fst hx
    have hlen2 : len ≤ 140737488351232 := by
      rw [hx1] at hw0
      have h1 := hw0 ((len + (m - len)) * Try.prog.bytesOf 42) (by simp [DataW.weights, Try.underlying22])
      have h3 : (len + (m - len)) * 1 ≤ (len + (m - len)) * Try.prog.bytesOf 42 := Nat.mul_le_mul_left _ bytes42
      have h4 : reachBytes = 140737488351232 := rfl
      omega
    have hwD : ∀ i, i < len → ∀ m' ∈ (D i).weights Try.prog 42, m' ≤ reachBytes := fun i hi m' hm' => hw0 m' (by
      rw [hx1]
      simp only [DataW.weights, Try.underlying22, List.mem_cons, List.mem_append]
      exact .inr (.inl (w_all (List.mem_map.2 ⟨i, List.mem_range.2 hi, rfl⟩) hm')))
    have hC : Try.prog.cellsOf 42 = 4 := by kernel_rfl
    have kI : Try.prog.cellsOf 3 = 1 := by kernel_rfl
    have kU : Try.prog.cellsOf 23 = 1 := by kernel_rfl
    have kO : Try.prog.cellsOf 38 = 1 := by kernel_rfl
    have kB : Try.prog.cellsOf 40 = 3 := by kernel_rfl
    rw [hC] at hi
    have each : ∀ i, i < len → ∃ q : Ent, ((W.cell? (x.add (i * 4)) = some (.int .i64 q.client) ∧ W.cell? (x.add (i * 4 + 1)) = some (.int .i64 q.req) ∧ W.cell? (x.add (i * 4 + 2)) = some (.slice q.oa q.ops.length q.oc) ∧ W.cell? (x.add (i * 4 + 3)) = some (.int .u64 q.ts)) ∧ Opns W q.oa q.ops) ∧
        (0 ≤ q.ts ∧ q.ts < 18446744073709551616) ∧ q.ops.length ≤ 140737488351232 ∧ (q.oa = none → q.oc = 0) := by
      intro i hil
      obtain ⟨cs', hc, ht'⟩ := hi i (by omega)
      obtain ⟨ys, n', hn', hy, hlen, hyl, hfl⟩ := DataW.trod_struct Try.underlying42 ht'
      obtain ⟨_, hcl, hat⟩ := World.cells?_some hc
      match cs', hcl, ys, hyl with
      | [v0, v1, v2, v3], _, [y0, y1], _ =>
        have e0 := hat 0 (by omega)
        have e1 := hat 1 (by omega)
        have e2 := hat 2 (by omega)
        have e3 := hat 3 (by omega)
        have g0 : DataW.trod enc Try.prog W 0 (fun _ => true) true n' 40 (List.take (Try.prog.cellsOf 40) (List.drop 0 [v0, v1, v2, v3])) = some y0 := hfl 0 _ rfl
        have g1 : DataW.trod enc Try.prog W 0 (fun _ => true) true n' 23 (List.take (Try.prog.cellsOf 23) (List.drop 3 [v0, v1, v2, v3])) = some y1 := hfl 1 _ rfl
        rw [kB] at g0
        rw [kU] at g1
        have g0' : DataW.trod enc Try.prog W 0 (fun _ => true) true n' 40 [v0, v1, v2] = some y0 := g0
        obtain ⟨zs, n2, _, hzy, _, hzl, hfz⟩ := DataW.trod_struct Try.underlying40 g0'
        match zs, hzl with
        | [z0, z1, z2], _ =>
          have f0 : DataW.trod enc Try.prog W 0 (fun _ => true) true n2 3 (List.take (Try.prog.cellsOf 3) (List.drop 0 [v0, v1, v2])) = some z0 := hfz 0 _ rfl
          have f1 : DataW.trod enc Try.prog W 0 (fun _ => true) true n2 3 (List.take (Try.prog.cellsOf 3) (List.drop 1 [v0, v1, v2])) = some z1 := hfz 1 _ rfl
          have f2 : DataW.trod enc Try.prog W 0 (fun _ => true) true n2 38 (List.take (Try.prog.cellsOf 38) (List.drop 2 [v0, v1, v2])) = some z2 := hfz 2 _ rfl
          rw [kI] at f0 f1
          rw [kO] at f2
          obtain ⟨i0, h0, _, _⟩ := DataW.trod_int Try.underlying3 f0
          obtain ⟨i1, h1, _, _⟩ := DataW.trod_int Try.underlying3 f1
          have f2' : DataW.trod enc Try.prog W 0 (fun _ => true) true n2 38 [v2] = some z2 := f2
          obtain ⟨oa, oc, ops, h2, hops, ho1, ho2, ho3, ho4⟩ := open_opns3 f2'
          obtain ⟨i3, h3, _, hw⟩ := DataW.trod_int Try.underlying23 g1
          simp at h0 h1 h3
          subst h0 h1 h2 h3
          have hb3 := bounds_u64 hw
          refine ⟨⟨i0, i1, oa, oc, ops, i3⟩, ⟨⟨?_, ?_, ?_, ?_⟩, hops⟩, ⟨hb3.1, by show i3 < _; omega⟩, ho3 (fun m' hm' => hwD i hil m' (by rw [show D i = _ from congrArg Prod.fst hy, show y0 = _ from hzy]; exact w_opns hm')), ho4⟩
          · simpa [Addr.add] using e0
          · rw [← Go.Deep.add_add]; simpa using e1
          · rw [← Go.Deep.add_add]; simpa using e2
          · rw [← Go.Deep.add_add]; simpa using e3
    obtain ⟨es, hpl, hps⟩ := list_of ent0 _ len each
    refine ⟨es, fun hne => ?_, hpl, hl, hm, fun q hq => ?_, fun q hq => ?_, fun q hq => ?_, hlen2⟩
    · have hpos : 0 < len := by rw [← hpl]; exact List.length_pos_iff.2 hne
      obtain ⟨b, off, spot⟩ := x
      obtain ⟨⟨⟨hc, _⟩, _⟩, _⟩ := hps 0 hpos
      have hspot : spot = none := by simpa [Addr.add] using World.cell?_spot hc
      subst hspot
      refine ⟨b, off, rfl, by simpa [Addr.add] using World.block_lt_of_cell? W _ hc, fun i hil => ?_⟩
      obtain ⟨⟨⟨h1, h2, h3, h4⟩, h5⟩, _⟩ := hps i (by omega)
      rw [Addr.add_lit] at h1 h2 h3 h4
      exact ⟨⟨h1, h2, h3, h4⟩, h5⟩
    · obtain ⟨i, hil, rfl⟩ := List.getElem_of_mem hq
      have := hps i (by omega)
      rw [List.getElem?_eq_getElem hil] at this
      exact this.2.1
    · obtain ⟨i, hil, rfl⟩ := List.getElem_of_mem hq
      have := hps i (by omega)
      rw [List.getElem?_eq_getElem hil] at this
      exact this.2.2.1
    · obtain ⟨i, hil, rfl⟩ := List.getElem_of_mem hq
      have := hps i (by omega)
      rw [List.getElem?_eq_getElem hil] at this
      exact this.2.2.2
end
end Go.Proofs.Ytboiilbeioaneaa
