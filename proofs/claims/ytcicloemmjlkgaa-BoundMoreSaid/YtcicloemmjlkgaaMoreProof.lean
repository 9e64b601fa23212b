/- BoundMore holds: a later mark refuses nothing that an earlier one allowed, nor an earlier horizon; of a log that is right more that is stable is no earlier mark; no condition. -/
import Derived.Test.YtcicloemmjlkgaaMore
import Derived.Test.YtcicloemmjlkgaaOpenEnts
import Derived.ShutString
import Derived.ChangeOld
namespace Go.Proofs.Ytcicloemmjlkgaa.more
open Go.ChangeShapes Go.WideShapes Go.ChangeAt Go.RowKit Law
set_option linter.unusedVariables false

theorem own : ownKnob Try.prog.godebug = none := by kernel_rfl
theorem laidOut : laidOutB Try.prog = true := by kernel_rfl

/-- Five numbers of 64 bits, by value. -/
theorem open_five {H : Type} {enc : TypeId × Value → H} {W : World} {base : Nat} {v : Value} {d : DataW H} {p : List MemPlace} (hv : Value.okWide Try.prog W .any base 24 v) (h : DataW.Trod enc Try.prog W 0 (fun _ => true) true 24 v d p) :
    ∃ a b c e f : Int, v = .agg #[.int .u64 a, .int .u64 b, .int .u64 c, .int .u64 e, .int .u64 f] := by
  have hv' := hv
  simp only [Value.okWide, Try.underlying24] at hv'
  obtain ⟨cs, rfl, hsz, _⟩ := hv'
  obtain ⟨l⟩ := cs
  have hC : Try.prog.cellsOf 24 = 5 := by kernel_rfl
  have kU : Try.prog.cellsOf 23 = 1 := by kernel_rfl
  obtain ⟨fuel, hf⟩ := h
  obtain ⟨xs, m, _, _, _, hlen, hg⟩ := DataW.trod_array Try.underlying24 hf
  rw [kU] at hg
  match l, hsz.trans hC, xs, hlen with
  | [c0, c1, c2, c3, c4], _, [x0, x1, x2, x3, x4], _ =>
    obtain ⟨z0, h0, _, _⟩ := DataW.trod_int Try.underlying23 (hg 0 (by omega))
    obtain ⟨z1, h1, _, _⟩ := DataW.trod_int Try.underlying23 (hg 1 (by omega))
    obtain ⟨z2, h2, _, _⟩ := DataW.trod_int Try.underlying23 (hg 2 (by omega))
    obtain ⟨z3, h3, _, _⟩ := DataW.trod_int Try.underlying23 (hg 3 (by omega))
    obtain ⟨z4, h4, _, _⟩ := DataW.trod_int Try.underlying23 (hg 4 (by omega))
    simp [Value.cells] at h0 h1 h2 h3 h4
    subst h0 h1 h2 h3 h4
    exact ⟨_, _, _, _, _, rfl⟩

set_option maxRecDepth 100000 in
theorem lifted (os : Os) (started : os.Started) (H : Type) (enc : TypeId × Value → H) :
    ReturnsInHanded {} Try.checked os 3 .any (Rows.boundMoreSpec.pre6 enc Try.prog Try.f3 Rows.boundMoreRow.domain false) (Rows.boundMoreSpec.post enc Try.prog Try.f3 false true false false) := by
  refine returnsInHanded_of_change (C := Try.checked) own started (by kernel_rfl) Try.func3
    (ChangeSpec.witness6 (enc := enc) (C := Try.checked) false ⟨#[], #[.slice none 0 0, .int .u8 0, .int .u8 0, .agg #[.int .u64 0, .int .u64 0, .int .u64 0, .int .u64 0, .int .u64 0]], []⟩ 8 (by kernel_rfl) (by kernel_rfl) (by kernel_rfl) (by kernel_rfl)) ?_
  intro W base args ds gs before hval0 hW hcnd _
  have hval : ∀ (j : Nat) t v, Try.f3.params[j]? = some t → args[j]? = some v → Value.okWide Try.prog W .any base t v := hval0
  have hW' := hW
  obtain ⟨p, q, hA0, hV, rfl, hfz, hnd⟩ := hW
  have hA : DataW.TrodAll enc Try.prog W 0 (fun _ => true) true Try.f3.params.toList args.toList ds p := hA0
  rw [Try.params3] at hA hval
  obtain ⟨v0, v1, v2, v3, d0, d1, d2, d3, p0, p1, p2, p3, rfl, rfl, rfl, h0, h1, h2, h3⟩ := trodAll_four hA
  obtain ⟨rfl, rfl⟩ := trodVars_none hV
  obtain ⟨a0, len0, cap0, rfl⟩ := okWide_slice Try.underlying22 (hval 0 22 v0 rfl rfl)
  have k0 := h0
  have k3 := h3
  have lt0 : ∀ x ∈ p0, x.block < W.heap.size := by obtain ⟨m, hm⟩ := k0; exact DataW.trod_lt m _ _ _ hm
  have lt3 : ∀ x ∈ p3, x.block < W.heap.size := by obtain ⟨m, hm⟩ := k3; exact DataW.trod_lt m _ _ _ hm
  obtain ⟨es, hE, hEl, hc1, hm1, hts, hops⟩ := open_ents h0
  obtain ⟨a1, rfl, rfl, rfl, w1⟩ := open_int Try.underlying5 (hval 1 5 v1 rfl rfl) h1
  obtain ⟨a2, rfl, rfl, rfl, w2⟩ := open_int Try.underlying5 (hval 2 5 v2 rfl rfl) h2
  obtain ⟨t0, t1, t2, t3, t4, rfl⟩ := open_five (hval 3 24 v3 rfl rfl) h3
  have b1 := bounds_u8 w1
  have b2 := bounds_u8 w2
  clear hA0 hval0
  refine (more_any a1 a2 t0 t1 t2 t3 t4 a0 len0 cap0 es W hE hEl (by omega) hops (fun e he => (hts e he).1) b1.1 b1.2 b2.1 b2.2).mono fun e W' ⟨he, bel⟩ => ?_
  subst he
  exact ⟨_, rfl, _, _, _, [], _, [], hW', trodAll_mk1 (shut_bool Try.underlying4 _),
    (trodAll_cons_mk (Below.trod laidOut (by kernel_rfl) (of_decide_eq_true (by kernel_rfl)) k0 bel lt0) (trodAll_cons_mk (shut_int Try.underlying5 w1) (trodAll_cons_mk (shut_int Try.underlying5 w2) (trodAll_cons_mk (Below.trod laidOut (by kernel_rfl) (of_decide_eq_true (by kernel_rfl)) k3 bel lt3) trodAll_mk0)))),
    rfl, bel.frame _, fun h => by cases h⟩

theorem over : Rows.boundMoreRow.holds Try.pinned (OpenSpec.ofChange Rows.boundMoreSpec) :=
  OpenClaim.holds_of_wide 3 Try.f3 rfl rfl rfl rfl rfl rfl rfl ⟨rfl, rfl, rfl, rfl, rfl⟩ rfl rfl rfl rfl rfl (by kernel_rfl) Try.func3 (by kernel_rfl)
    (of_decide_eq_true (by kernel_rfl)) (by unfold Func.isWrapper; first | (rw [if_pos (by decide +kernel)]; kernel_rfl) | (rw [if_neg (by decide +kernel)]; exact ⟨rfl, rfl⟩))
    (fun os started H enc _ => lifted os started H enc)

/-- THE STATEMENT. -/
theorem proved : Rows.BoundMoreSaid := over
#print axioms proved
end Go.Proofs.Ytcicloemmjlkgaa.more
