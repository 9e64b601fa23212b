/- AgreeMore holds: marks in another order, later marks and a pin less make a horizon no less; no condition. -/
import Derived.Test.YtmedkmlokkiefaaMore
import Derived.Test.YtmedkmlokkiefaaOpen
import Derived.ShutString
import Derived.ChangeOld
namespace Go.Proofs.Ytmedkmlokkiefaa.more
open Go.ChangeShapes Go.WideShapes Go.ChangeAt Go.RowKit Law
set_option linter.unusedVariables false

theorem own : ownKnob Try.prog.godebug = none := by kernel_rfl
theorem laidOut : laidOutB Try.prog = true := by kernel_rfl

theorem walk (a0 : Int) (a1 : Option Addr) (len1 cap1 : Nat) (zs : List Int) (a2 : Option Addr) (len2 cap2 : Nat) (ps : List (Int × Int × Int)) (a3 : Int) (w : World)
    (hz : Nums w a1 zs) (hzl : zs.length = len1) (hc1 : len1 ≤ cap1) (hm1 : cap1 ≤ 9223372036854775807) (hzb : ∀ x ∈ zs, 0 ≤ x ∧ x < 18446744073709551616)
    (hp : Pins w a2 ps) (hpl : ps.length = len2) (hc2 : len2 ≤ cap2) (hm2 : cap2 ≤ 9223372036854775807) (h30 : 0 ≤ a3) (h31 : a3 ≤ 255) :
    Calls Try.prog 5 #[.int .u64 a0, .slice a1 len1 cap1, .slice a2 len2 cap2, .int .u8 a3] w fun e w' => e = .returned (.bool true) ∧ Below w.heap.size w w' := by
  by_cases h : 60 < len1 ∨ 60 < len2
  · exact more_much a0 a3 a1 a2 len1 cap1 len2 cap2 w h (by omega) (by omega)
  · subst hzl hpl
    exact more_few a0 a3 a1 a2 cap1 cap2 zs ps w hz hc1 hm1 hp hc2 hm2 hzb (by omega) (by omega) h30 h31

set_option maxRecDepth 100000 in
theorem lifted (os : Os) (started : os.Started) (H : Type) (enc : TypeId × Value → H) :
    ReturnsInHanded {} Try.checked os 5 .any (Rows.agreeMoreSpec.pre6 enc Try.prog Try.f5 Rows.agreeMoreRow.domain false) (Rows.agreeMoreSpec.post enc Try.prog Try.f5 false true false false) := by
  refine returnsInHanded_of_change (C := Try.checked) own started (by kernel_rfl) Try.func5
    (ChangeSpec.witness6 (enc := enc) (C := Try.checked) false ⟨#[], #[.int .u64 0, .slice none 0 0, .slice none 0 0, .int .u8 0], []⟩ 8 (by kernel_rfl) (by kernel_rfl) (by kernel_rfl) (by kernel_rfl)) ?_
  intro W base args ds gs before hval0 hW hcnd _
  have hval : ∀ (j : Nat) t v, Try.f5.params[j]? = some t → args[j]? = some v → Value.okWide Try.prog W .any base t v := hval0
  have hW' := hW
  obtain ⟨p, q, hA0, hV, rfl, hfz, hnd⟩ := hW
  have hA : DataW.TrodAll enc Try.prog W 0 (fun _ => true) true Try.f5.params.toList args.toList ds p := hA0
  rw [Try.params5] at hA hval
  obtain ⟨v0, v1, v2, v3, d0, d1, d2, d3, p0, p1, p2, p3, rfl, rfl, rfl, h0, h1, h2, h3⟩ := trodAll_four hA
  obtain ⟨rfl, rfl⟩ := trodVars_none hV
  obtain ⟨a0, rfl, rfl, rfl, w0⟩ := open_int Try.underlying22 (hval 0 22 v0 rfl rfl) h0
  obtain ⟨a1, len1, cap1, rfl⟩ := okWide_slice Try.underlying23 (hval 1 23 v1 rfl rfl)
  obtain ⟨a2, len2, cap2, rfl⟩ := okWide_slice Try.underlying24 (hval 2 24 v2 rfl rfl)
  obtain ⟨a3, rfl, rfl, rfl, w3⟩ := open_int Try.underlying5 (hval 3 5 v3 rfl rfl) h3
  have b3 := bounds_u8 w3
  have k1 := h1
  have k2 := h2
  have lt1 : ∀ x ∈ p1, x.block < W.heap.size := by obtain ⟨m, hm⟩ := k1; exact DataW.trod_lt m _ _ _ hm
  have lt2 : ∀ x ∈ p2, x.block < W.heap.size := by obtain ⟨m, hm⟩ := k2; exact DataW.trod_lt m _ _ _ hm
  obtain ⟨zs, hz, hzl, hc1, hm1, hzb⟩ := open_nums h1
  obtain ⟨ps, hp, hpl, hc2, hm2, _⟩ := open_pins h2
  clear hA0 hval0
  refine (walk a0 a1 len1 cap1 zs a2 len2 cap2 ps a3 W hz hzl hc1 hm1 hzb hp hpl hc2 hm2 b3.1 b3.2).mono fun e W' ⟨he, bel⟩ => ?_
  subst he
  exact ⟨_, rfl, _, _, _, [], _, [], hW', trodAll_mk1 (shut_bool Try.underlying4 _),
    (trodAll_cons_mk (shut_int Try.underlying22 w0) (trodAll_cons_mk (Below.trod laidOut (by kernel_rfl) (of_decide_eq_true (by kernel_rfl)) k1 bel lt1) (trodAll_cons_mk (Below.trod laidOut (by kernel_rfl) (of_decide_eq_true (by kernel_rfl)) k2 bel lt2) (trodAll_cons_mk (shut_int Try.underlying5 w3) trodAll_mk0)))),
    rfl, bel.frame _, fun h => by cases h⟩

theorem over : Rows.agreeMoreRow.holds Try.pinned (OpenSpec.ofChange Rows.agreeMoreSpec) :=
  OpenClaim.holds_of_wide 5 Try.f5 rfl rfl rfl rfl rfl rfl rfl ⟨rfl, rfl, rfl, rfl, rfl⟩ rfl rfl rfl rfl rfl (by kernel_rfl) Try.func5 (by kernel_rfl)
    (of_decide_eq_true (by kernel_rfl)) (by unfold Func.isWrapper; first | (rw [if_pos (by decide +kernel)]; kernel_rfl) | (rw [if_neg (by decide +kernel)]; exact ⟨rfl, rfl⟩))
    (fun os started H enc _ => lifted os started H enc)

/-- THE STATEMENT. -/
theorem proved : Rows.AgreeMoreSaid := over
#print axioms proved
end Go.Proofs.Ytmedkmlokkiefaa.more
