/- The walk of (*Log).Stamp: a timestamp for the first entry that has none. -/
import Derived.Test.YtboiilbeioaneaaStampLaw
namespace Go.Proofs.Ytboiilbeioaneaa
open Go.RowKit Law

theorem row_ents {W : World} {base n g cap : Nat} {es : List Ent} (h : W.ownsRow base 42 4 (.slice (some ⟨g, 0, none⟩) n cap) n (ecs es)) (k j : Nat) (hk : k < es.length) (hj : j < 4) : W.cell? ⟨g, k * 4 + j, none⟩ = (ec es[k])[j]? := by
  have hl : j < (ec es[k]).length := hj
  rw [List.getElem?_eq_getElem hl]
  have := h.cells (g := g) rfl (k * 4 + j) ((ec es[k])[j]) (by rw [ecs_get es k j hk hj, List.getElem?_eq_getElem hl])
  simpa [Addr.add_lit] using this
theorem ents_of {W : World} {base n : Nat} {v : Value} {es : List Ent} (hn : es.length = n) (h : W.ownsRow base 42 4 v n (ecs es)) (hf : Far W base v es) : ∃ A cap, v = .slice A n cap ∧ Ents W A es := by
  have h' := h
  rcases h.2 with ⟨rfl, h0⟩ | ⟨g, cap, cur, rfl, h1, _⟩
  · refine ⟨none, 0, by rw [h0], fun hne => absurd ?_ hne⟩
    exact List.eq_nil_of_length_eq_zero (by omega)
  · refine ⟨some ⟨g, 0, none⟩, cap, rfl, fun _ => ⟨g, 0, rfl, (h'.lt g rfl).2, fun k hk => ?_⟩⟩
    have c0 := row_ents h' k 0 hk (by omega)
    have c1 := row_ents h' k 1 hk (by omega)
    have c2 := row_ents h' k 2 hk (by omega)
    have c3 := row_ents h' k 3 hk (by omega)
    rw [List.getElem?_eq_getElem hk, Nat.zero_add]
    exact ⟨⟨c0, c1, c2, c3⟩, (hf _ (List.getElem_mem hk)).1⟩
theorem ents_set {W : World} {base n g cap : Nat} {es : List Ent} (h : W.ownsRow base 42 4 (.slice (some ⟨g, 0, none⟩) n cap) n (ecs es)) (hf : Far W base (.slice (some ⟨g, 0, none⟩) n cap) es) (i : Nat) (t : Int) (hi : i < es.length) :
    Ents (W.setCell ⟨g, i * 4 + 3, none⟩ (.int .u64 t)) (some ⟨g, 0, none⟩) (setT es i t) := by
  intro _
  refine ⟨g, 0, rfl, by simpa using (h.lt g rfl).2, fun k hk => ?_⟩
  rw [setT_length] at hk
  have c0 := row_ents h k 0 hk (by omega)
  have c1 := row_ents h k 1 hk (by omega)
  have c2 := row_ents h k 2 hk (by omega)
  have c3 := row_ents h k 3 hk (by omega)
  have oth : ∀ j, k * 4 + j ≠ i * 4 + 3 → (W.setCell ⟨g, i * 4 + 3, none⟩ (.int .u64 t)).cell? ⟨g, k * 4 + j, none⟩ = W.cell? ⟨g, k * 4 + j, none⟩ := fun j hj => World.cell?_setCell_other _ _ _ _ (fun e => hj (congrArg Addr.off e).symm)
  obtain ⟨o1, b, ob, _, _, ob3⟩ := hf _ (List.getElem_mem hk)
  have o2 : Opns (W.setCell ⟨g, i * 4 + 3, none⟩ (.int .u64 t)) es[k].oa es[k].ops := o1.far (Go.Lib.grownBy_setCell W g (i * 4 + 3) _) (fun b' e' => by rw [ob] at e'; cases e'; exact fun e => ob3 e.symm) ⟨b, ob⟩
  rw [Nat.zero_add]
  by_cases e : k = i
  · subst e
    rw [setT_at es k t hk, List.getElem?_eq_getElem hk]
    refine ⟨⟨(oth 0 (by omega)).trans c0, (oth 1 (by omega)).trans c1, (oth 2 (by omega)).trans c2, World.cell?_setCell_same _ _ _ c3⟩, o2⟩
  · rw [setT_other es i k t e, List.getElem?_eq_getElem hk]
    refine ⟨⟨(oth 0 (by omega)).trans c0, (oth 1 (by omega)).trans c1, (oth 2 (by omega)).trans c2, (oth 3 (by omega)).trans c3⟩, o2⟩
theorem row_frozen {W : World} {base n g cap : Nat} {xs : List Value} {e : TypeId} {size : Nat} (h : W.ownsRow base e size (.slice (some ⟨g, 0, none⟩) n cap) n xs) (j : Nat) : W.frozen? ⟨g, j, none⟩ = false := by
  rcases h.2 with ⟨e, _⟩ | ⟨g', cap', cur, e, _, hg, _⟩
  · cases e
  · cases e
    simp [World.frozen?, hg]

/-- A log, held by a box. -/
def LogAt (W : World) (X : Nat) (n : Nat) (es : List Ent) : Prop := es.length = n ∧ (∃ A cap, Boxed W X 53 (.slice A n cap) ∧ Ents W A es) ∧ (∀ e ∈ es, e.ops.length ≤ 4) ∧ (∀ e ∈ es, e.oa = none → e.oc = 0)
theorem ops_sh {es es' : List Ent} (h : es'.map sh = es.map sh) (ho : ∀ e ∈ es, e.ops.length ≤ 4) : ∀ e ∈ es', e.ops.length ≤ 4 := by
  intro e he
  have : sh e ∈ es.map sh := h ▸ List.mem_map.2 ⟨e, he, rfl⟩
  obtain ⟨e', he', e2⟩ := List.mem_map.1 this
  have h1 := ho e' he'
  have : (sh e').ops = (sh e).ops := by rw [e2]
  simp only [sh] at this
  rwa [← this]
theorem setT_ops {es : List Ent} (i : Nat) (t : Int) (ho : ∀ e ∈ es, e.ops.length ≤ 4) : ∀ e ∈ setT es i t, e.ops.length ≤ 4 := by
  intro e he
  obtain ⟨j, hj, rfl⟩ := List.getElem_of_mem he
  have hl := setT_length es i t
  have hg : (setT es i t)[j] = (setT es i t)[j]?.getD ent0 := by rw [List.getElem?_eq_getElem hj]; rfl
  have ho' : (es[j]?.getD ent0).ops.length ≤ 4 := by
    rw [List.getElem?_eq_getElem (by omega)]
    exact ho _ (List.getElem_mem _)
  rw [hg]
  by_cases e : j = i
  · subst e
    rw [setT_at es j t (by omega)]
    exact ho'
  · rw [setT_other es i j t e]
    exact ho'
theorem setT_oa {es : List Ent} (i : Nat) (t : Int) (ho : ∀ e ∈ es, e.oa ≠ none) : ∀ e ∈ setT es i t, e.oa ≠ none := by
  intro e he
  obtain ⟨j, hj, rfl⟩ := List.getElem_of_mem he
  have hl := setT_length es i t
  have hg : (setT es i t)[j] = (setT es i t)[j]?.getD ent0 := by rw [List.getElem?_eq_getElem hj]; rfl
  have ho' : (es[j]?.getD ent0).oa ≠ none := by
    rw [List.getElem?_eq_getElem (by omega)]
    exact ho _ (List.getElem_mem _)
  rw [hg]
  by_cases e : j = i
  · subst e
    rw [setT_at es j t (by omega)]
    exact ho'
  · rw [setT_other es i j t e]
    exact ho'

set_option maxHeartbeats 2000000 in
set_option maxRecDepth 100000 in
theorem stamp_any (X n i : Nat) (t : Int) (es : List Ent) (w : World) (hL : LogAt w X n es) (hm : n ≤ 80) (hi : stp (tss es) = i) (hin : i < n) (h0 : 0 ≤ lastT (tss es)) (ht : lastT (tss es) < t) :
    Calls Try.prog 15 #[.pointer (some ⟨X, 0, none⟩), .int .i64 i, .int .u64 t] w fun e W' => e = .returned (.int .i64 0) ∧ w.grownBy W' (some X) ∧ ∃ es', LogAt W' X n es' ∧ es'.map sh = (setT es i t).map sh := by
  obtain ⟨rfl, ⟨A, cap, hbx, hE⟩, ho, hno⟩ := hL
  have C1 := Lib.hid (fun w h => refStamped_any A es.length cap es w h rfl (by omega))
  have C2 := Lib.hid (fun w h => refLast_any A es.length cap es w h rfl (by omega))
  have C3 := Lib.hid (copy_any A es.length cap es w hE rfl hm ho hno)
  have HE := Lib.hid hE
  have x0 := hbx.cell
  have HX := Lib.hid hbx
  have HO := Lib.hid ho
  clear hE hbx ho hno
  rw [hi] at C1
  generalize hls : lastT (tss es) = ls at *
  clear hls
  have t0 : (t == 0) = false := by simp; omega
  have t1 : decide (t ≤ ls) = false := by simp; omega
  have i0 : ((i : Int) != (i : Int)) = false := by simp
  have HI := Lib.hid hi
  clear hi
  go_enter Try.func15, Try.ntmps15
  go_wp2_with fail
  refine (C1.out _ HE.out).mono ?_
  rintro e w1 ⟨rfl, rfl⟩
  go_wp2_with fail
  refine (C2.out _ HE.out).mono ?_
  rintro e w1 ⟨rfl, rfl⟩
  go_wp2_with fail
  refine C3.out.mono ?_
  rintro e w1 ⟨v, es', rfl, hsh, hown, hfar, hB⟩
  have hlen := len_sh hsh
  have hv : ∃ g cp, v = .slice (some ⟨g, 0, none⟩) es.length cp := by
    rcases hown.2 with ⟨_, e⟩ | ⟨g, c, _, e, _⟩
    · omega
    · exact ⟨g, c, e⟩
  obtain ⟨g, cp, rfl⟩ := hv
  have hg := hown.lt g rfl
  have hXl := HX.out.lt
  have y0 := row_ents hown i 3 (by omega) (by omega)
  simp only [ec, List.getElem?_cons_succ, List.getElem?_cons_zero] at y0
  have y0f := row_frozen hown (i * 4 + 3)
  have hX1 : Boxed w1 X 53 (.slice A es.length cap) := (hB.block X hXl).trans HX.out
  have gS := Go.Lib.grownBy_setCell w1 g (i * 4 + 3) (.int .u64 t)
  have hX2 := hX1.kept gS (by simp; omega)
  have z0 := hX2.cell
  have z0f := hX2.frozen
  have hX3 := hX2.set (.slice (some ⟨g, 0, none⟩) es.length cp)
  have gS2 := grownBy_setCell' (w1.setCell ⟨g, i * 4 + 3, none⟩ (.int .u64 t)) X (.slice (some ⟨g, 0, none⟩) es.length cp)
  have hE2 := ents_set hown hfar i t (by omega)
  have hE3 : Ents ((w1.setCell ⟨g, i * 4 + 3, none⟩ (.int .u64 t)).setCell ⟨X, 0, none⟩ (.slice (some ⟨g, 0, none⟩) es.length cp)) (some ⟨g, 0, none⟩) (setT es' i t) := by
    intro hne
    obtain ⟨b, off, e, hb, hc⟩ := hE2 hne
    cases e
    refine ⟨g, 0, rfl, Nat.lt_of_lt_of_le hb gS2.size, fun k hk => ?_⟩
    obtain ⟨⟨c0, c1, c2, c3⟩, c4⟩ := hc k hk
    have hgX : some g ≠ some X := by simp; omega
    refine ⟨⟨gS2.cell c0 hgX, gS2.cell c1 hgX, gS2.cell c2 hgX, gS2.cell c3 hgX⟩, ?_⟩
    have hkl : k < es'.length := by rwa [setT_length] at hk
    obtain ⟨_, b, ob, ob1, _, _⟩ := hfar _ (List.getElem_mem hkl)
    have hoa : ((setT es' i t)[k]?.getD ent0).oa = some ⟨b, 0, none⟩ := by
      by_cases e : k = i
      · subst e
        rw [setT_at es' k t hkl, List.getElem?_eq_getElem hkl]
        exact ob
      · rw [setT_other es' i k t e, List.getElem?_eq_getElem hkl]
        exact ob
    refine c4.far gS2 (fun b' e' => ?_) ⟨b, hoa⟩
    rw [hoa] at e'
    cases e'
    simp
    omega
  have hoa' : ∀ e ∈ es', e.oa ≠ none := fun e he e2 => by
    obtain ⟨_, b, ob, _⟩ := hfar e he
    rw [ob] at e2
    cases e2
  have HFIN := Lib.hid (show LogAt ((w1.setCell ⟨g, i * 4 + 3, none⟩ (.int .u64 t)).setCell ⟨X, 0, none⟩ (.slice (some ⟨g, 0, none⟩) es.length cp)) X es.length (setT es' i t) from
    ⟨by rw [setT_length, hlen], ⟨_, _, hX3, hE3⟩, setT_ops i t (ops_sh hsh HO.out), fun e he e2 => absurd e2 (setT_oa i t hoa' e he)⟩)
  have HGB := Lib.hid (show w.grownBy ((w1.setCell ⟨g, i * 4 + 3, none⟩ (.int .u64 t)).setCell ⟨X, 0, none⟩ (.slice (some ⟨g, 0, none⟩) es.length cp)) (some X) from
    ⟨hB.os, hB.tape, hB.output, Nat.le_trans hB.size (by simp), fun k hk hkX => (gS2.block k (by have := hB.size; simp; omega) hkX).trans ((gS.block k (by have := hB.size; omega) (by simp; omega)).trans (hB.block k hk))⟩)
  have HS := Lib.hid (setT_map hsh i t)
  clear hown hfar hB hX1 gS hX2 hX3 gS2 hE2 hE3 hoa' hsh
  go_wp2
  go_ret
  exact ⟨rfl, HGB.out, _, HFIN.out, HS.out⟩
end Go.Proofs.Ytboiilbeioaneaa
