/- The plain law: a log that is right is right behind a timestamp that is given to the first that has none. -/
import Derived.Test.YtboiilbeioaneaaCopy
namespace Go.Proofs.Ytboiilbeioaneaa
open Go.RowKit Law

theorem getD_map (es : List Ent) (i : Nat) : (es.map sh)[i]?.getD ent0 = sh (es[i]?.getD ent0) := by
  rw [List.getElem?_map]
  cases es[i]? <;> rfl
theorem row_map (es : List Ent) (i : Nat) : rowE (es.map sh) i = rowE es i := by
  unfold rowE
  simp only [getD_map]
  rfl
theorem right_map (es : List Ent) : rightE (es.map sh) = rightE es := by
  unfold rightE
  rw [List.length_map, show rowE (es.map sh) = rowE es from funext (row_map es)]
theorem right_sh {es es' : List Ent} (h : es'.map sh = es.map sh) : rightE es' = rightE es := by rw [← right_map es', h, right_map]
theorem tss_map (es : List Ent) : tss (es.map sh) = tss es := by simp [tss, List.map_map, Function.comp_def, sh]
theorem tss_sh {es es' : List Ent} (h : es'.map sh = es.map sh) : tss es' = tss es := by rw [← tss_map es', h, tss_map]
theorem len_sh {es es' : List Ent} (h : es'.map sh = es.map sh) : es'.length = es.length := by
  have := congrArg List.length h
  simpa using this

theorem row_zero (es : List Ent) (j : Nat) : rowE es j = 0 ↔ chkE (es[j]?.getD ent0) = 0 ∧ (¬ ∃ k, k < j ∧ twin (es[k]?.getD ent0) (es[j]?.getD ent0) = true) ∧
    ¬ (0 < j ∧ (es[j]?.getD ent0).ts ≠ 0 ∧ ((es[j - 1]?.getD ent0).ts = 0 ∨ (es[j]?.getD ent0).ts ≤ (es[j - 1]?.getD ent0).ts)) := by
  unfold rowE
  by_cases h1 : chkE (es[j]?.getD ent0) = 0
  · rw [if_neg (by simpa using h1)]
    by_cases h2 : ∃ k, k < j ∧ twin (es[k]?.getD ent0) (es[j]?.getD ent0) = true
    · rw [if_pos h2]
      exact ⟨fun e => by simp at e, fun e => absurd h2 e.2.1⟩
    · rw [if_neg h2]
      by_cases h3 : 0 < j ∧ (es[j]?.getD ent0).ts ≠ 0 ∧ ((es[j - 1]?.getD ent0).ts = 0 ∨ (es[j]?.getD ent0).ts ≤ (es[j - 1]?.getD ent0).ts)
      · rw [if_pos h3]
        exact ⟨fun e => by simp at e, fun e => absurd h3 e.2.2⟩
      · rw [if_neg h3]
        exact ⟨fun _ => ⟨h1, h2, h3⟩, fun _ => rfl⟩
  · rw [if_pos (by simpa using h1)]
    exact ⟨fun e => absurd e h1, fun e => absurd e.1 h1⟩
theorem right_zero (es : List Ent) : rightE es = 0 ↔ ∀ j, j < es.length → rowE es j = 0 :=
  ⟨firstE_zero _ _, firstE_none _ _⟩

/-- A timestamp for one entry. -/
def setT (es : List Ent) (i : Nat) (t : Int) : List Ent := es.set i { (es[i]?.getD ent0) with ts := t }
theorem setT_length (es : List Ent) (i : Nat) (t : Int) : (setT es i t).length = es.length := by simp [setT]
theorem setT_at (es : List Ent) (i : Nat) (t : Int) (h : i < es.length) : (setT es i t)[i]?.getD ent0 = { (es[i]?.getD ent0) with ts := t } := by
  unfold setT
  rw [List.getElem?_set_self h]
  rfl
theorem setT_other (es : List Ent) (i j : Nat) (t : Int) (h : j ≠ i) : (setT es i t)[j]?.getD ent0 = es[j]?.getD ent0 := by
  unfold setT
  rw [List.getElem?_set_ne (by omega)]
theorem setT_map {es es' : List Ent} (h : es'.map sh = es.map sh) (i : Nat) (t : Int) : (setT es' i t).map sh = (setT es i t).map sh := by
  unfold setT
  rw [List.map_set, List.map_set, h]
  congr 1
  have e1 := getD_map es i
  have e2 := getD_map es' i
  rw [h, e1] at e2
  show ({ (es'[i]?.getD ent0) with ts := t, oa := none, oc := 0 } : Ent) = { (es[i]?.getD ent0) with ts := t, oa := none, oc := 0 }
  have c1 : (sh (es[i]?.getD ent0)).client = (sh (es'[i]?.getD ent0)).client := by rw [e2]
  have c2 : (sh (es[i]?.getD ent0)).req = (sh (es'[i]?.getD ent0)).req := by rw [e2]
  have c3 : (sh (es[i]?.getD ent0)).ops = (sh (es'[i]?.getD ent0)).ops := by rw [e2]
  simp only [sh] at c1 c2 c3
  simp only [c1, c2, c3]
theorem tss_getD (es : List Ent) (k : Nat) (hk : k < es.length) : (tss es)[k]? = some (es[k]?.getD ent0).ts := by
  simp [tss, List.getElem?_eq_getElem hk]

theorem step_law (es : List Ent) (i : Nat) (t : Int) (hr : rightE es = 0) (hi : stp (tss es) = i) (hl : i < es.length) (ht : lastT (tss es) < t) (h0 : 0 ≤ lastT (tss es)) :
    rightE (setT es i t) = 0 ∧ stp (tss (setT es i t)) = i + 1 ∧ lastT (tss (setT es i t)) = t := by
  have hrow := fun j hj => (row_zero es j).1 ((right_zero es).1 hr j hj)
  have hlen := setT_length es i t
  have htl : (tss (setT es i t)).length = es.length := by rw [tss_length, hlen]
  have hts : ∀ j (hj : j < (tss (setT es i t)).length), (tss (setT es i t))[j] = ((setT es i t)[j]?.getD ent0).ts := fun j hj => by
    have := tss_getD (setT es i t) j (by rw [hlen]; omega)
    rw [List.getElem?_eq_getElem hj] at this
    exact Option.some.inj this
  have hold : ∀ j (hj : j < es.length), (tss es)[j]'(by rw [tss_length]; exact hj) = (es[j]?.getD ent0).ts := fun j hj => by
    have := tss_getD es j hj
    rw [List.getElem?_eq_getElem (by rw [tss_length]; exact hj)] at this
    exact Option.some.inj this
  have hne : ∀ j, j < i → (es[j]?.getD ent0).ts ≠ 0 := fun j hj => by
    rw [← hold j (by omega)]
    exact stp_ne (tss es) j (by omega)
  have hz : (es[i]?.getD ent0).ts = 0 := by
    rw [← hold i hl]
    have := stp_zero (tss es) (by rw [tss_length]; omega)
    simpa only [hi] using this
  have hz1 : i + 1 < es.length → (es[i + 1]?.getD ent0).ts = 0 := fun h => by
    by_cases e : (es[i + 1]?.getD ent0).ts = 0
    · exact e
    · exact absurd ⟨by omega, e, .inl (by simpa using hz)⟩ (hrow (i + 1) h).2.2
  have hstp : stp (tss (setT es i t)) = i + 1 := by
    by_cases h : i + 1 < es.length
    · refine stp_at _ _ (by omega) (fun j hj => ?_) ?_
      · rw [hts j (by omega)]
        by_cases e : j = i
        · subst e; rw [setT_at es j t hl]; show t ≠ 0; omega
        · rw [setT_other es i j t e]; exact hne j (by omega)
      · rw [hts _ (by omega), setT_other es i (i + 1) t (by omega)]
        exact hz1 h
    · have := stp_all (tss (setT es i t)) (fun j hj => by
        rw [hts j hj]
        by_cases e : j = i
        · subst e; rw [setT_at es j t hl]; show t ≠ 0; omega
        · rw [setT_other es i j t e]; exact hne j (by omega))
      rw [this, htl]
      omega
  refine ⟨(right_zero _).2 fun j hj => (row_zero _ j).2 ?_, hstp, ?_⟩
  · rw [hlen] at hj
    obtain ⟨r1, r2, r3⟩ := hrow j hj
    have hch : ∀ k, chkE ((setT es i t)[k]?.getD ent0) = chkE (es[k]?.getD ent0) := fun k => by
      by_cases e : k = i
      · subst e; rw [setT_at es k t hl]; rfl
      · rw [setT_other es i k t e]
    have htw : ∀ k k', twin ((setT es i t)[k]?.getD ent0) ((setT es i t)[k']?.getD ent0) = twin (es[k]?.getD ent0) (es[k']?.getD ent0) := fun k k' => by
      have hc : ∀ k, ((setT es i t)[k]?.getD ent0).client = (es[k]?.getD ent0).client ∧ ((setT es i t)[k]?.getD ent0).req = (es[k]?.getD ent0).req := fun k => by
        by_cases e : k = i
        · rw [e, setT_at es i t hl]; exact ⟨rfl, rfl⟩
        · rw [setT_other es i k t e]; exact ⟨rfl, rfl⟩
      unfold twin
      rw [(hc k).1, (hc k).2, (hc k').1, (hc k').2]
    refine ⟨by rw [hch]; exact r1, fun ⟨k, hk, e⟩ => r2 ⟨k, hk, by rw [← htw]; exact e⟩, ?_⟩
    rintro ⟨j0, j1, j2⟩
    by_cases e : j = i
    · subst e
      rw [setT_at es j t hl, setT_other es j (j - 1) t (by omega)] at j2
      have hn := hne (j - 1) (by omega)
      have hlst : lastT (tss es) = (es[j - 1]?.getD ent0).ts := by
        unfold lastT
        rw [hi, if_neg (by omega), tss_getD es (j - 1) (by omega)]
        rfl
      rw [hlst] at ht
      rcases j2 with j2 | j2
      · exact hn j2
      · have : t ≤ (es[j - 1]?.getD ent0).ts := j2
        omega
    · rw [setT_other es i j t e] at j1 j2
      by_cases e1 : j = i + 1
      · subst e1
        exact j1 (hz1 hj)
      · rw [setT_other es i (j - 1) t (by omega)] at j2
        exact r3 ⟨j0, j1, j2⟩
  · unfold lastT
    rw [hstp, if_neg (by omega), Nat.add_sub_cancel, tss_getD _ i (by rw [hlen]; omega), setT_at es i t hl]
    rfl
end Go.Proofs.Ytboiilbeioaneaa
