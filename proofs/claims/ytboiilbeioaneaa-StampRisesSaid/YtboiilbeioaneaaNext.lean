/- Timestamps that come: the plain law, and the walks of the two Next. -/
import Derived.Test.YtboiilbeioaneaaLast
namespace Go.Proofs.Ytboiilbeioaneaa
open Go.RowKit

/-- What comes behind a timestamp. -/
def nx (last floor : Nat) : Nat := if floor ≤ last + 1 then last + 1 else floor
theorem nx_gt (last floor : Nat) : last < nx last floor := by unfold nx; split <;> omega
theorem nx_lt (last floor : Nat) (h : last < 18446744073709551615) (hf : floor < 18446744073709551616) : nx last floor < 18446744073709551616 := by unfold nx; split <;> omega
/-- The last of them, or what was ahead. -/
def curL (last : Nat) (pre : List Nat) : Nat := pre.getLast?.getD last
theorem curL_nil (last : Nat) : curL last [] = last := rfl
theorem curL_snoc (last : Nat) (pre : List Nat) (x : Nat) : curL last (pre ++ [x]) = x := by simp [curL]
/-- They come one behind the other. -/
def Gen (last floor : Nat) (pre : List Nat) : Prop := ∀ p x r, pre = p ++ x :: r → curL last p < 18446744073709551615 ∧ x = nx (curL last p) floor
theorem Gen.nil (last floor : Nat) : Gen last floor [] := fun p x r h => by simp at h
theorem Gen.snoc {last floor : Nat} {pre : List Nat} (h : Gen last floor pre) (hc : curL last pre < 18446744073709551615) : Gen last floor (pre ++ [nx (curL last pre) floor]) := by
  intro p x r e
  rcases List.eq_nil_or_concat r with rfl | ⟨r', y, rfl⟩
  · obtain ⟨e1, e2⟩ := List.append_inj' e rfl
    subst e1
    simp at e2
    exact ⟨hc, e2.symm⟩
  · rw [List.concat_eq_append, ← List.cons_append, ← List.append_assoc] at e
    obtain ⟨e1, _⟩ := List.append_inj' e rfl
    exact h p x r' e1
theorem Gen.lt {last floor : Nat} {pre : List Nat} (h : Gen last floor pre) (hl : last < 18446744073709551616) (hf : floor < 18446744073709551616) : curL last pre < 18446744073709551616 := by
  rcases List.eq_nil_or_concat pre with rfl | ⟨p, x, rfl⟩
  · exact hl
  · rw [List.concat_eq_append] at h ⊢
    rw [curL_snoc]
    obtain ⟨h1, h2⟩ := h p x [] rfl
    rw [h2]
    exact nx_lt _ _ h1 hf
theorem Gen.same {last floor : Nat} {a b : List Nat} (ha : Gen last floor a) (hb : Gen last floor b) (h : a.length = b.length) : a = b := by
  suffices H : ∀ k, k ≤ a.length → a.take k = b.take k by
    have := H a.length (Nat.le_refl _)
    rwa [List.take_length, h, List.take_length] at this
  intro k
  induction k with
  | zero => intro _; rfl
  | succ k ih =>
    intro hk
    have hka : k < a.length := by omega
    have hkb : k < b.length := by omega
    have e := ih (by omega)
    rw [List.take_succ_eq_append_getElem hka, List.take_succ_eq_append_getElem hkb, e]
    have sa : a = a.take k ++ a[k] :: a.drop (k + 1) := by rw [← List.drop_eq_getElem_cons hka, List.take_append_drop]
    have sb : b = b.take k ++ b[k] :: b.drop (k + 1) := by rw [← List.drop_eq_getElem_cons hkb, List.take_append_drop]
    rw [(ha _ _ _ sa).2, (hb _ _ _ sb).2, e]
theorem Gen.take {last floor : Nat} {a : List Nat} (h : Gen last floor a) (k : Nat) : Gen last floor (a.take k) := by
  intro p x r e
  refine h p x (r ++ a.drop k) ?_
  conv => lhs; rw [← List.take_append_drop k a, e]
  simp
/-- Which timestamps a log is given: from place i0 on, below lim. -/
def NoteRes (i0 : Nat) (lim : Int) (last floor : Nat) (ts : List Nat) : Prop :=
  Gen last floor ts ∧ (lim ≤ i0 → ts = []) ∧ ((i0 : Int) < lim → (i0 : Int) + ts.length ≤ lim ∧ ((i0 : Int) + ts.length = lim ∨ curL last ts = 18446744073709551615))
theorem NoteRes.one {i0 : Nat} {lim : Int} {last floor : Nat} {a b : List Nat} (ha : NoteRes i0 lim last floor a) (hb : NoteRes i0 lim last floor b) : a = b := by
  by_cases h : lim ≤ i0
  · rw [ha.2.1 h, hb.2.1 h]
  · obtain ⟨a1, a2⟩ := ha.2.2 (by omega)
    obtain ⟨b1, b2⟩ := hb.2.2 (by omega)
    have key : ∀ {c d : List Nat}, Gen last floor c → Gen last floor d → (i0 : Int) + d.length ≤ lim → ((i0 : Int) + c.length = lim ∨ curL last c = 18446744073709551615) → ¬ c.length < d.length := by
      intro c d hc hd hdl hs hlt
      rcases hs with h1 | h1
      · omega
      · have e : c = d.take c.length := hc.same (hd.take _) (by rw [List.length_take]; omega)
        have sd : d = d.take c.length ++ d[c.length] :: d.drop (c.length + 1) := by rw [← List.drop_eq_getElem_cons hlt, List.take_append_drop]
        have := (hd _ _ _ sd).1
        rw [← e] at this
        omega
    have k1 := key ha.1 hb.1 b1 a2
    have k2 := key hb.1 ha.1 a1 b2
    exact ha.1.same hb.1 (by omega)

/-- What Next tells. -/
def nxE (last floor : Nat) : Ending := if last = 18446744073709551615 then .returned (.tuple #[.int .u64 0, .int .i64 16]) else .returned (.tuple #[.int .u64 ((nx last floor : Nat) : Int), .int .i64 0])
set_option maxRecDepth 100000 in
theorem next_any (last floor : Nat) (w : World) (h : last < 18446744073709551616) (_hf : floor < 18446744073709551616) :
    Calls Try.prog 7 #[.int .u64 last, .int .u64 floor] w fun e w' => e = nxE last floor ∧ w = w' := by
  unfold nxE
  by_cases hl : last = 18446744073709551615
  · subst hl
    rw [if_pos rfl]
    go_enter Try.func7, Try.ntmps7
    go_wp2
    go_ret2
    exact ⟨rfl, rfl⟩
  · rw [if_neg hl]
    have hd : ((last : Int) == 18446744073709551615) = false := by simp; omega
    have hw : IntKind.wrap .u64 ((last : Int) + 1) = (last : Int) + 1 := IntWalk.u64_in _ (by omega)
    unfold nx
    by_cases hx : floor ≤ last + 1
    · rw [if_pos hx]
      go_enter Try.func7, Try.ntmps7
      go_wp2
      all_goals go_ret2
      all_goals first | exact ⟨by congr 5; omega, rfl⟩ | exact ⟨rfl, rfl⟩ | omega
    · rw [if_neg hx]
      go_enter Try.func7, Try.ntmps7
      go_wp2
      all_goals go_ret2
      all_goals first | exact ⟨rfl, rfl⟩ | exact ⟨by congr 5; omega, rfl⟩ | omega
end Go.Proofs.Ytboiilbeioaneaa
