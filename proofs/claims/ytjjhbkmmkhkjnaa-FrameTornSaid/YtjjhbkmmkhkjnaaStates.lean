/- A law of mine: a region that draws its order, walked by what holds at each set of operations that are done: each operation once. -/
import Derived.OrdersIn
import Derived.OwnWalkIn
namespace Go.Proofs.Ytjjhbkmmkhkjnaa
open Go

theorem count_less (l : List Bool) (i : Nat) (h : l[i]? = some false) : (l.set i true).count false + 1 = l.count false := by
  induction l generalizing i with
  | nil => simp at h
  | cons b r ih =>
    cases i with
    | zero =>
      simp only [List.getElem?_cons_zero, Option.some.injEq] at h
      subst h
      simp
    | succ i =>
      simp only [List.getElem?_cons_succ] at h
      have := ih i h
      simp only [List.set_cons_succ, List.count_cons]
      omega
theorem getD_false {listed : Array Bool} {i : Nat} (h : listed.getD i true = false) : listed.toList[i]? = some false := by
  by_cases hi : i < listed.size
  · simp [hi] at h ⊢
    exact h
  · simp [Array.getElem?_eq_none (by omega : listed.size ≤ i)] at h

theorem any_states {F : Fence} {n : Nat} {P : Program} {md : Region.Mode} {ops : Array Oper} {Q : Exit → Act → World → Prop} (St : Array Bool → Act → World → Prop)
    (hstep : ∀ listed a w, St listed a w → ∀ i, i ∈ Region.ready md ops listed → wpOpIn F n P ops Q i (St (listed.setIfInBounds i true)) a w)
    (hdone : ∀ listed a w, St listed a w → Region.ready md ops listed = [] → Q .normal a w) :
    ∀ fuel listed a w, St listed a w → listed.toList.count false ≤ fuel → wpAnyIn F n P md ops Q fuel listed a w := by
  intro fuel
  induction fuel with
  | zero =>
    intro listed a w hS hc
    have hr : Region.ready md ops listed = [] := by
      cases hl : Region.ready md ops listed with
      | nil => rfl
      | cons i r =>
        have h := count_less _ i (getD_false (mem_ready.1 (show i ∈ Region.ready md ops listed by rw [hl]; simp)).1)
        omega
    exact ⟨hr, hdone _ _ _ hS hr⟩
  | succ fuel ih =>
    intro listed a w hS hc
    refine ⟨hdone _ _ _ hS, fun i hi => wpOpIn_mono (fun a' w' h => ih _ a' w' h ?_) (hstep _ _ _ hS i hi)⟩
    have h := count_less _ i (getD_false (mem_ready.1 hi).1)
    rw [Array.toList_setIfInBounds]
    omega
end Go.Proofs.Ytjjhbkmmkhkjnaa
