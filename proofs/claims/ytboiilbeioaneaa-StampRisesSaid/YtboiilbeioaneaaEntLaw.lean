/- The plain law of entries, without any program: which is the first of several that is wrong, how many have timestamps, the last one's. -/
namespace Go.Proofs.Ytboiilbeioaneaa.Law

/-- The first one's that is not 0, of n. -/
def firstE : Nat → (Nat → Int) → Int
  | 0, _ => 0
  | n + 1, f => if firstE n f ≠ 0 then firstE n f else f n
theorem firstE_none (n : Nat) (f : Nat → Int) (h : ∀ j, j < n → f j = 0) : firstE n f = 0 := by
  induction n with
  | zero => rfl
  | succ n ih =>
    have e := ih (fun j hj => h j (by omega))
    simp only [firstE, e, ne_eq, not_true, if_false]
    exact h n (by omega)
theorem firstE_at (n : Nat) (f : Nat → Int) (k : Nat) (hk : k < n) (h : ∀ j, j < k → f j = 0) (hf : f k ≠ 0) : firstE n f = f k := by
  induction n with
  | zero => omega
  | succ n ih =>
    by_cases hkn : k < n
    · have e := ih hkn
      simp only [firstE, e, ne_eq, hf, not_false_eq_true, if_true]
    · obtain rfl : k = n := by omega
      simp only [firstE, firstE_none k f h, ne_eq, not_true, if_false]
theorem firstE_zero (n : Nat) (f : Nat → Int) (h : firstE n f = 0) : ∀ j, j < n → f j = 0 := by
  induction n with
  | zero => intro j hj; omega
  | succ n ih =>
    simp only [firstE] at h
    by_cases e : firstE n f = 0
    · rw [if_neg (by simpa using e)] at h
      intro j hj
      by_cases hjn : j < n
      · exact ih e j hjn
      · obtain rfl : j = n := by omega
        exact h
    · rw [if_pos e] at h; exact absurd h e

/-- How many have a timestamp, from the first on. -/
def stp : List Int → Nat
  | [] => 0
  | t :: r => if t = 0 then 0 else stp r + 1
theorem stp_le (ts : List Int) : stp ts ≤ ts.length := by
  induction ts with
  | nil => exact Nat.le_refl _
  | cons t r ih => simp only [stp]; split <;> simp <;> omega
theorem stp_at (ts : List Int) (k : Nat) (hk : k < ts.length) (h : ∀ j, (hj : j < k) → ts[j]'(by omega) ≠ 0) (h0 : ts[k] = 0) : stp ts = k := by
  induction ts generalizing k with
  | nil => simp at hk
  | cons t r ih =>
    cases k with
    | zero => simp only [stp]; rw [if_pos (by simpa using h0)]
    | succ k =>
      have ht : t ≠ 0 := by simpa using h 0 (by omega)
      simp only [stp]
      rw [if_neg ht, ih k (by simpa using hk) (fun j hj => by simpa using h (j + 1) (by omega)) (by simpa using h0)]
theorem stp_all (ts : List Int) (h : ∀ j, (hj : j < ts.length) → ts[j] ≠ 0) : stp ts = ts.length := by
  induction ts with
  | nil => rfl
  | cons t r ih =>
    have ht : t ≠ 0 := h 0 (by simp)
    simp only [stp]
    rw [if_neg ht, ih (fun j hj => h (j + 1) (by simpa using hj))]
    rfl
theorem stp_ne (ts : List Int) (j : Nat) (hj : j < stp ts) : ts[j]'(Nat.lt_of_lt_of_le hj (stp_le ts)) ≠ 0 := by
  induction ts generalizing j with
  | nil => simp [stp] at hj
  | cons t r ih =>
    by_cases ht : t = 0
    · simp [stp, ht] at hj
    · cases j with
      | zero => simpa using ht
      | succ j =>
        simp only [stp, if_neg ht] at hj
        simpa using ih j (by omega)
theorem stp_zero (ts : List Int) (h : stp ts < ts.length) : ts[stp ts] = 0 := by
  induction ts with
  | nil => simp at h
  | cons t r ih =>
    by_cases ht : t = 0
    · subst ht; simp [stp]
    · have e : stp (t :: r) = stp r + 1 := by simp [stp, ht]
      have hl : stp r < r.length := by rw [e] at h; simpa using h
      simp only [e, List.getElem_cons_succ]
      exact ih hl

/-- The last timestamp; 0: there is none. -/
def lastT (ts : List Int) : Int := if stp ts = 0 then 0 else ts[stp ts - 1]?.getD 0
/-- May each timestamp stand behind the one ahead? -/
def Rising (ts : List Int) : Prop := ∀ i, 0 < i → i < ts.length → ts[i]?.getD 0 ≠ 0 → ts[i - 1]?.getD 0 ≠ 0 ∧ ts[i - 1]?.getD 0 < ts[i]?.getD 0
/-- The timestamp of the n-th, of those that have one. -/
def markT (ts : List Int) (n : Int) : Int := if min n (stp ts : Int) < 1 then 0 else ts[(min n (stp ts : Int)).toNat - 1]?.getD 0

theorem rising_lt (ts : List Int) (h : Rising ts) (i j : Nat) (hij : i ≤ j) (hj : j < stp ts) : ts[i]?.getD 0 ≤ ts[j]?.getD 0 := by
  induction j with
  | zero => rw [show i = 0 by omega]; exact Int.le_refl _
  | succ j ih =>
    by_cases e : i = j + 1
    · subst e; exact Int.le_refl _
    · have hl := stp_le ts
      have hne : ts[j + 1]?.getD 0 ≠ 0 := by rw [List.getElem?_eq_getElem (by omega)]; exact stp_ne ts (j + 1) hj
      have h1 := (h (j + 1) (by omega) (by omega) hne).2
      have h2 := ih (by omega) (by omega)
      simp only [Nat.add_sub_cancel] at h1
      omega
/-- More that is stable: no earlier mark; none is later than the last one. -/
theorem mark_more (ts : List Int) (h : Rising ts) (h0 : ∀ x ∈ ts, 0 ≤ x) (a b : Int) (hab : a ≤ b) : markT ts a ≤ markT ts b := by
  have hl := stp_le ts
  unfold markT
  by_cases h1 : min a (stp ts : Int) < 1
  · rw [if_pos h1]
    by_cases h2 : min b (stp ts : Int) < 1
    · rw [if_pos h2]; exact Int.le_refl _
    · rw [if_neg h2, List.getElem?_eq_getElem (by omega)]
      exact h0 _ (List.getElem_mem _)
  · rw [if_neg h1, if_neg (by omega)]
    exact rising_lt ts h _ _ (by omega) (by omega)
theorem mark_last (ts : List Int) (h : Rising ts) (h0 : ∀ x ∈ ts, 0 ≤ x) (a : Int) : markT ts a ≤ lastT ts := by
  have hl := stp_le ts
  unfold markT lastT
  by_cases h1 : min a (stp ts : Int) < 1
  · rw [if_pos h1]
    split
    · exact Int.le_refl _
    · rw [List.getElem?_eq_getElem (by omega)]
      exact h0 _ (List.getElem_mem _)
  · rw [if_neg h1, if_neg (by omega)]
    exact rising_lt ts h _ _ (by omega) (by omega)
end Go.Proofs.Ytboiilbeioaneaa.Law
