/- The plain law of layer 26, without any program: what the least of a list and a horizon come to, and how they move. -/
namespace Go.Proofs.Ytmedkmlokkiefaa.Law

/-- The least of a first one and several more. -/
def low (f : Int) (zs : List Int) : Int := zs.foldl min f
/-- The least of a list; 0 of none. -/
def lst : List Int → Int
  | [] => 0
  | z :: r => low z r
/-- A horizon. -/
def hor (old : Int) (ms ps : List Int) : Int :=
  match ms with
  | [] => old
  | m :: r => max old (low (lst (m :: r) - min (lst (m :: r)) 2) ps)

theorem low_snoc (f : Int) (zs : List Int) (x : Int) : low f (zs ++ [x]) = min (low f zs) x := by simp [low]
theorem low_cons (f x : Int) (zs : List Int) : low f (x :: zs) = low (min f x) zs := rfl
theorem low_min (f g : Int) (zs : List Int) : low (min f g) zs = min f (low g zs) := by
  induction zs generalizing g with
  | nil => rfl
  | cons z r ih => rw [low_cons, low_cons, ← ih, show min (min f g) z = min f (min g z) by omega]
theorem low_le (f : Int) (zs : List Int) : low f zs ≤ f := by
  induction zs generalizing f with
  | nil => exact Int.le_refl _
  | cons z r ih => rw [low_cons]; exact Int.le_trans (ih _) (Int.min_le_left _ _)
theorem low_le_mem (f : Int) (zs : List Int) (x : Int) (hx : x ∈ zs) : low f zs ≤ x := by
  induction zs generalizing f with
  | nil => cases hx
  | cons z r ih =>
    rw [low_cons]
    rcases List.mem_cons.1 hx with rfl | h
    · exact Int.le_trans (low_le _ _) (Int.min_le_right _ _)
    · exact ih _ h
theorem le_low (b f : Int) (zs : List Int) (hf : b ≤ f) (h : ∀ x ∈ zs, b ≤ x) : b ≤ low f zs := by
  induction zs generalizing f with
  | nil => exact hf
  | cons z r ih =>
    rw [low_cons]
    exact ih _ (by have := h z (by simp); omega) (fun x hx => h x (by simp [hx]))
theorem low_take (f : Int) (zs : List Int) (k : Nat) (hk : k < zs.length) : low f (zs.take (k + 1)) = min (low f (zs.take k)) (zs[k]?.getD 0) := by
  rw [List.take_add_one, List.getElem?_eq_getElem hk]
  exact low_snoc _ _ _

theorem lst_le (zs : List Int) (x : Int) (hx : x ∈ zs) : lst zs ≤ x := by
  cases zs with
  | nil => cases hx
  | cons z r =>
    rcases List.mem_cons.1 hx with rfl | h
    · exact low_le _ _
    · exact low_le_mem _ _ _ h
theorem le_lst (b : Int) (zs : List Int) (hne : zs ≠ []) (h : ∀ x ∈ zs, b ≤ x) : b ≤ lst zs := by
  cases zs with
  | nil => exact absurd rfl hne
  | cons z r => exact le_low _ _ _ (h z (by simp)) (fun x hx => h x (by simp [hx]))
theorem low_mem (f : Int) (zs : List Int) : low f zs = f ∨ low f zs ∈ zs := by
  induction zs generalizing f with
  | nil => exact .inl rfl
  | cons z r ih =>
    rw [low_cons]
    rcases ih (min f z) with h | h
    · rw [h]
      by_cases hf : f ≤ z
      · left; omega
      · right; rw [show min f z = z by omega]; simp
    · right; simp [h]
theorem lst_mem (zs : List Int) (hne : zs ≠ []) : lst zs ∈ zs := by
  cases zs with
  | nil => exact absurd rfl hne
  | cons z r =>
    rcases low_mem z r with h | h
    · simp [lst, h]
    · simp [lst, h]

theorem hor_of_ne (old : Int) (ms ps : List Int) (h : ms ≠ []) : hor old ms ps = max old (low (lst ms - min (lst ms) 2) ps) := by
  cases ms with
  | nil => exact absurd rfl h
  | cons m r => rfl

theorem le_hor (old : Int) (ms ps : List Int) : old ≤ hor old ms ps := by
  cases ms with
  | nil => exact Int.le_refl _
  | cons m r => exact Int.le_max_left _ _
theorem hor_mark (old : Int) (ms ps : List Int) (m : Int) (hm : m ∈ ms) (h0 : ∀ x ∈ ms, 0 ≤ x) (h : m < hor old ms ps) : hor old ms ps = old := by
  have hne : ms ≠ [] := by rintro rfl; cases hm
  rw [hor_of_ne _ _ _ hne] at h ⊢
  have h1 := lst_le ms m hm
  have h2 := low_le (lst ms - min (lst ms) 2) ps
  have h3 := h0 _ (lst_mem ms hne)
  omega
theorem hor_pin (old : Int) (ms ps : List Int) (p : Int) (hp : p ∈ ps) (h : p < hor old ms ps) : hor old ms ps = old := by
  by_cases hne : ms = []
  · subst hne; rfl
  · rw [hor_of_ne _ _ _ hne] at h ⊢
    have h1 := low_le_mem (lst ms - min (lst ms) 2) ps p hp
    omega
/-- What a horizon hangs on: of the marks, their least one. -/
theorem hor_mono (old : Int) (ms ms' ps ps' : List Int) (hl : ms = [] ↔ ms' = []) (hm : lst ms ≤ lst ms') (h0 : 0 ≤ lst ms) (hp : ∀ x ∈ ps', x ∈ ps) : hor old ms ps ≤ hor old ms' ps' := by
  by_cases hne : ms = []
  · have hne' := hl.1 hne
    subst hne; subst hne'; exact Int.le_refl _
  · have hne' : ms' ≠ [] := fun h => hne (hl.2 h)
    rw [hor_of_ne _ _ _ hne, hor_of_ne _ _ _ hne']
    have h1 : low (lst ms - min (lst ms) 2) ps ≤ low (lst ms' - min (lst ms') 2) ps' :=
      le_low _ _ _ (by have := low_le (lst ms - min (lst ms) 2) ps; omega) (fun x hx => low_le_mem _ _ _ (hp x hx))
    omega
theorem lst_nonneg (ms : List Int) (h0 : ∀ x ∈ ms, 0 ≤ x) : 0 ≤ lst ms := by
  by_cases hne : ms = []
  · subst hne; exact Int.le_refl _
  · exact h0 _ (lst_mem ms hne)
theorem lst_reverse (ms : List Int) : lst ms.reverse = lst ms := by
  by_cases hne : ms = []
  · subst hne; rfl
  · have hr : ms.reverse ≠ [] := by simpa using hne
    have h1 := lst_le ms.reverse (lst ms) (by simpa using lst_mem ms hne)
    have h2 := lst_le ms (lst ms.reverse) (by simpa using lst_mem ms.reverse hr)
    omega
theorem hor_reverse (old : Int) (ms ps : List Int) : hor old ms.reverse ps = hor old ms ps := by
  by_cases hne : ms = []
  · subst hne; rfl
  · rw [hor_of_ne _ _ _ hne, hor_of_ne _ _ _ (by simpa using hne), lst_reverse]
theorem hor_again (old : Int) (ms ps : List Int) : hor (hor old ms ps) ms ps = hor old ms ps := by
  by_cases hne : ms = []
  · subst hne; rfl
  · rw [hor_of_ne _ _ _ hne, hor_of_ne _ _ _ hne]; omega
/-- Later marks, in another order, and fewer pins. -/
theorem hor_later (old : Int) (ms ps ps' : List Int) (g : Int → Int) (hg : ∀ x ∈ ms, x ≤ g x) (h0 : ∀ x ∈ ms, 0 ≤ x) (hp : ∀ x ∈ ps', x ∈ ps) :
    hor old ms ps ≤ hor old (ms.map g).reverse ps' := by
  rw [hor_reverse]
  refine hor_mono _ _ _ _ _ (by simp) ?_ (lst_nonneg _ h0) hp
  by_cases hne : ms = []
  · subst hne; exact Int.le_refl _
  · refine le_lst _ _ (by simpa using hne) ?_
    intro y hy
    obtain ⟨x, hx, rfl⟩ := List.mem_map.1 hy
    exact Int.le_trans (lst_le ms x hx) (hg x hx)
end Go.Proofs.Ytmedkmlokkiefaa.Law
