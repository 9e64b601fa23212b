/- The frames of a text, one behind the other: the plain law. -/
import Derived.Test.YtjjhbkmmkhkjnaaTurn
namespace Go.Proofs.Ytjjhbkmmkhkjnaa
open Go.RowKit Crc Law

abbrev Item := ByteArray × Int × Int
theorem next_ok (s : ByteArray) (i : Nat) (h : (nextR s i).2.2 = 0) : ∃ t : Nat, (nextR s i).2.1 = (t : Int) ∧ i + 5 ≤ t ∧ t ≤ s.size := by
  unfold nextR at h ⊢
  by_cases he : (getR (bl s) i).2.2 = 0
  · obtain ⟨a, n, m, hi, hr, ham, hml, hn⟩ := getR_ok (bl s) (bl_lt s) i he
    rw [bl_length] at hml
    rw [hr] at h ⊢
    simp only [ne_eq, not_true_eq_false, if_false, Int.toNat_natCast] at h ⊢
    by_cases h1 : 65536 < n
    · rw [if_pos h1] at h; cases h
    rw [if_neg h1] at h ⊢
    by_cases h2 : s.size - m < 4 + n
    · rw [if_pos h2] at h; cases h
    rw [if_neg h2] at h ⊢
    split at h
    · rename_i h3
      rw [if_pos h3]
      exact ⟨m + 4 + n, rfl, by omega, by omega⟩
    · cases h
  · rw [if_pos he] at h
    exact absurd h he

/-- What comes of a text from a place on, the last one maybe an error. -/
def items (s : ByteArray) : Nat → Nat → List Item
  | 0, _ => []
  | f + 1, i => if s.size ≤ i then [] else nextR s i :: (if (nextR s i).2.2 = 0 then items s f (nextR s i).2.1.toNat else [])
theorem items_done (s : ByteArray) (f i : Nat) (h : s.size ≤ i) : items s f i = [] := by
  cases f with
  | zero => rfl
  | succ f => simp only [items]; rw [if_pos h]
theorem items_more (s : ByteArray) (f i : Nat) (h : i < s.size) : items s (f + 1) i = nextR s i :: (if (nextR s i).2.2 = 0 then items s f (nextR s i).2.1.toNat else []) := by
  simp only [items]; rw [if_neg (by omega)]
theorem items_length (s : ByteArray) (f i : Nat) : (items s f i).length ≤ s.size - i := by
  induction f generalizing i with
  | zero => simp [items]
  | succ f ih =>
    by_cases h : s.size ≤ i
    · rw [items_done _ _ _ h]; simp
    · rw [items_more _ _ _ (by omega), List.length_cons]
      split
      · rename_i h0
        obtain ⟨t, ht, h1, h2⟩ := next_ok s i h0
        have := ih (nextR s i).2.1.toNat
        rw [ht, Int.toNat_natCast] at this ⊢
        omega
      · simp; omega
theorem items_last (s : ByteArray) (f i : Nat) (p : List Item) (x : Item) (r : List Item) (h : items s f i = p ++ x :: r) (hx : x.2.2 ≠ 0) : r = [] := by
  induction f generalizing i p with
  | zero => simp [items] at h
  | succ f ih =>
    by_cases hi : s.size ≤ i
    · rw [items_done _ _ _ hi] at h; simp at h
    · rw [items_more _ _ _ (by omega)] at h
      cases p with
      | nil =>
        simp only [List.nil_append, List.cons.injEq] at h
        obtain ⟨rfl, h2⟩ := h
        rw [if_neg hx] at h2
        exact h2.symm
      | cons y p =>
        simp only [List.cons_append, List.cons.injEq] at h
        obtain ⟨rfl, h2⟩ := h
        by_cases h0 : (nextR s i).2.2 = 0
        · rw [if_pos h0] at h2
          exact ih _ _ h2
        · rw [if_neg h0] at h2; simp at h2
def all (s : ByteArray) : List Item := items s (s.size + 1) 0
/-- Where the last of them ends. -/
def lastTo (l : List Item) : Int := (l.getLast?.map fun x => x.2.1).getD 0
theorem lastTo_snoc (l : List Item) (x : Item) : lastTo (l ++ [x]) = x.2.1 := by simp [lastTo]
/-- What All tells: the texts that are whole, where they end, why no more. -/
def AllRes (s : ByteArray) (ts : List ByteArray) (i e : Int) : Prop :=
  ∃ pre : List Item, (∀ x ∈ pre, x.2.2 = 0) ∧ ts = pre.map (·.1) ∧ i = lastTo pre ∧ ((all s = pre ∧ e = 0) ∨ (∃ x, all s = pre ++ [x] ∧ x.2.2 = e ∧ e ≠ 0))
theorem AllRes.one {s : ByteArray} {ts us : List ByteArray} {i e j d : Int} (h : AllRes s ts i e) (k : AllRes s us j d) : ts = us ∧ i = j ∧ e = d := by
  obtain ⟨p, hp, rfl, rfl, hc⟩ := h
  obtain ⟨q, hq, rfl, rfl, hd⟩ := k
  rcases hc with ⟨h1, rfl⟩ | ⟨x, h1, rfl, hx⟩ <;> rcases hd with ⟨h2, rfl⟩ | ⟨y, h2, rfl, hy⟩
  · rw [h1] at h2; subst h2; exact ⟨rfl, rfl, rfl⟩
  · rw [h1] at h2; subst h2; exact absurd (hp y (by simp)) hy
  · rw [h1] at h2; subst h2; exact absurd (hq x (by simp)) hx
  · rw [h1] at h2
    obtain ⟨e1, e2⟩ := List.append_inj' h2 rfl
    subst e1
    simp only [List.cons.injEq, and_true] at e2
    subst e2
    exact ⟨rfl, rfl, rfl⟩
end Go.Proofs.Ytjjhbkmmkhkjnaa
