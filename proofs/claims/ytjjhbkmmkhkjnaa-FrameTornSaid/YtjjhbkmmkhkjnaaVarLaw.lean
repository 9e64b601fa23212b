/- The plain law of numbers as bytes, without any program. -/
import Derived.Laws.BytesArg
import GoSem.Op.String
namespace Go.Proofs.Ytjjhbkmmkhkjnaa.Law

/-- How many bytes a number needs. -/
def nbF : Nat → Nat → Nat
  | 0, _ => 0
  | f + 1, n => if n / 256 = 0 then 1 else nbF f (n / 256) + 1
def nb (n : Nat) : Nat := nbF 8 n
/-- A number's bytes, so many, the highest first. -/
def be : Nat → Nat → List Nat
  | 0, _ => []
  | k + 1, n => be k (n / 256) ++ [n % 256]
/-- A number's bytes. -/
def putL (n : Nat) : List Nat := if n < 248 then [n] else (247 + nb n) :: be (nb n) n
def ints (l : List Nat) : List Int := l.map fun b : Nat => (b : Int)
/-- .. as a text. -/
def putS (n : Nat) : ByteArray := strOfNums (ints (putL n))
/-- The number of bytes, the highest first. -/
def bev (l : List Nat) : Nat := l.foldl (fun a b => a * 256 + b) 0

theorem nbF_pos (f n : Nat) (hf : 0 < f) : 1 ≤ nbF f n := by
  cases f with
  | zero => omega
  | succ f => simp only [nbF]; split <;> omega
theorem nbF_le (f n : Nat) (hf : 0 < f) (h : n < 256 ^ f) : nbF f n ≤ f := by
  induction f generalizing n with
  | zero => omega
  | succ f ih =>
    simp only [nbF]
    split
    · omega
    · rename_i h0
      have hn : n / 256 < 256 ^ f := by rw [Nat.pow_succ] at h; omega
      cases f with
      | zero => simp at hn; omega
      | succ f => have := ih (n / 256) (by omega) hn; omega
theorem nbF_lt (f n : Nat) (hf : 0 < f) (h : n < 256 ^ f) : n < 256 ^ nbF f n := by
  induction f generalizing n with
  | zero => omega
  | succ f ih =>
    simp only [nbF]
    split
    · omega
    · rename_i h0
      have hn : n / 256 < 256 ^ f := by rw [Nat.pow_succ] at h; omega
      cases f with
      | zero => simp at hn; omega
      | succ f =>
        have := ih (n / 256) (by omega) hn
        rw [Nat.pow_succ]
        omega
theorem nbF_ge (f n : Nat) (hf : 0 < f) (h : n < 256 ^ f) (h1 : 1 < nbF f n) : 256 ^ (nbF f n - 1) ≤ n := by
  induction f generalizing n with
  | zero => omega
  | succ f ih =>
    simp only [nbF] at h1 ⊢
    split
    · rename_i h0; rw [if_pos h0] at h1; omega
    · rename_i h0
      rw [if_neg h0] at h1
      have hn : n / 256 < 256 ^ f := by rw [Nat.pow_succ] at h; omega
      cases f with
      | zero => simp at hn; omega
      | succ f =>
        by_cases h2 : 1 < nbF (f + 1) (n / 256)
        · have := ih (n / 256) (by omega) hn h2
          rw [show nbF (f + 1) (n / 256) + 1 - 1 = (nbF (f + 1) (n / 256) - 1) + 1 by omega, Nat.pow_succ]
          omega
        · have := nbF_pos (f + 1) (n / 256) (by omega)
          rw [show nbF (f + 1) (n / 256) + 1 - 1 = 1 by omega]
          omega
theorem nb_bounds (n : Nat) (h : n < 18446744073709551616) : 1 ≤ nb n ∧ nb n ≤ 8 ∧ n < 256 ^ nb n ∧ (1 < nb n → 256 ^ (nb n - 1) ≤ n) :=
  ⟨nbF_pos 8 n (by omega), nbF_le 8 n (by omega) h, nbF_lt 8 n (by omega) h, nbF_ge 8 n (by omega) h⟩
theorem nb_unique (n k : Nat) (h : n < 18446744073709551616) (hk : 1 ≤ k) (h1 : n < 256 ^ k) (h2 : 1 < k → 256 ^ (k - 1) ≤ n) : nb n = k := by
  obtain ⟨a, b, c, d⟩ := nb_bounds n h
  rcases Nat.lt_trichotomy (nb n) k with hlt | he | hgt
  · have h3 := h2 (by omega)
    have : 256 ^ nb n ≤ 256 ^ (k - 1) := Nat.pow_le_pow_right (by omega) (by omega)
    omega
  · exact he
  · have h3 := d (by omega)
    have : 256 ^ k ≤ 256 ^ (nb n - 1) := Nat.pow_le_pow_right (by omega) (by omega)
    omega
theorem nb_mono (a b : Nat) (hb : b < 18446744073709551616) (h : a ≤ b) : nb a ≤ nb b := by
  obtain ⟨p1, p2, p3, p4⟩ := nb_bounds a (by omega)
  obtain ⟨q1, q2, q3, q4⟩ := nb_bounds b hb
  rcases Nat.lt_or_ge (nb b) (nb a) with hlt | hge
  · have h3 := p4 (by omega)
    have : 256 ^ nb b ≤ 256 ^ (nb a - 1) := Nat.pow_le_pow_right (by omega) (by omega)
    omega
  · exact hge

theorem be_length (k n : Nat) : (be k n).length = k := by
  induction k generalizing n with
  | zero => rfl
  | succ k ih => simp [be, ih]
theorem be_lt (k n : Nat) : ∀ b ∈ be k n, b < 256 := by
  induction k generalizing n with
  | zero => intro b hb; simp [be] at hb
  | succ k ih =>
    intro b hb
    simp only [be, List.mem_append, List.mem_singleton] at hb
    rcases hb with hb | rfl
    · exact ih _ b hb
    · exact Nat.mod_lt _ (by omega)
theorem be_cons (k n : Nat) : be (k + 1) n = (n / 256 ^ k % 256) :: be k n := by
  induction k generalizing n with
  | zero => simp [be]
  | succ k ih =>
    rw [be, ih, be, List.cons_append]
    congr 2
    rw [Nat.div_div_eq_div_mul, Nat.pow_succ, Nat.mul_comm]
theorem be_mod (k n : Nat) : be k (n % 256 ^ k) = be k n := by
  induction k generalizing n with
  | zero => rfl
  | succ k ih =>
    have h1 : n % 256 ^ (k + 1) / 256 = n / 256 % 256 ^ k := by
      rw [Nat.pow_succ, Nat.mul_comm]
      exact Nat.mod_mul_right_div_self n 256 (256 ^ k)
    have h2 : n % 256 ^ (k + 1) % 256 = n % 256 := by
      rw [Nat.pow_succ]
      exact Nat.mod_mul_left_mod n (256 ^ k) 256
    simp only [be]
    rw [h1, h2, ih]
theorem bev_snoc (l : List Nat) (b : Nat) : bev (l ++ [b]) = bev l * 256 + b := by simp [bev]
theorem bev_be (k n : Nat) : bev (be k n) = n % 256 ^ k := by
  induction k generalizing n with
  | zero => simp [be, bev, Nat.mod_one]
  | succ k ih =>
    simp only [be]
    rw [bev_snoc, ih]
    have h1 : n / 256 % 256 ^ k = n % 256 ^ (k + 1) / 256 := by
      rw [Nat.pow_succ, Nat.mul_comm]
      exact (Nat.mod_mul_right_div_self n 256 (256 ^ k)).symm
    have h2 : n % 256 ^ (k + 1) % 256 = n % 256 := by
      rw [Nat.pow_succ]
      exact Nat.mod_mul_left_mod n (256 ^ k) 256
    omega
theorem snoc_ind {p : List Nat → Prop} (h0 : p []) (h1 : ∀ l b, p l → p (l ++ [b])) (l : List Nat) : p l := by
  have h : ∀ r : List Nat, p r.reverse := by
    intro r
    induction r with
    | nil => exact h0
    | cons b r ih => rw [List.reverse_cons]; exact h1 _ _ ih
  have := h l.reverse
  rwa [List.reverse_reverse] at this
theorem be_bev (l : List Nat) (h : ∀ b ∈ l, b < 256) : be l.length (bev l) = l := by
  induction l using snoc_ind with
  | h0 => rfl
  | h1 l b ih =>
    have hb : b < 256 := h b (by simp)
    rw [bev_snoc, List.length_append, List.length_singleton]
    simp only [be]
    rw [show (bev l * 256 + b) / 256 = bev l by omega, show (bev l * 256 + b) % 256 = b by omega, ih (fun x hx => h x (by simp [hx]))]
theorem bev_lt (l : List Nat) (h : ∀ b ∈ l, b < 256) : bev l < 256 ^ l.length := by
  induction l using snoc_ind with
  | h0 => simp [bev]
  | h1 l b ih =>
    have hb : b < 256 := h b (by simp)
    have := ih (fun x hx => h x (by simp [hx]))
    rw [bev_snoc, List.length_append, List.length_singleton, Nat.pow_succ]
    omega
theorem putL_length (n : Nat) : (putL n).length = if n < 248 then 1 else 1 + nb n := by
  unfold putL
  split
  · rfl
  · simp [be_length]; omega
theorem putL_lt (n : Nat) (h : n < 18446744073709551616) : ∀ b ∈ putL n, b < 256 := by
  intro b hb
  unfold putL at hb
  split at hb
  · simp at hb; omega
  · rcases List.mem_cons.1 hb with rfl | hb
    · have := (nb_bounds n h).2.1; omega
    · exact be_lt _ _ b hb
theorem putS_size (n : Nat) : (putS n).size = (putL n).length := by
  unfold putS ints
  rw [strOfNums_size, List.length_map]

/-- Which of two rows of numbers stands ahead. -/
def lexL : List Nat → List Nat → Bool
  | _, [] => false
  | [], _ :: _ => true
  | a :: l, b :: r => if a < b then true else if b < a then false else lexL l r
theorem lex_be (k a b : Nat) (ha : a < 256 ^ k) (hb : b < 256 ^ k) : lexL (be k a) (be k b) = decide (a < b) := by
  induction k generalizing a b with
  | zero => simp at ha hb; subst ha; subst hb; simp [be, lexL]
  | succ k ih =>
    have hp : 0 < 256 ^ k := Nat.pow_pos (by omega)
    rw [be_cons, be_cons, ← be_mod k a, ← be_mod k b]
    have e1 : a / 256 ^ k < 256 := by rw [Nat.div_lt_iff_lt_mul hp, Nat.mul_comm, ← Nat.pow_succ]; exact ha
    have e2 : b / 256 ^ k < 256 := by rw [Nat.div_lt_iff_lt_mul hp, Nat.mul_comm, ← Nat.pow_succ]; exact hb
    rw [Nat.mod_eq_of_lt e1, Nat.mod_eq_of_lt e2]
    have m1 := Nat.mod_lt a hp
    have m2 := Nat.mod_lt b hp
    have d1 := Nat.div_add_mod a (256 ^ k)
    have d2 := Nat.div_add_mod b (256 ^ k)
    simp only [lexL]
    by_cases h1 : a / 256 ^ k < b / 256 ^ k
    · rw [if_pos h1]
      have h2 : 256 ^ k * (a / 256 ^ k + 1) ≤ 256 ^ k * (b / 256 ^ k) := Nat.mul_le_mul_left _ h1
      rw [Nat.mul_add, Nat.mul_one] at h2
      symm; simp; omega
    · rw [if_neg h1]
      by_cases h3 : b / 256 ^ k < a / 256 ^ k
      · rw [if_pos h3]
        have h2 : 256 ^ k * (b / 256 ^ k + 1) ≤ 256 ^ k * (a / 256 ^ k) := Nat.mul_le_mul_left _ h3
        rw [Nat.mul_add, Nat.mul_one] at h2
        symm; simp; omega
      · rw [if_neg h3, ih _ _ m1 m2]
        have h4 : a / 256 ^ k = b / 256 ^ k := by omega
        rw [h4] at d1
        rw [decide_eq_decide]
        omega
theorem lex_put (a b : Nat) (ha : a < 18446744073709551616) (hb : b < 18446744073709551616) : lexL (putL a) (putL b) = decide (a < b) := by
  obtain ⟨p1, p2, p3, p4⟩ := nb_bounds a ha
  obtain ⟨q1, q2, q3, q4⟩ := nb_bounds b hb
  unfold putL
  by_cases h1 : a < 248
  · rw [if_pos h1]
    by_cases h2 : b < 248
    · rw [if_pos h2]
      simp only [lexL]
      by_cases h3 : a < b
      · rw [if_pos h3]; simp [h3]
      · rw [if_neg h3]; split <;> simp [h3]
    · rw [if_neg h2]
      simp only [lexL]
      rw [if_pos (by omega)]
      symm; simp; omega
  · rw [if_neg h1]
    by_cases h2 : b < 248
    · rw [if_pos h2]
      simp only [lexL]
      rw [if_neg (by omega), if_pos (by omega)]
      symm; simp; omega
    · rw [if_neg h2]
      simp only [lexL]
      by_cases h3 : 247 + nb a < 247 + nb b
      · rw [if_pos h3]
        symm; simp only [decide_eq_true_eq]
        rcases Nat.lt_or_ge a b with h | h
        · exact h
        · have := nb_mono b a ha h; omega
      · rw [if_neg h3]
        by_cases h4 : 247 + nb b < 247 + nb a
        · rw [if_pos h4]
          symm; simp only [decide_eq_false_iff_not]
          intro h
          have := nb_mono a b hb (by omega)
          omega
        · rw [if_neg h4]
          have e : nb a = nb b := by omega
          rw [e] at p3 ⊢
          exact lex_be _ _ _ p3 q3
theorem putL_inj (a b : Nat) (ha : a < 18446744073709551616) (hb : b < 18446744073709551616) (h : putL a = putL b) : a = b := by
  have h1 := lex_put a b ha hb
  have h2 := lex_put b a hb ha
  rw [h] at h1 h2
  rw [h1] at h2
  rw [decide_eq_decide] at h2
  have h3 := lex_put b b hb hb
  rw [h1] at h3
  rw [decide_eq_decide] at h3
  omega

theorem ofNat_inj {a b : Nat} (ha : a < 256) (hb : b < 256) (h : UInt8.ofNat a = UInt8.ofNat b) : a = b := by
  have := congrArg UInt8.toNat h
  simpa [UInt8.toNat_ofNat', Nat.mod_eq_of_lt ha, Nat.mod_eq_of_lt hb] using this
theorem strOf_inj (l r : List Nat) (hl : ∀ b ∈ l, b < 256) (hr : ∀ b ∈ r, b < 256) (h : strOfNums (ints l) = strOfNums (ints r)) : l = r := by
  have h1 : (strOfNums (ints l)).data.toList = (strOfNums (ints r)).data.toList := by rw [h]
  rw [strOfNums_data, strOfNums_data] at h1
  unfold ints at h1
  rw [List.map_map, List.map_map] at h1
  clear h
  induction l generalizing r with
  | nil => cases r with
    | nil => rfl
    | cons b r => simp at h1
  | cons a l ih =>
    cases r with
    | nil => simp at h1
    | cons b r =>
      simp only [List.map_cons, List.cons.injEq] at h1
      have e := ofNat_inj (hl a (by simp)) (hr b (by simp)) (by simpa using h1.1)
      rw [e, ih r (fun x hx => hl x (by simp [hx])) (fun x hx => hr x (by simp [hx])) h1.2]
theorem putS_inj (a b : Nat) (ha : a < 18446744073709551616) (hb : b < 18446744073709551616) : putS a = putS b ↔ a = b :=
  ⟨fun h => putL_inj a b ha hb (strOf_inj _ _ (putL_lt a ha) (putL_lt b hb) h), fun h => by rw [h]⟩
end Go.Proofs.Ytjjhbkmmkhkjnaa.Law
