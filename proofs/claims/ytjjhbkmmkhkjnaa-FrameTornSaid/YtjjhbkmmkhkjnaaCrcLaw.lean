/- The plain law of layer 3, without any program: a checksum of 32 bits as one linear map on numbers; what turned rows of bits and texts together do to it. -/
set_option linter.unusedSimpArgs false
namespace Go.Proofs.Ytjjhbkmmkhkjnaa.Crc

def poly : Nat := 3988292384
/-- One step. -/
def T (w : Nat) : Nat := if w % 2 = 1 then (w / 2) ^^^ poly else w / 2
def Tn : Nat → Nat → Nat
  | 0, w => w
  | n + 1, w => Tn n (T w)
/-- A text as one number, its first byte the lowest. -/
def val : List Nat → Nat
  | [] => 0
  | b :: r => b + 256 * val r
/-- A sum that goes on. -/
def crc (w : Nat) (bs : List Nat) : Nat := bs.foldl (fun w b => Tn 8 (w ^^^ b)) w
theorem crc_nil (w : Nat) : crc w [] = w := rfl
theorem crc_cons (w b : Nat) (r : List Nat) : crc w (b :: r) = crc (Tn 8 (w ^^^ b)) r := by unfold crc; rw [List.foldl_cons]

theorem T_xor (x y : Nat) : T (x ^^^ y) = T x ^^^ T y := by
  have hd : (x ^^^ y) / 2 = x / 2 ^^^ y / 2 := Nat.xor_div_two
  have hm : (x ^^^ y) % 2 = (x % 2 + y % 2) % 2 := by
    have h : (x ^^^ y) % 2 ^ 1 = (x % 2 ^ 1) ^^^ (y % 2 ^ 1) := Nat.xor_mod_two_pow
    rw [Nat.pow_one] at h
    rw [h]
    rcases Nat.mod_two_eq_zero_or_one x with hx | hx <;> rcases Nat.mod_two_eq_zero_or_one y with hy | hy <;> rw [hx, hy] <;> rfl
  unfold T
  rw [hd, hm]
  rcases Nat.mod_two_eq_zero_or_one x with hx | hx <;> rcases Nat.mod_two_eq_zero_or_one y with hy | hy <;> simp only [hx, hy]
  · rfl
  · simp [Nat.xor_assoc]
  · simp only [Nat.reduceAdd, Nat.reduceMod, if_true, if_false, Nat.zero_ne_one]
    rw [Nat.xor_assoc, Nat.xor_assoc, Nat.xor_comm poly]
  · simp only [Nat.reduceAdd, Nat.reduceMod, if_true, if_false, Nat.zero_ne_one]
    rw [Nat.xor_assoc, ← Nat.xor_assoc poly, Nat.xor_comm poly, Nat.xor_assoc (y / 2), Nat.xor_self, Nat.xor_zero]

theorem Tn_xor (n x y : Nat) : Tn n (x ^^^ y) = Tn n x ^^^ Tn n y := by
  induction n generalizing x y with
  | zero => rfl
  | succ n ih => simp only [Tn]; rw [T_xor, ih]
theorem Tn_add (a b w : Nat) : Tn (a + b) w = Tn b (Tn a w) := by
  induction a generalizing w with
  | zero => rw [Nat.zero_add]; rfl
  | succ a ih => rw [Nat.succ_add]; simp only [Tn]; exact ih _
theorem T_double (y : Nat) : T (2 * y) = y := by
  unfold T
  rw [if_neg (by omega)]
  omega
theorem Tn_shift (k y : Nat) : Tn k (2 ^ k * y) = y := by
  induction k with
  | zero => simp [Tn]
  | succ k ih =>
    rw [show 2 ^ (k + 1) * y = 2 * (2 ^ k * y) by rw [Nat.pow_succ]; rw [Nat.mul_comm (2 ^ k) 2, Nat.mul_assoc]]
    simp only [Tn]
    rw [T_double, ih]
theorem join' (n b v : Nat) (hb : b < 2 ^ n) : b + 2 ^ n * v = b ^^^ (2 ^ n * v) := by
  refine Nat.eq_of_testBit_eq fun i => ?_
  rw [Nat.add_comm, Nat.testBit_two_pow_mul_add v hb i, Nat.testBit_xor, Nat.testBit_two_pow_mul]
  by_cases hi : i < n
  · rw [if_pos hi]
    simp [show ¬ n ≤ i by omega]
  · rw [if_neg hi, Nat.testBit_lt_two_pow (show b < 2 ^ i from Nat.lt_of_lt_of_le hb (Nat.pow_le_pow_right (by omega) (by omega)))]
    simp [show n ≤ i by omega]
theorem join (b v : Nat) (hb : b < 256) : b + 256 * v = b ^^^ (256 * v) := join' 8 b v hb
theorem Tn_shift8 (y : Nat) : Tn 8 (256 * y) = y := Tn_shift 8 y

theorem step_eq (k m w b v : Nat) (hb : b < 2 ^ k) : Tn (k + m) (w ^^^ (b + 2 ^ k * v)) = Tn m (Tn k (w ^^^ b) ^^^ v) := by
  rw [join' k b v hb, ← Nat.xor_assoc, Tn_add, Tn_xor k (w ^^^ b), Tn_shift]
theorem Tn_zero (w : Nat) : Tn 0 w = w := rfl
theorem val_cons (b : Nat) (r : List Nat) : val (b :: r) = b + 2 ^ 8 * val r := by rw [val]
attribute [local irreducible] Tn
/-- THE SUM AS ONE MAP. -/
theorem crc_eq (bs : List Nat) (hb : ∀ b ∈ bs, b < 256) (w : Nat) : crc w bs = Tn (8 * bs.length) (w ^^^ val bs) := by
  induction bs generalizing w with
  | nil => rw [List.length_nil, Nat.mul_zero, Tn_zero, crc_nil, val, Nat.xor_zero]
  | cons b r ih =>
    have h1 : b < 256 := hb b (by simp)
    have h := ih (fun x hx => hb x (by simp [hx])) (Tn 8 (w ^^^ b))
    have h2 := step_eq 8 (8 * r.length) w b (val r) h1
    have e : 8 * (r.length + 1) = 8 + 8 * r.length := by omega
    rw [crc_cons, val_cons, h, List.length_cons, e, h2]

attribute [local semireducible] Tn
theorem poly_lt : poly < 2 ^ 32 := by decide
theorem T_pos (w : Nat) (h0 : 0 < w) (h : w < 2 ^ 32) : 0 < T w ∧ T w < 2 ^ 32 := by
  unfold T
  by_cases hm : w % 2 = 1
  · rw [if_pos hm]
    have h2 : w / 2 < 2 ^ 31 := by omega
    refine ⟨?_, Nat.xor_lt_two_pow (Nat.lt_of_lt_of_le h2 (by omega)) poly_lt⟩
    rcases Nat.eq_zero_or_pos ((w / 2) ^^^ poly) with h3 | h3
    · have h4 : w / 2 = poly := by
        have h5 : (w / 2 ^^^ poly) ^^^ poly = 0 ^^^ poly := by rw [h3]
        rwa [Nat.xor_assoc, Nat.xor_self, Nat.xor_zero, Nat.zero_xor] at h5
      have : poly = 3988292384 := rfl
      omega
    · exact h3
  · rw [if_neg hm]; omega
theorem Tn_pos (n w : Nat) (h0 : 0 < w) (h : w < 2 ^ 32) : 0 < Tn n w ∧ Tn n w < 2 ^ 32 := by
  induction n generalizing w with
  | zero => exact ⟨h0, h⟩
  | succ n ih => obtain ⟨h1, h2⟩ := T_pos w h0 h; exact ih _ h1 h2
theorem T_lt (w : Nat) (h : w < 2 ^ 32) : T w < 2 ^ 32 := by
  rcases Nat.eq_zero_or_pos w with h0 | h0
  · subst h0; decide
  · exact (T_pos w h0 h).2
theorem Tn_lt (n w : Nat) (h : w < 2 ^ 32) : Tn n w < 2 ^ 32 := by
  induction n generalizing w with
  | zero => exact h
  | succ n ih => exact ih _ (T_lt w h)
theorem crc_lt (bs : List Nat) (hb : ∀ b ∈ bs, b < 256) (w : Nat) (h : w < 2 ^ 32) : crc w bs < 2 ^ 32 := by
  induction bs generalizing w with
  | nil => exact h
  | cons b r ih =>
    have h1 : b < 256 := hb b (by simp)
    rw [crc_cons]
    exact ih (fun x hx => hb x (by simp [hx])) _ (Tn_lt _ _ (Nat.xor_lt_two_pow h (by omega)))
theorem crc_append (a b : List Nat) (w : Nat) : crc w (a ++ b) = crc (crc w a) b := by unfold crc; rw [List.foldl_append]

/-- A ROW OF AT MOST 32 BITS TURNED: another sum. -/
theorem burst (bs bs' : List Nat) (hb : ∀ b ∈ bs, b < 256) (hb' : ∀ b ∈ bs', b < 256) (hl : bs'.length = bs.length) (w f p : Nat) (hf : f < 8 * bs.length) (hp0 : 0 < p) (hp : p < 2 ^ 32)
    (hv : val bs' = val bs ^^^ (2 ^ f * p)) : crc w bs' ≠ crc w bs := by
  rw [crc_eq bs hb, crc_eq bs' hb', hl, hv, ← Nat.xor_assoc, Tn_xor _ (w ^^^ val bs)]
  have h1 : Tn (8 * bs.length) (2 ^ f * p) = Tn (8 * bs.length - f) p := by
    rw [show 8 * bs.length = f + (8 * bs.length - f) by omega, Tn_add, Tn_shift, show f + (8 * bs.length - f) - f = 8 * bs.length - f by omega]
  rw [h1]
  have h2 := (Tn_pos (8 * bs.length - f) p hp0 hp).1
  intro h
  have h3 : Tn (8 * bs.length) (w ^^^ val bs) ^^^ (Tn (8 * bs.length) (w ^^^ val bs) ^^^ Tn (8 * bs.length - f) p) = Tn (8 * bs.length) (w ^^^ val bs) ^^^ Tn (8 * bs.length) (w ^^^ val bs) := by rw [h]
  rw [← Nat.xor_assoc, Nat.xor_self, Nat.zero_xor] at h3
  omega

/-- One bit turned. -/
theorem val_flip (bs : List Nat) (hb : ∀ b ∈ bs, b < 256) (k : Nat) (hk : k / 8 < bs.length) : val (bs.set (k / 8) ((bs[k / 8]?.getD 0) ^^^ 2 ^ (k % 8))) = val bs ^^^ 2 ^ k := by
  induction bs generalizing k with
  | nil => simp at hk
  | cons b r ih =>
    have h1 : b < 256 := hb b (by simp)
    by_cases h8 : k < 8
    · have e0 : k / 8 = 0 := by omega
      have e1 : k % 8 = k := by omega
      have hx : b ^^^ 2 ^ k < 256 := Nat.xor_lt_two_pow (n := 8) h1 (Nat.pow_lt_pow_right (by omega) h8)
      rw [e0, e1]
      simp only [List.set_cons_zero, List.getElem?_cons_zero, Option.getD_some, val]
      rw [join _ _ hx, join _ _ h1, Nat.xor_assoc, Nat.xor_assoc, Nat.xor_comm (2 ^ k)]
    · have e0 : k / 8 = (k - 8) / 8 + 1 := by omega
      have e1 : k % 8 = (k - 8) % 8 := by omega
      have hlt : (k - 8) / 8 < r.length := by rw [e0] at hk; simpa using hk
      rw [e0, e1]
      simp only [List.set_cons_succ, List.getElem?_cons_succ, val]
      rw [ih (fun x hx => hb x (by simp [hx])) (k - 8) hlt, join _ _ h1, join _ _ h1, Nat.xor_assoc]
      congr 1
      have : 2 ^ k = 256 * 2 ^ (k - 8) := by rw [show (256 : Nat) = 2 ^ 8 from rfl, ← Nat.pow_add]; congr 1; omega
      rw [this, show (256 : Nat) = 2 ^ 8 from rfl, Nat.mul_comm (2 ^ 8), Nat.mul_comm (2 ^ 8), Nat.mul_comm (2 ^ 8), ← Nat.shiftLeft_eq, ← Nat.shiftLeft_eq, ← Nat.shiftLeft_eq, Nat.shiftLeft_xor_distrib]
theorem pow_more (f p i : Nat) : (2 ^ f * p) ^^^ 2 ^ (f + i) = 2 ^ f * (p ^^^ 2 ^ i) := by
  rw [Nat.pow_add, Nat.mul_comm (2 ^ f), Nat.mul_comm (2 ^ f), Nat.mul_comm (2 ^ f), ← Nat.shiftLeft_eq, ← Nat.shiftLeft_eq, ← Nat.shiftLeft_eq, Nat.shiftLeft_xor_distrib]

/-- A whole sum. -/
def sum (bs : List Nat) : Nat := 4294967295 ^^^ crc 4294967295 bs
theorem val_xor3 (a b c : List Nat) (n : Nat) (ha : a.length = n) (hb : b.length = n) (hc : c.length = n) (h1 : ∀ x ∈ a, x < 256) (h2 : ∀ x ∈ b, x < 256) (h3 : ∀ x ∈ c, x < 256) (x : List Nat) (hx : x.length = n)
    (h : ∀ i, i < n → x[i]?.getD 0 = a[i]?.getD 0 ^^^ b[i]?.getD 0 ^^^ c[i]?.getD 0) : val x = val a ^^^ val b ^^^ val c ∧ ∀ y ∈ x, y < 256 := by
  induction n generalizing a b c x with
  | zero =>
    obtain rfl := List.eq_nil_of_length_eq_zero ha
    obtain rfl := List.eq_nil_of_length_eq_zero hb
    obtain rfl := List.eq_nil_of_length_eq_zero hc
    obtain rfl := List.eq_nil_of_length_eq_zero hx
    exact ⟨rfl, by simp⟩
  | succ n ih =>
    match a, b, c, x, ha, hb, hc, hx with
    | a0 :: a, b0 :: b, c0 :: c, x0 :: x, ha, hb, hc, hx =>
      have k1 : a0 < 256 := h1 a0 (by simp)
      have k2 : b0 < 256 := h2 b0 (by simp)
      have k3 : c0 < 256 := h3 c0 (by simp)
      have h0 : x0 = a0 ^^^ b0 ^^^ c0 := by simpa using h 0 (by omega)
      have k4 : x0 < 256 := by rw [h0]; exact Nat.xor_lt_two_pow (n := 8) (Nat.xor_lt_two_pow (n := 8) k1 k2) k3
      obtain ⟨i1, i2⟩ := ih a b c (by simpa using ha) (by simpa using hb) (by simpa using hc) (fun y hy => h1 y (by simp [hy])) (fun y hy => h2 y (by simp [hy])) (fun y hy => h3 y (by simp [hy])) x (by simpa using hx)
        (fun i hi => by simpa using h (i + 1) (by omega))
      refine ⟨?_, fun y hy => ?_⟩
      · simp only [val]
        rw [i1, join _ _ k4, join _ _ k1, join _ _ k2, join _ _ k3, h0]
        have e : ∀ u v : Nat, 256 * (u ^^^ v) = (256 * u) ^^^ (256 * v) := fun u v => by
          rw [show (256 : Nat) = 2 ^ 8 from rfl, Nat.mul_comm (2 ^ 8), Nat.mul_comm (2 ^ 8), Nat.mul_comm (2 ^ 8), ← Nat.shiftLeft_eq, ← Nat.shiftLeft_eq, ← Nat.shiftLeft_eq, Nat.shiftLeft_xor_distrib]
        rw [e, e]
        ac_rfl
      · rcases List.mem_cons.1 hy with rfl | h'
        · exact k4
        · exact i2 y h'
/-- THREE TEXTS TOGETHER. -/
theorem sum_xor3 (a b c x : List Nat) (n : Nat) (ha : a.length = n) (hb : b.length = n) (hc : c.length = n) (hx : x.length = n) (h1 : ∀ y ∈ a, y < 256) (h2 : ∀ y ∈ b, y < 256) (h3 : ∀ y ∈ c, y < 256)
    (h : ∀ i, i < n → x[i]?.getD 0 = a[i]?.getD 0 ^^^ b[i]?.getD 0 ^^^ c[i]?.getD 0) : sum x = sum a ^^^ sum b ^^^ sum c := by
  obtain ⟨hv, hx'⟩ := val_xor3 a b c n ha hb hc h1 h2 h3 x hx h
  unfold sum
  rw [crc_eq x hx', crc_eq a h1, crc_eq b h2, crc_eq c h3, ha, hb, hc, hx, hv]
  generalize (4294967295 : Nat) = M
  generalize val a = A
  generalize val b = B
  generalize val c = C
  simp only [Tn_xor]
  generalize Tn (8 * n) M = t
  generalize Tn (8 * n) A = a'
  generalize Tn (8 * n) B = b'
  generalize Tn (8 * n) C = c'
  have e : (M ^^^ (t ^^^ a')) ^^^ (M ^^^ (t ^^^ b')) ^^^ (M ^^^ (t ^^^ c')) = ((M ^^^ M) ^^^ (t ^^^ t)) ^^^ (M ^^^ (t ^^^ (a' ^^^ b' ^^^ c'))) := by ac_rfl
  rw [e, Nat.xor_self, Nat.xor_self, Nat.zero_xor, Nat.zero_xor]

/-- Four steps of a word: by a table of sixteen. -/
theorem Tn4 (w : Nat) : Tn 4 w = (w / 16) ^^^ Tn 4 (w % 16) := by
  have h : w = (w % 16) ^^^ (16 * (w / 16)) := by
    have h1 := join' 4 (w % 16) (w / 16) (Nat.mod_lt _ (by decide))
    have h2 : w % 16 + 16 * (w / 16) = w := Nat.mod_add_div w 16
    exact h2.symm.trans h1
  have h3 : Tn 4 (16 * (w / 16)) = w / 16 := Tn_shift 4 _
  calc Tn 4 w = Tn 4 ((w % 16) ^^^ (16 * (w / 16))) := by rw [← h]
    _ = _ := by rw [Tn_xor, h3, Nat.xor_comm]
theorem Tn8 (w : Nat) : Tn 8 w = (w / 256) ^^^ Tn 8 (w % 256) := by
  have h : w = (w % 256) ^^^ (256 * (w / 256)) := by
    rw [← join _ _ (Nat.mod_lt _ (by decide))]; omega
  have h3 : Tn 8 (256 * (w / 256)) = w / 256 := Tn_shift 8 _
  calc Tn 8 w = Tn 8 ((w % 256) ^^^ (256 * (w / 256))) := by rw [← h]
    _ = _ := by rw [Tn_xor, h3, Nat.xor_comm]
end Go.Proofs.Ytjjhbkmmkhkjnaa.Crc
