/- Rows of bytes whose bits are turned, and what becomes of a frame. -/
import Derived.Test.YtjjhbkmmkhkjnaaLimits
import Derived.Laws.IdiomStrings
namespace Go.Proofs.Ytjjhbkmmkhkjnaa
open Go.RowKit Crc Law

/-- A row of bytes that may be written. -/
structure Row (w : World) (g : Nat) (l : List Nat) : Prop where
  lt : g < w.heap.size
  cell : ∀ i, (h : i < l.length) → w.cell? ⟨g, i, none⟩ = some (.int .u8 (l[i] : Nat))
  free : ∀ i, i < l.length → w.frozen? ⟨g, i, none⟩ = false
theorem Row.below {w w' : World} {g : Nat} {l : List Nat} (h : Row w g l) (hb : Below w.heap.size w w') : Row w' g l :=
  ⟨Nat.lt_of_lt_of_le h.lt hb.size, fun i hi => (hb.cell (p := ⟨g, i, none⟩) h.lt).trans (h.cell i hi), fun i hi => (hb.frozen (p := ⟨g, i, none⟩) h.lt).trans (h.free i hi)⟩
theorem Row.drew {w : World} {g : Nat} {l : List Nat} (h : Row w g l) : Row w.drew g l := ⟨h.lt, h.cell, h.free⟩
theorem Row.set_ {w : World} {g : Nat} {l : List Nat} (h : Row w g l) (k v : Nat) (hk : k < l.length) : Row (w.setCell ⟨g, k, none⟩ (.int .u8 (v : Int))) g (l.set k v) := by
  refine ⟨by simpa [World.setCell] using h.lt, fun i hi => ?_, fun i hi => ?_⟩
  · have hi' : i < l.length := by simpa using hi
    by_cases hik : k = i
    · subst hik
      rw [World.cell?_setCell_same w _ _ (h.cell k hk)]
      simp
    · rw [World.cell?_setCell_other w _ _ _ (by intro e; injection e with _ e2 _; exact hik e2), h.cell i hi', List.getElem_set_ne hik]
  · rw [World.frozen?_setCell]
    exact h.free i (by simpa using hi)
theorem row_of (W : World) (g : Nat) (cs : Array Value) (lo hi : Nat) (l : List Nat) (h : W.heap[g]? = some (.cells cs 5 (lo, hi))) (hl : l.length ≤ lo) (hc : ∀ i, (hi : i < l.length) → cs[i]? = some (.int .u8 (l[i] : Nat))) : Row W g l := by
  refine ⟨?_, fun i hi => (cell_of_row W g i cs 5 _ h).trans (hc i hi), fun i hi => ?_⟩
  · rcases Nat.lt_or_ge g W.heap.size with hlt | hge
    · exact hlt
    · rw [Array.getElem?_eq_none hge] at h; cases h
  · simp [World.frozen?, h]
    omega
theorem bytes_conv (s : ByteArray) (w : World) : ∃ cap w', (convert 9 23 (.string s)).run Try.prog w = .ok (.slice (some ⟨w.heap.size, 0, none⟩) s.size cap) w' ∧ Row w' w.heap.size (bl s) ∧ Below w.heap.size w w' := by
  have e : s.data.size = s.size := rfl
  refine ⟨_, _, run_bytes_of_string w 9 23 5 s Try.underlying9 Try.underlying23 Try.underlying5, row_of _ _ _ _ _ _ (heap_alloc_new w.drew _) ?_ (fun i hi => ?_), (Below.refl _ _).drew.alloc (Nat.le_refl _) _⟩
  · rw [bl_length]; simp only [bytesRow, Array.size_append, Array.size_map, e]; omega
  · have hi' : i < s.data.size := by rw [bl_length] at hi; exact hi
    rw [bytesRow_at s _ i hi', bl_get s i hi']
    rfl
theorem row_conv {w : World} {g n cap : Nat} {l : List Nat} (h : Row w g l) (hl : l.length = n) : (convert 23 9 (.slice (some ⟨g, 0, none⟩) n cap)).run Try.prog w = .ok (.string (strOfNums (ints l))) w :=
  conv_row w g 0 n cap l hl (fun i hi => by rw [Nat.zero_add]; exact h.cell i hi)

/-- The row as far as its bits are turned. -/
structure Turned (s : ByteArray) (f i : Nat) (l : List Nat) (q : Nat) : Prop where
  len : l.length = s.size
  low : ∀ b ∈ l, b < 256
  val : val l = val (bl s) ^^^ (2 ^ f * q)
  lt : q < 2 ^ i
  odd : 0 < i → q % 2 = 1

theorem turn_none {s : ByteArray} {f k q : Nat} {l : List Nat} (h : Turned s f k l q) (h0 : ¬ k = 0) : Turned s f (k + 1) l q :=
  ⟨h.len, h.low, h.val, Nat.lt_trans h.lt (Nat.pow_lt_pow_right (by omega) (by omega)), fun _ => h.odd (by omega)⟩
theorem flip_lt (b k : Nat) (hb : b < 256) : b ^^^ 2 ^ (k % 8) < 256 := Nat.xor_lt_two_pow (n := 8) hb (Nat.pow_lt_pow_right (by omega) (by omega))
theorem turn_one {s : ByteArray} {f k q : Nat} {l : List Nat} (h : Turned s f k l q) (b : Nat) (hj : (f + k) / 8 < l.length) (hb : l[(f + k) / 8] = b) :
    Turned s f (k + 1) (l.set ((f + k) / 8) (b ^^^ 2 ^ ((f + k) % 8))) (q ^^^ 2 ^ k) := by
  have hbl : b < 256 := hb ▸ h.low _ (List.getElem_mem hj)
  refine ⟨by rw [List.length_set]; exact h.len, fun x hx => ?_, ?_, ?_, fun _ => ?_⟩
  · rcases List.mem_or_eq_of_mem_set hx with hx | rfl
    · exact h.low x hx
    · exact flip_lt b _ hbl
  · have := val_flip l h.low (f + k) hj
    rw [List.getElem?_eq_getElem hj, hb, Option.getD_some] at this
    rw [this, h.val, Nat.xor_assoc, pow_more]
  · exact Nat.xor_lt_two_pow (Nat.lt_trans h.lt (Nat.pow_lt_pow_right (by omega) (by omega))) (Nat.pow_lt_pow_right (by omega) (by omega))
  · have hx : (q ^^^ 2 ^ k) % 2 = (q % 2 ^^^ 2 ^ k % 2) := Nat.xor_mod_two_pow (n := 1)
    rw [hx]
    by_cases h0 : k = 0
    · subst h0
      have hq : q = 0 := by have := h.lt; omega
      subst hq
      rfl
    · rw [h.odd (by omega), show 2 ^ k % 2 = 0 by rw [show k = (k - 1) + 1 by omega, Nat.pow_succ]; omega]
      rfl
theorem turned_crc {s : ByteArray} {f k q : Nat} {l : List Nat} (x : Nat) (h : Turned s f k l q) (h0 : 0 < k) (h32 : k ≤ 32) (hf : f < 8 * s.size) : crc x l ≠ crc x (bl s) := by
  have hq : 0 < q := by have := h.odd h0; omega
  have hq2 : q < 2 ^ 32 := Nat.lt_of_lt_of_le h.lt (Nat.pow_le_pow_right (by omega) h32)
  exact burst (bl s) l (bl_lt s) h.low (by rw [h.len, bl_length]) x f q (by rw [bl_length]; exact hf) hq hq2 h.val
theorem flip_bits (b m : Nat) (hb : b < 256) : bits .xor .u8 (b : Int) (2 ^ (m % 8) % 256) = ((b ^^^ 2 ^ (m % 8) : Nat) : Int) := by
  have hlt : 2 ^ (m % 8) < 256 := Nat.pow_lt_pow_right (a := 2) (n := 8) (m := m % 8) (by omega) (Nat.mod_lt _ (by omega))
  have e : ((2 : Int) ^ (m % 8) % 256) = ((2 ^ (m % 8) : Nat) : Int) := by
    rw [show ((2 : Int) ^ (m % 8)) = ((2 ^ (m % 8) : Nat) : Int) from (Int.natCast_pow 2 _).symm]
    generalize 2 ^ (m % 8) = t at *
    omega
  rw [e]
  exact u8_xor_nat b _ hb hlt


theorem sum_inj (a b : List Nat) (h : sum a = sum b) : crc 4294967295 a = crc 4294967295 b := by
  unfold sum at h
  have e : ∀ y : Nat, 4294967295 ^^^ (4294967295 ^^^ y) = y := fun y => by rw [← Nat.xor_assoc, Nat.xor_self, Nat.zero_xor]
  rw [← e (crc 4294967295 a), h, e]
/-- What stands ahead of a frame's text. -/
def headL (s : ByteArray) : List Nat := putL s.size ++ markL (sum (bl (putS s.size ++ s)))
theorem headL_lt (s : ByteArray) (h : s.size < 18446744073709551616) : ∀ b ∈ headL s, b < 256 := by
  intro b hb
  rcases List.mem_append.1 hb with hb | hb
  · exact putL_lt _ h b hb
  · exact markL_lt _ b hb
theorem bl_frame (s : ByteArray) (h : s.size < 18446744073709551616) : bl (frameS s) = headL s ++ bl s := by
  unfold frameS headL
  rw [bl_append, bl_append, bl_mark, bl_put _ h]
theorem headL_length (s : ByteArray) (h : s.size < 18446744073709551616) : (headL s).length = (putS s.size).size + 4 := by
  unfold headL
  rw [List.length_append, putS_len _ h]
  rfl
theorem frame_size (s : ByteArray) (h : s.size < 18446744073709551616) : (frameS s).size = (headL s).length + s.size := by
  rw [← bl_length, bl_frame s h, List.length_append, bl_length]
/-- A frame with other bits in its text is told to have another sum. -/
theorem turned_next {s : ByteArray} {f k q : Nat} {l : List Nat} (B : ByteArray) (h : Turned s f k l q) (h0 : 0 < k) (h32 : k ≤ 32) (hf : f < 8 * s.size) (hs : s.size ≤ 500) :
    nextR (strOfNums (ints (headL s ++ l)) ++ B) 0 = (⟨#[]⟩, 0, 9) := by
  have hl2 : ∀ b ∈ headL s ++ l, b < 256 := fun b hb => by
    rcases List.mem_append.1 hb with hb | hb
    · exact headL_lt s (by omega) b hb
    · exact h.low b hb
  have hbT : bl (strOfNums (ints l)) = l := bl_strOf _ h.low
  have e : strOfNums (ints (headL s ++ l)) = putS s.size ++ markS (sum (bl (putS s.size ++ s))) ++ strOfNums (ints l) := bl_inj _ _ (by
    rw [bl_strOf _ hl2, bl_append, bl_append, hbT, bl_mark, bl_put _ (by omega)]; rfl)
  have hT : (strOfNums (ints l)).size = s.size := by rw [← bl_length, hbT, h.len]
  have hn := next_at ByteArray.empty (strOfNums (ints l)) B s.size (sum (bl (putS s.size ++ s))) (by omega) hT
  rw [empty_app, ← e, if_neg] at hn
  · exact hn
  · intro he
    have h1 := mark_inj _ _ (sum_lt _ (bl_lt _)) (sum_lt _ (bl_lt _)) he
    have h2 := sum_inj _ _ h1
    rw [bl_append, bl_append, crc_append, crc_append, hbT] at h2
    exact turned_crc _ h h0 h32 hf h2.symm
end Go.Proofs.Ytjjhbkmmkhkjnaa
