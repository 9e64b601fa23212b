/- The plain law of torn frames: those that are whole are told, and that something is left. -/
import Derived.Test.YtjjhbkmmkhkjnaaTexts
namespace Go.Proofs.Ytjjhbkmmkhkjnaa
open Go.RowKit Crc Law

/-- Frames, one behind the other. -/
def fl (ss : List ByteArray) : List Nat := ss.flatMap fun s => bl (frameS s)
def catF (ss : List ByteArray) : ByteArray := ss.foldl (fun a s => a ++ frameS s) ByteArray.empty
theorem catF_snoc (ss : List ByteArray) (s : ByteArray) : catF (ss ++ [s]) = catF ss ++ frameS s := by unfold catF; rw [List.foldl_append]; rfl
theorem bl_empty : bl ByteArray.empty = [] := rfl
theorem bl_catF (ss : List ByteArray) : bl (catF ss) = fl ss := by
  suffices h : ∀ a, bl (ss.foldl (fun a s => a ++ frameS s) a) = bl a ++ fl ss by
    have := h ByteArray.empty
    rw [bl_empty, List.nil_append] at this
    exact this
  intro a
  induction ss generalizing a with
  | nil => simp [fl]
  | cons s r ih => rw [List.foldl_cons, ih, bl_append, List.append_assoc]; simp [fl]
theorem frame_pos (s : ByteArray) (h : s.size ≤ 500) : 5 ≤ (frameS s).size := by
  have h1 := frame_size s (by omega)
  have h2 := headL_length s (by omega)
  have h3 : 0 < (putS s.size).size := by rw [← putS_len s.size (by omega)]; exact putL_pos _
  omega
theorem frame_le (s : ByteArray) (h : s.size ≤ 500) : (frameS s).size ≤ 513 := by
  have h1 := frame_size s (by omega)
  have h2 := headL_length s (by omega)
  have h3 := putS_size s.size (by omega)
  omega
/-- Where the k-th ends. -/
def endAt (ss : List ByteArray) (k : Nat) : Nat := (catF (ss.take k)).size
theorem endAt_zero (ss : List ByteArray) : endAt ss 0 = 0 := rfl
theorem endAt_succ (ss : List ByteArray) (k : Nat) (h : k < ss.length) : endAt ss (k + 1) = endAt ss k + (frameS ss[k]).size := by
  unfold endAt
  rw [List.take_succ_eq_append_getElem h, catF_snoc, ByteArray.size_append]

theorem fl_cons (x : ByteArray) (r : List ByteArray) : fl (x :: r) = bl (frameS x) ++ fl r := by simp [fl]
theorem fl_append (a b : List ByteArray) : fl (a ++ b) = fl a ++ fl b := by unfold fl; rw [List.flatMap_append]
theorem endAt_le (ss : List ByteArray) (j d : Nat) (h : j + d ≤ ss.length) : endAt ss j ≤ endAt ss (j + d) := by
  induction d with
  | zero => exact Nat.le_refl _
  | succ d ih =>
    have h1 := ih (by omega)
    rw [show j + (d + 1) = (j + d) + 1 by omega, endAt_succ ss (j + d) (by omega)]
    omega

/-- A frame of which something is missing is short. -/
theorem next_short (A s P : ByteArray) (hs : s.size ≤ 500) (c : Nat) (h0 : 0 < c) (hc : c < (frameS s).size) (hP : bl P = (bl (frameS s)).take c) :
    nextR (A ++ P) (A.size : Nat) = (ByteArray.empty, 0, 2) := by
  have hbf := bl_frame s (by omega)
  have hhl := headL_length s (by omega)
  have hfz := frame_size s (by omega)
  have hb : bl (A ++ P) = bl A ++ (putL s.size ++ markL (sum (bl (putS s.size ++ s))) ++ bl s).take c := by rw [bl_append, hP, hbf]; rfl
  have hpz := putS_len s.size (by omega)
  have hPl : P.size = c := by rw [← bl_length, hP, List.length_take, bl_length]; omega
  have hz : (A ++ P).size = A.size + c := by rw [ByteArray.size_append, hPl]
  have hAl : (bl A).length = A.size := bl_length A
  by_cases hn : c < (putL s.size).length
  · -- the number itself is torn
    have hge : ¬ s.size < 248 := by
      intro h
      have : putL s.size = [s.size] := by unfold putL; rw [if_pos h]
      rw [this] at hn
      simp at hn
      omega
    have hput : putL s.size = (247 + nb s.size) :: be (nb s.size) s.size := by unfold putL; rw [if_neg hge]
    have hl : (putL s.size).length = nb s.size + 1 := by rw [hput]; simp [be_length]
    have hg : getR (bl (A ++ P)) (A.size : Nat) = (0, 0, 2) := by
      have hlen : (bl (A ++ P)).length = A.size + c := by rw [bl_length, hz]
      have hfirst : (bl (A ++ P))[A.size]?.getD 0 = 247 + nb s.size := by
        rw [hb, List.getElem?_append_right (by omega), hAl, Nat.sub_self, List.getElem?_take_of_lt h0, hput]
        rfl
      unfold getR
      rw [if_neg (by rw [hlen]; omega), if_neg (by rw [hlen]; omega), Int.toNat_natCast, hfirst, if_neg (by omega), if_pos (by rw [hlen]; omega)]
    unfold nextR
    rw [hg]
    rfl
  · -- the text is torn
    have hg : getR (bl (A ++ P)) (A.size : Nat) = (s.size, ((A.size + (putL s.size).length : Nat) : Int), 0) := by
      have : bl (A ++ P) = bl A ++ putL s.size ++ ((markL (sum (bl (putS s.size ++ s))) ++ bl s).take (c - (putL s.size).length)) := by
        rw [hb, List.append_assoc (putL s.size), List.take_append, List.take_of_length_le (by omega : (putL s.size).length ≤ c), List.append_assoc]
      rw [this, ← hAl]
      exact get_mid (bl A) _ s.size (by omega)
    unfold nextR
    rw [hg]
    simp only [ne_eq, not_true_eq_false, if_false, Int.toNat_natCast]
    rw [if_neg (by omega), if_pos (by rw [hz]; omega)]

/-- What All tells of frames that are torn at n. -/
theorem torn (ss : List ByteArray) (hs : ∀ s ∈ ss, s.size ≤ 500) (n m : Nat) (hm : m ≤ ss.length) (h1 : endAt ss m ≤ n) (h2 : m < ss.length → n < endAt ss (m + 1)) (h3 : n ≤ endAt ss ss.length) :
    AllRes ((catF ss).extract 0 n) (ss.take m) (endAt ss m : Nat) (if endAt ss m = n then 0 else 2) := by
  obtain ⟨Z, hZ⟩ : ∃ Z, (catF ss).extract 0 n = Z := ⟨_, rfl⟩
  have hS : (catF ss).size = endAt ss ss.length := by unfold endAt; rw [List.take_length]
  have hZs : Z.size = n := by rw [← hZ, ByteArray.size_extract]; omega
  have hbZ : bl Z = (bl (catF ss)).take n := by rw [← hZ, bl_take]
  rw [hZ]
  have mono : ∀ j, j < ss.length → endAt ss j + 5 ≤ endAt ss (j + 1) := fun j hj => by
    rw [endAt_succ ss j hj]
    have := frame_pos ss[j] (hs _ (List.getElem_mem hj))
    omega
  -- what stands ahead of a place
  have split : ∀ j, j ≤ ss.length → endAt ss j ≤ n → Z = catF (ss.take j) ++ Z.extract (endAt ss j) n := fun j hj hjn => by
    refine bl_inj _ _ ?_
    have hl : (bl (catF (ss.take j))).length = endAt ss j := bl_length _
    have hcat : bl (catF ss) = bl (catF (ss.take j)) ++ fl (ss.drop j) := by
      rw [bl_catF, bl_catF, ← fl_append, List.take_append_drop]
    rw [bl_append, bl_extract, hbZ, List.take_take, Nat.min_self, hcat, List.take_append, List.take_of_length_le (by omega : _ ≤ n), List.drop_left' hl]
  have step : ∀ j, (hj : j < m) → nextR Z (endAt ss j : Nat) = (ss[j], ((endAt ss (j + 1) : Nat) : Int), 0) := fun j hj => by
    have hjl : j < ss.length := by omega
    have hle : endAt ss (j + 1) ≤ n := by
      have := endAt_le ss (j + 1) (m - (j + 1)) (by omega)
      rw [show j + 1 + (m - (j + 1)) = m by omega] at this
      omega
    have hR := split (j + 1) (by omega) hle
    rw [List.take_succ_eq_append_getElem hjl, catF_snoc] at hR
    have := next_frame (catF (ss.take j)) ss[j] (Z.extract (endAt ss (j + 1)) n) (by have := hs _ (List.getElem_mem hjl); omega)
    rw [← hR] at this
    rw [endAt_succ ss j hjl]
    exact this
  have hits : ∀ d j f, m - j = d → j ≤ m → n - endAt ss j < f → ∃ pre : List Item, (∀ x ∈ pre, x.2.2 = 0) ∧ pre.map (·.1) = (ss.drop j).take (m - j) ∧ (pre = [] → j = m) ∧ (pre ≠ [] → lastTo pre = ((endAt ss m : Nat) : Int)) ∧
      items Z f (endAt ss j) = pre ++ (if endAt ss m = n then [] else [(ByteArray.empty, 0, 2)]) := by
    intro d
    induction d with
    | zero =>
      intro j f hd hj hf
      obtain rfl : j = m := by omega
      refine ⟨[], by simp, by simp, fun _ => rfl, fun h => absurd rfl h, ?_⟩
      by_cases he : endAt ss j = n
      · rw [if_pos he, items_done _ _ _ (by omega)]; rfl
      · rw [if_neg he]
        obtain ⟨f, rfl⟩ : ∃ g, f = g + 1 := ⟨f - 1, by omega⟩
        have hjl : j < ss.length := by
          rcases Nat.lt_or_ge j ss.length with h | h
          · exact h
          · obtain rfl : j = ss.length := by omega
            omega
        have hn2 := h2 hjl
        rw [endAt_succ ss j hjl] at hn2
        have hPb : bl (Z.extract (endAt ss j) n) = (bl (frameS ss[j])).take (n - endAt ss j) := by
          have hl : (bl (catF (ss.take j))).length = endAt ss j := bl_length _
          have hcat : bl (catF ss) = bl (catF (ss.take j)) ++ (bl (frameS ss[j]) ++ fl (ss.drop (j + 1))) := by
            rw [bl_catF, bl_catF]
            conv => lhs; rw [← List.take_append_drop j ss, fl_append, List.drop_eq_getElem_cons hjl, fl_cons]
          have hfl : (bl (frameS ss[j])).length = (frameS ss[j]).size := bl_length _
          rw [bl_extract, hbZ, List.take_take, Nat.min_self, hcat, List.take_append, List.take_of_length_le (by omega : _ ≤ n), List.drop_left' hl, hl, List.take_append_of_le_length (by omega)]
        have hZ2 := split j (by omega) h1
        have hsh := next_short (catF (ss.take j)) ss[j] _ (hs _ (List.getElem_mem hjl)) (n - endAt ss j) (by omega) (by omega) hPb
        rw [← hZ2] at hsh
        rw [items_more _ _ _ (by omega), show nextR Z (endAt ss j : Nat) = (ByteArray.empty, 0, 2) from hsh]
        rfl
    | succ d ih =>
      intro j f hd hj hf
      have hjm : j < m := by omega
      obtain ⟨f, rfl⟩ : ∃ g, f = g + 1 := ⟨f - 1, by omega⟩
      have hjl : j < ss.length := by omega
      have hmo := mono j hjl
      have hlt : endAt ss j < n := by
        have : endAt ss j < endAt ss m := by
          have := endAt_le ss (j + 1) (m - (j + 1)) (by omega)
          rw [show j + 1 + (m - (j + 1)) = m by omega] at this
          omega
        omega
      obtain ⟨pre, p1, p2, p3, p4, p5⟩ := ih (j + 1) f (by omega) (by omega) (by omega)
      have hst := step j hjm
      refine ⟨(ss[j], ((endAt ss (j + 1) : Nat) : Int), 0) :: pre, fun x hx => ?_, ?_, fun h => (by cases h), fun _ => ?_, ?_⟩
      · rcases List.mem_cons.1 hx with rfl | hx
        · rfl
        · exact p1 x hx
      · rw [List.map_cons, p2, List.drop_eq_getElem_cons hjl, show m - j = (m - (j + 1)) + 1 by omega, List.take_succ_cons]
      · by_cases hp : pre = []
        · subst hp
          rw [← p3 rfl]
          rfl
        · rw [← p4 hp]
          simp [lastTo, List.getLast?_cons, List.getLast?_eq_some_getLast hp]
      · rw [items_more _ _ _ (by omega), hst]
        simp only [if_true, Int.toNat_natCast]
        rw [p5]; rfl
  obtain ⟨pre, p1, p2, p3, p4, p5⟩ := hits m 0 (Z.size + 1) (by omega) (Nat.zero_le _) (by rw [endAt_zero]; omega)
  have hall : all Z = pre ++ (if endAt ss m = n then [] else [(ByteArray.empty, 0, 2)]) := p5
  refine ⟨pre, p1, by rw [p2]; simp, ?_, ?_⟩
  · by_cases hp : pre = []
    · rw [← p3 hp, hp]; rfl
    · exact (p4 hp).symm
  · by_cases he : endAt ss m = n
    · rw [if_pos he] at hall ⊢
      exact .inl ⟨by rw [hall]; simp, rfl⟩
    · rw [if_neg he] at hall ⊢
      exact .inr ⟨_, hall, rfl, by decide⟩
end Go.Proofs.Ytjjhbkmmkhkjnaa
