/- The walk of the reference's Put. -/
import Derived.Test.YtjjhbkmmkhkjnaaBackLaw
namespace Go.Proofs.Ytjjhbkmmkhkjnaa
open Go.RowKit Law

def Blk (w : World) (g : Nat) (t : TypeId) (cs : Array Value) : Prop := w.heap[g]? = some (.cells cs t (0, 0))
section
variable {w w' : World} {g : Nat} {t : TypeId} {cs : Array Value}
theorem Blk.lt (h : Blk w g t cs) : g < w.heap.size := by
  rcases Nat.lt_or_ge g w.heap.size with hlt | hge
  · exact hlt
  · unfold Blk at h; rw [Array.getElem?_eq_none hge] at h; cases h
theorem Blk.cell (h : Blk w g t cs) (i : Nat) : w.cell? ⟨g, i, none⟩ = cs[i]? := cell_of_row w g i cs t (0, 0) h
theorem Blk.frozen (h : Blk w g t cs) (i : Nat) : w.frozen? ⟨g, i, none⟩ = false := by
  unfold Blk at h
  simp [World.frozen?, h]
theorem Blk.new (w : World) (t : TypeId) (cs : Array Value) : Blk (w.alloc (.cells cs t)) w.heap.size t cs := heap_alloc_new w _
theorem Blk.set_ (h : Blk w g t cs) (i : Nat) (u : Value) : Blk (w.setCell ⟨g, i, none⟩ u) g t (cs.setIfInBounds i u) := by
  unfold Blk at h ⊢
  simp [World.setCell, Array.getElem?_modify, h]
end

/-- The row of bytes, the lowest k - i of them laid. -/
def bufL (k n i : Nat) : List Nat := (247 + k) :: (List.replicate i 0 ++ be (k - i) n)
def byteV (l : List Nat) : Array Value := (l.map fun b : Nat => Value.int .u8 (b : Int)).toArray
theorem byteV_set (l : List Nat) (i b : Nat) : (byteV l).setIfInBounds i (.int .u8 (b : Int)) = byteV (l.set i b) := by
  unfold byteV
  rw [List.setIfInBounds_toArray, List.map_set]
theorem bufL_step (k n i : Nat) (hi : i < k) : (bufL k n (i + 1)).set (i + 1) (n / 256 ^ (k - (i + 1)) % 256) = bufL k n i := by
  unfold bufL
  rw [List.set_cons_succ, List.replicate_succ', List.append_assoc, List.set_append_right _ _ (by simp)]
  rw [show k - i = k - (i + 1) + 1 by omega, be_cons]
  simp
theorem bufL_start (k n : Nat) : (0 :: List.replicate k 0).set 0 (247 + k) = bufL k n k := by unfold bufL; simp [be]
theorem bufL_end (n : Nat) (h : ¬ n < 248) : bufL (nb n) n 0 = putL n := by unfold bufL putL; rw [if_neg h]; simp
theorem bufL_length (k n i : Nat) (h : i ≤ k) : (bufL k n i).length = k + 1 := by unfold bufL; simp [be_length]; omega
theorem make_row (k : Nat) (h1 : 1 ≤ k) (h8 : k ≤ 8) (w : World) : (Instr.makeSlice 23 (.int .i64 ((k : Int) + 1)) (.int .i64 ((k : Int) + 1))).run Try.prog w = .ok (.slice (some ⟨w.heap.size, 0, none⟩) (k + 1) (k + 1)) (w.alloc (.cells (byteV (0 :: List.replicate k 0)) 5)) := by
  obtain rfl | rfl | rfl | rfl | rfl | rfl | rfl | rfl : k = 1 ∨ k = 2 ∨ k = 3 ∨ k = 4 ∨ k = 5 ∨ k = 6 ∨ k = 7 ∨ k = 8 := by omega
  all_goals kernel_rfl

set_option maxHeartbeats 1000000 in
set_option maxRecDepth 100000 in
theorem refPut_great (n : Nat) (w : World) (h : 248 ≤ n) (hn : n < 18446744073709551616) : Calls Try.prog 19 #[.int .u64 n] w fun e w' => e = .returned (.string (putS n)) ∧ Below w.heap.size w w' := by
  obtain ⟨b1, b2, _, _⟩ := nb_bounds n hn
  have HE := Lib.hid (bufL_end n (by omega))
  have HN := Lib.hid (fun w => refNeeds_any n w hn)
  have h248 : ¬ (n : Int) < 248 := by omega
  have HQ := Lib.hid hn
  have HPS := Lib.hid (show putS n = strOfNums (ints (putL n)) from rfl)
  generalize putS n = ps at *
  generalize nb n = k at *
  have hmk := make_row k b1 b2
  have HST := Lib.hid (bufL_start k n)
  go_enter Try.func19, Try.ntmps19
  go_wp2_with fail
  refine (HN.out _).mono ?_
  rintro e w1 ⟨rfl, rfl⟩
  have hk0 : (0 : Int) ≤ (k : Int) := by omega
  have hk1 : (247 + (k : Int)) % 256 = ((247 + k : Nat) : Int) := by omega
  have hb0 := Blk.new w 5 (byteV (0 :: List.replicate k 0))
  have hf0 := hb0.frozen 0
  have hc0 : (w.alloc (.cells (byteV (0 :: List.replicate k 0)) 5)).cell? ⟨w.heap.size, 0, none⟩ = some (.int .u8 0) := (hb0.cell 0).trans (by simp [byteV])
  have hb1 := hb0.set_ 0 (.int .u8 ((247 + k : Nat) : Int))
  rw [byteV_set, HST.out] at hb1
  have HB1 := Lib.hid hb1
  clear hb0 hb1
  have HB2 := Lib.hid (((Below.refl w.heap.size w).alloc (Nat.le_refl _) (.cells (byteV (0 :: List.replicate k 0)) 5)).setCell (p := ⟨w.heap.size, 0, none⟩) (Nat.le_refl _) (.int .u8 ((247 + k : Nat) : Int)))
  go_wp2
  go_loopw [0, 5] (fun x i wr => ∃ j : Nat, j ≤ k ∧ i = .int .i64 (j : Int) ∧ x = .int .u64 ((n / 256 ^ (k - j) : Nat) : Int) ∧ Blk wr w.heap.size 5 (byteV (bufL k n j)) ∧ Below w.heap.size w wr) (fun _ i _ => (intOf i).toNat)
  case atStart =>
    refine ⟨k, Nat.le_refl _, rfl, by simp, ?_, ?_⟩
    · have := Blk.new w 5 ((byteV (0 :: List.replicate k 0)).setIfInBounds 0 (.int .u8 ((247 + k : Nat) : Int)))
      rw [byteV_set, HST.out, ← HST.out, ← byteV_set] at this
      rw [← HST.out, ← byteV_set]
      exact this
    · exact (Below.refl w.heap.size w).alloc (Nat.le_refl _) _
  case round =>
    obtain ⟨j, hj, rfl, rfl, hblk, hB⟩ := hrel
    have K1 := Lib.hid hblk
    have K2 := Lib.hid hB
    clear hmk
    have hlen := bufL_length k n j hj
    by_cases hj0 : 0 < j
    · obtain ⟨i, rfl⟩ : ∃ i, j = i + 1 := ⟨j - 1, by omega⟩
      have hx : n / 256 ^ (k - (i + 1)) < 18446744073709551616 := Nat.lt_of_le_of_lt (Nat.div_le_self _ _) HQ.out
      have hdiv : n / 256 ^ (k - (i + 1)) / 256 = n / 256 ^ (k - i) := by rw [Nat.div_div_eq_div_mul, ← Nat.pow_succ]; congr 2; omega
      have HD := Lib.hid hdiv
      have HS := Lib.hid (bufL_step k n i (by omega))
      have hc : wr.cell? ⟨w.heap.size, i + 1, none⟩ = some (.int .u8 (((bufL k n (i + 1))[i + 1]?.getD 0 : Nat) : Int)) := by
        rw [hblk.cell]
        unfold byteV
        rw [List.getElem?_toArray, List.getElem?_map, List.getElem?_eq_getElem (by omega)]
        rfl
      have hf : wr.frozen? ⟨w.heap.size, i + 1, none⟩ = false := hblk.frozen _
      have hset := hblk.set_ (i + 1) (.int .u8 ((n / 256 ^ (k - (i + 1)) % 256 : Nat) : Int))
      rw [byteV_set, HS.out] at hset
      have HSET := Lib.hid hset
      have hB2 := hB.setCell (p := ⟨w.heap.size, i + 1, none⟩) (Nat.le_refl _) (.int .u8 ((n / 256 ^ (k - (i + 1)) % 256 : Nat) : Int))
      have HB3 := Lib.hid hB2
      clear hblk hB hset hB2 hdiv
      generalize n / 256 ^ (k - (i + 1)) = x at *
      have hx0 : (0 : Int) ≤ (x : Int) := Int.natCast_nonneg _
      have hi0 : (0 : Int) ≤ ((i + 1 : Nat) : Int) := by omega
      have hi1 : ((i + 1 : Nat) : Int) < ((k + 1 : Nat) : Int) := by omega
      go_wp2
      go_roundw
      case rel =>
        exact ⟨i, by omega, rfl, by rw [← HD.out]; rfl, HSET.out, HB3.out⟩
      case measure => simp [intOf]
    · obtain rfl : j = 0 := by omega
      rw [HE.out] at hblk hlen
      have hcs : ∀ i, (h : i < (putL n).length) → wr.cell? ⟨w.heap.size, 0 + i, none⟩ = some (.int .u8 ((putL n)[i] : Nat)) := fun i hi => by
        rw [Nat.zero_add, hblk.cell]
        unfold byteV
        rw [List.getElem?_toArray, List.getElem?_map, List.getElem?_eq_getElem hi]
        rfl
      have hconv := conv_row wr w.heap.size 0 (k + 1) (k + 1) (putL n) hlen hcs
      rw [← HPS.out] at hconv
      clear hcs hblk hlen hB
      generalize n / 256 ^ (k - 0) = x at *
      go_wp2
      go_ret
      exact ⟨rfl, K2.out⟩

set_option maxRecDepth 100000 in
theorem refPut_small (n : Nat) (w : World) (h : n < 248) : Calls Try.prog 19 #[.int .u64 n] w fun e w' => e = .returned (.string (putS n)) ∧ Below w.heap.size w w' := by
  have hp : putS n = strOfNums (ints [n]) := by unfold putS putL; rw [if_pos h]
  have hconv := conv_row (w.alloc (.cells #[.int .u8 n] 5)) w.heap.size 0 1 1 [n] rfl (fun i hi => by
    rw [World.cell?_alloc_at _ _ _ _ rfl]
    match i, hi with
    | 0, _ => rfl)
  rw [hp]
  clear hp
  go_enter Try.func19, Try.ntmps19
  go_wp2
  go_ret
  exact ⟨rfl, (Below.refl _ _).alloc (Nat.le_refl _) _⟩

theorem refPut_any (n : Nat) (w : World) (hn : n < 18446744073709551616) : Calls Try.prog 19 #[.int .u64 n] w fun e w' => e = .returned (.string (putS n)) ∧ Below w.heap.size w w' := by
  rcases Nat.lt_or_ge n 248 with h | h
  · exact refPut_small n w h
  · exact refPut_great n w h hn
end Go.Proofs.Ytjjhbkmmkhkjnaa
