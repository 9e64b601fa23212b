/- The walks of numbers as bytes: the program's Put. -/
import Derived.Test.YtjjhbkmmkhkjnaaVar
import Derived.Deep.AppendLies
namespace Go.Proofs.Ytjjhbkmmkhkjnaa
open Go.RowKit Law

theorem Try.infoU8 : (Try.prog.info? 5).map (fun i => (i.zero, i.size, i.bytes)) = some (some (.int .u8 0), 1, 1) := by kernel_rfl

/-- A row of bytes as a text. -/
theorem conv_row (W : World) (b off len cap : Nat) (l : List Nat) (hl : l.length = len) (hc : ∀ i, (h : i < l.length) → W.cell? ⟨b, off + i, none⟩ = some (.int .u8 (l[i] : Nat))) :
    (convert 23 9 (.slice (some ⟨b, off, none⟩) len cap)).run Try.prog W = .ok (.string (strOfNums (ints l))) W := by
  refine run_convert_bytes_arg W 23 5 Try.underlying23 Try.underlying5 b off len cap (ints l) (by simp [ints, hl]) (fun i hi => ?_) 9 Try.underlying9
  have h : i < l.length := by omega
  rw [hc i h]
  simp [ints, List.getD, h]

set_option maxRecDepth 100000 in
theorem put_small (n : Nat) (w : World) (h : n < 248) : Calls Try.prog 15 #[.int .u64 n] w fun e w' => e = .returned (.string (putS n)) ∧ Below w.heap.size w w' := by
  have hp : putS n = strOfNums (ints [n]) := by unfold putS putL; rw [if_pos h]
  have hconv := conv_row (w.alloc (.cells #[.int .u8 n] 5)) w.heap.size 0 1 1 [n] rfl (fun i hi => by
    rw [World.cell?_alloc_at _ _ _ _ rfl]
    match i, hi with
    | 0, _ => rfl)
  rw [hp]
  clear hp
  go_enter Try.func15, Try.ntmps15
  go_wp2
  go_ret
  exact ⟨rfl, (Below.refl _ _).alloc (Nat.le_refl _) _⟩

theorem shr_byte (n m : Nat) : (n : Int) / 2 ^ (8 * m) % 256 = ((n / 256 ^ m % 256 : Nat) : Int) := by
  have e : (2 : Int) ^ (8 * m) = ((256 ^ m : Nat) : Int) := by rw [Int.pow_mul]; simp
  rw [e, Int.natCast_emod, Int.natCast_ediv]
  rfl
/-- The first byte, and the first of the others. -/
def pv (n k j : Nat) : List Value := ((247 + k) :: be j (n / 256 ^ (k - j))).map fun b : Nat => .int .u8 (b : Int)
theorem pv_step (n k j : Nat) (hj : j < k) : pv n k j ++ [.int .u8 ((n / 256 ^ (k - 1 - j) % 256 : Nat) : Int)] = pv n k (j + 1) := by
  unfold pv
  have e : n / 256 ^ (k - j) = n / 256 ^ (k - 1 - j) / 256 := by rw [Nat.div_div_eq_div_mul, ← Nat.pow_succ]; congr 2; omega
  rw [show k - (j + 1) = k - 1 - j by omega, e]
  simp [be]

set_option maxHeartbeats 400000 in
set_option maxRecDepth 100000 in
theorem put_great (n : Nat) (w : World) (h : 248 ≤ n) (hn : n < 18446744073709551616) : Calls Try.prog 15 #[.int .u64 n] w fun e w' => e = .returned (.string (putS n)) ∧ Below w.heap.size w w' := by
  obtain ⟨i0, hi, hz0, hz1, hz2⟩ := info_parts Try.infoU8
  obtain ⟨b1, b2, _, _⟩ := nb_bounds n hn
  have hmk : ∀ w, (Instr.makeSlice 23 (.int .i64 0) (.int .i64 9)).run Try.prog w = .ok (.slice (some ⟨w.heap.size, 0, none⟩) 0 9) (w.alloc (.cells #[.int .u8 0, .int .u8 0, .int .u8 0, .int .u8 0, .int .u8 0, .int .u8 0, .int .u8 0, .int .u8 0, .int .u8 0] 5)) := fun _ => by kernel_rfl
  have C := needs_any n w hn
  have hp : putS n = strOfNums (ints ((247 + nb n) :: be (nb n) n)) := by unfold putS putL; rw [if_neg (by omega)]
  rw [hp]
  clear hp
  generalize nb n = k at *
  have HC := Lib.hid C
  clear C
  go_enter Try.func15, Try.ntmps15
  go_wp2_with fail
  refine HC.out.mono ?_
  rintro e w1 ⟨rfl, rfl⟩
  have hown := World.ownsRow_made (base := w.heap.size) (e := 5) (size := 1) w #[.int .u8 0, .int .u8 0, .int .u8 0, .int .u8 0, .int .u8 0, .int .u8 0, .int .u8 0, .int .u8 0, .int .u8 0] 9 (Nat.le_refl _) (by simp [maxLen]) rfl
  go_wp2_with fail
  have hown1 : ((w.alloc (.cells #[.int .u8 (247 + (k : Int)), .int .u8 0, .int .u8 0, .int .u8 0, .int .u8 0, .int .u8 0, .int .u8 0, .int .u8 0, .int .u8 0] 5)).alloc (.cells #[.int .u8 (247 + (k : Int))] 5)).ownsRow w.heap.size 5 1 (.slice (some ⟨w.heap.size, 0, none⟩) 1 9) (1 + 0) (pv n k 0) :=
    World.ownsRow.alloc ⟨by simp [pv, be], .inr ⟨w.heap.size, 9, _, rfl, Nat.le_refl _, heap_alloc_new w _, by omega, by simp [maxLen], rfl, by simp [pv, be]⟩⟩ _
  go_loopw [4, 22] (fun v i wr => ∃ j : Nat, j ≤ k ∧ i = .int .i64 (j : Int) ∧ wr.ownsRow w.heap.size 5 1 v (1 + j) (pv n k j) ∧ Below w.heap.size w wr) (fun _ i _ => k - (intOf i).toNat)
  case atStart => exact ⟨0, Nat.zero_le _, rfl, hown1, ((Below.refl _ _).alloc (Nat.le_refl _) _).alloc (by simp) _⟩
  case round =>
    obtain ⟨j, hj, rfl, hrow, hB⟩ := hrel
    clear hown hown1 hmk
    by_cases hlt : j < k
    · have hx : (n : Int) / 2 ^ (8 * (k - 1 - j)) % 256 = ((n / 256 ^ (k - 1 - j) % 256 : Nat) : Int) := by
        exact shr_byte n (k - 1 - j)
      have HX := Lib.hid hx
      have hBs := hB.size
      clear hx
      go_wp2_with (at_builtin; go_must (refine wpList_append_own_at _ rfl _ _ 23 rfl w.heap.size 5 i0 (.int .u8 0) 1 1 Try.underlying23 hi hz0 hz1 hz2 rfl (by decide) _ _ _ rfl (hrow.alloc _) ⟨wr.heap.size, 0, none⟩ 1 1 [.int .u8 ((n : Int) / 2 ^ (8 * (k - 1 - j)) % 256)] rfl rfl ?c1 ?c2 ?c3 ?c4 ?c5 ?_))
      case c1 => exact cell_one_new _ _ _
      case c2 => simp [Value.oneCell']
      case c3 => simp [maxLen]; omega
      case c4 => omega
      case c5 => simp; omega
      intro v1 w1 hv1 hg1 _ _
      rw [HX.out, pv_step n k j hlt] at hv1
      have hB1 : Below w.heap.size w w1 := (hB.alloc hBs _).grown hg1 (by simp; omega) (fun g hg => (hrow.lt g hg).1)
      clear hg1 hrow hB
      go_wp2
      go_roundw
      case rel => exact ⟨j + 1, by omega, by go_num, hv1, hB1⟩
      case measure => simp [intOf]; omega
    · obtain rfl : j = k := by omega
      obtain ⟨g, cap, rfl, _, _⟩ := hrow.form (by omega)
      have hcs := hrow.cells (g := g) rfl
      have hconv := conv_row wr g 0 (1 + j) cap ((247 + j) :: be j n) (by simp [be_length]; omega) (fun i hi => by
        have := hcs i (.int .u8 ((((247 + j) :: be j n)[i] : Nat) : Int)) (by
          unfold pv
          rw [Nat.sub_self, Nat.pow_zero, Nat.div_one, List.getElem?_map, List.getElem?_eq_getElem hi]
          rfl)
        simpa [Addr.add_lit] using this)
      clear hcs hrow
      go_wp2
      go_ret
      exact ⟨rfl, hB⟩

/-- THE PROGRAM's Put. -/
theorem put_any (n : Nat) (w : World) (hn : n < 18446744073709551616) : Calls Try.prog 15 #[.int .u64 n] w fun e w' => e = .returned (.string (putS n)) ∧ Below w.heap.size w w' := by
  rcases Nat.lt_or_ge n 248 with h | h
  · exact put_small n w h
  · exact put_great n w h hn
end Go.Proofs.Ytjjhbkmmkhkjnaa
