/- Rows of bytes and texts: what is shared by the laws on turned bits. -/
import Derived.Test.YthechafniolbnaaAwake
import Derived.Laws.BytesArg
import Derived.Laws.MakeOwn
import Derived.Laws.IdiomStrings
namespace Go.Proofs.Ythechafniolbnaa
open Go.RowKit Crc

def ints (l : List Nat) : List Int := l.map fun b : Nat => (b : Int)
/-- A list of bytes as a text. -/
def ofL (l : List Nat) : ByteArray := strOfNums (ints l)
theorem bl_ofL (l : List Nat) (h : ∀ b ∈ l, b < 256) : bl (ofL l) = l := by
  unfold bl ofL
  rw [strOfNums_data, ints, List.map_map, List.map_map]
  conv => rhs; rw [← List.map_id l]
  apply List.map_congr_left
  intro b hb
  have := h b hb
  simp [UInt8.toNat_ofNat']
  omega
theorem sum_lt (a : ByteArray) : sum (bl a) < 4294967296 := by
  unfold sum
  exact Nat.xor_lt_two_pow (n := 32) (by omega) (crc_lt _ (bl_lt a) _ (by omega))
theorem ofL_size (l : List Nat) : (ofL l).size = l.length := by unfold ofL; rw [strOfNums_size, ints, List.length_map]
theorem bl_take (s : ByteArray) (m : Nat) : bl (s.extract 0 m) = (bl s).take m := by
  unfold bl
  simp
def byteV (l : List Nat) : Array Value := (l.map fun b : Nat => Value.int .u8 (b : Int)).toArray
theorem byteV_set (l : List Nat) (i b : Nat) : (byteV l).setIfInBounds i (.int .u8 (b : Int)) = byteV (l.set i b) := by
  unfold byteV
  rw [List.setIfInBounds_toArray, List.map_set]
theorem byteV_get (l : List Nat) (i : Nat) (h : i < l.length) : (byteV l)[i]? = some (.int .u8 (l[i] : Nat)) := by
  unfold byteV
  rw [List.getElem?_toArray, List.getElem?_map, List.getElem?_eq_getElem h]
  rfl
theorem conv_row (W : World) (b len cap : Nat) (l : List Nat) (hl : l.length = len) (hc : ∀ i, (h : i < l.length) → W.cell? ⟨b, i, none⟩ = some (.int .u8 (l[i] : Nat))) :
    (convert 25 9 (.slice (some ⟨b, 0, none⟩) len cap)).run Try.prog W = .ok (.string (ofL l)) W := by
  refine run_convert_bytes_arg W 25 5 Try.underlying25 Try.underlying5 b 0 len cap (ints l) (by simp [ints, hl]) (fun i hi => ?_) 9 Try.underlying9
  have h : i < l.length := by omega
  rw [Nat.zero_add, hc i h]
  simp [ints, List.getD, h]
theorem Try.infoU8 : (Try.prog.info? 5).map (fun i => (i.zero, i.size, i.bytes)) = some (some (.int .u8 0), 1, 1) := by kernel_rfl
theorem make_row (n : Nat) (hn : n ≤ 281474976710656) (w : World) :
    (Instr.makeSlice 25 (.int .i64 (n : Int)) (.int .i64 (n : Int))).run Try.prog w = .ok (.slice (some ⟨w.heap.size, 0, none⟩) n n) (w.alloc (.cells (byteV (List.replicate n 0)) 5)) := by
  obtain ⟨i, hi⟩ : ∃ i, Try.prog.info? 5 = some i := by
    cases h : Try.prog.info? 5 with
    | none => have := Try.infoU8; rw [h] at this; cases this
    | some i => exact ⟨i, rfl⟩
  have h := Try.infoU8
  rw [hi] at h
  simp only [Option.map_some, Option.some.injEq, Prod.mk.injEq] at h
  obtain ⟨h1, h2, h3⟩ := h
  have := run_make (P := Try.prog) (w := w) 25 5 i (.int .u8 0) Try.underlying25 hi h1 .i64 .i64 (n : Int) (n : Int) (by omega) (by omega) (by rw [h3]; omega) (by omega)
  rw [this, h2, Int.toNat_natCast, Nat.mul_one]
  congr 3
  apply Array.ext
  · simp [madeCells, byteV]
  · intro j h1 h2
    simp [madeCells, byteV, Value.cells, Nat.mod_one]
theorem Blk.row {w : World} {g : Nat} {l : List Nat} (h : Blk w g 5 (byteV l)) (i : Nat) (hi : i < l.length) : w.cell? ⟨g, i, none⟩ = some (.int .u8 (l[i] : Nat)) := (h.cell i).trans (byteV_get l i hi)
end Go.Proofs.Ythechafniolbnaa
