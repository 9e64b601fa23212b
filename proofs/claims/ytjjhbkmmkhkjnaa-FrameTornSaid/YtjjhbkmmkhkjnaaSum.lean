/- The walks of layer 3: halves; a text's sum. -/
import Derived.Test.YtjjhbkmmkhkjnaaRef
namespace Go.Proofs.Ytjjhbkmmkhkjnaa
open Go.RowKit Crc

theorem refSum_any (s : ByteArray) (w : World) (hs : s.size ≤ 9223372036854775807) :
    Calls Try.prog 21 #[.string s] w fun e w' => e = .returned (.int .u32 ((sum (bl s) : Nat) : Int)) ∧ w = w' := by
  have HA := Lib.hid (fun w => refAdd_any 0 s w (by omega) hs)
  go_enter Try.func21, Try.ntmps21
  go_wp2_with fail
  refine (HA.out _).mono ?_
  rintro e w1 ⟨rfl, rfl⟩
  go_wp2
  go_ret
  exact ⟨rfl, rfl⟩

theorem and_15 (v : Nat) (hv : v < 4294967296) : bits .and .u32 (v : Int) 15 = ((v % 16 : Nat) : Int) := by
  have h := u32_and_nat v 15 hv (by omega)
  rw [show (15 : Nat) = 2 ^ 4 - 1 from rfl, Nat.and_two_pow_sub_one_eq_mod] at h
  exact h

/-- The table of sixteen. -/
def tab : Array Value := ((List.range 16).map fun r => Value.int .u32 ((Tn 4 r : Nat) : Int)).toArray
theorem tab_get (r : Nat) (h : r < 16) : tab[r]? = some (.int .u32 ((Tn 4 r : Nat) : Int)) := by
  unfold tab
  rw [List.getElem?_toArray, List.getElem?_map, List.getElem?_range h]
  rfl
theorem tab_eq : tab = #[.int .u32 0, .int .u32 498536548, .int .u32 997073096, .int .u32 651767980, .int .u32 1994146192, .int .u32 1802195444, .int .u32 1303535960, .int .u32 1342533948, .int .u32 3988292384, .int .u32 4027552580, .int .u32 3604390888, .int .u32 3412177804, .int .u32 2607071920, .int .u32 2262029012, .int .u32 2685067896, .int .u32 3183342108] := by kernel_rfl

set_option maxHeartbeats 1000000 in
set_option maxRecDepth 100000 in
theorem halves_any (v : Nat) (w : World) (hv : v < 4294967296) :
    Calls Try.prog 25 #[.int .u32 v] w fun e w' => e = .returned (.int .u32 ((Tn 4 (v % 16) : Nat) : Int)) ∧ Below w.heap.size w w' := by
  have ha := and_15 v hv
  have hr : v % 16 < 16 := Nat.mod_lt _ (by omega)
  generalize v % 16 = r at *
  have hc : (w.alloc (.cells tab 65)).cell? ⟨w.heap.size, r, none⟩ = some (.int .u32 ((Tn 4 r : Nat) : Int)) := (cell_of_row _ _ r tab 65 (0, 0) (heap_alloc_new w _)).trans (tab_get r hr)
  rw [tab_eq] at hc
  have hr0 : (0 : Int) ≤ (r : Int) := Int.natCast_nonneg _
  have hr1 : (r : Int) < 16 := by omega
  generalize Tn 4 r = t at *
  go_enter Try.func25, Try.ntmps25
  go_wp2
  go_ret
  exact ⟨rfl, (Below.refl _ _).alloc (Nat.le_refl _) _⟩
end Go.Proofs.Ytjjhbkmmkhkjnaa
