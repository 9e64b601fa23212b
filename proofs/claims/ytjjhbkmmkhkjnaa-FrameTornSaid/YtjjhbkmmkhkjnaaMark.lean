/- The walks of a sum's four bytes: mark, and the document's four. -/
import Derived.Test.YtjjhbkmmkhkjnaaSum2
import Derived.Test.YtjjhbkmmkhkjnaaRefGet
namespace Go.Proofs.Ytjjhbkmmkhkjnaa
open Go.RowKit Crc Law

/-- A sum's bytes. -/
def markL (c : Nat) : List Nat := [c / 16777216 % 256, c / 65536 % 256, c / 256 % 256, c % 256]
def markS (c : Nat) : ByteArray := strOfNums (ints (markL c))

set_option maxRecDepth 100000 in
theorem four_any (c : Nat) (w : World) : Calls Try.prog 20 #[.int .u32 c] w fun e w' => e = .returned (.string (markS c)) ∧ Below w.heap.size w w' := by
  have hconv := conv_row (w.alloc (.cells #[.int .u8 ((c : Int) / 16777216 % 256), .int .u8 ((c : Int) / 65536 % 256), .int .u8 ((c : Int) / 256 % 256), .int .u8 ((c : Int) % 256)] 5)) w.heap.size 0 4 4 (markL c) rfl (fun i hi => by
    rw [World.cell?_alloc_at _ _ _ _ rfl]
    match i, hi with
    | 0, _ => exact congrArg (fun z => some (Value.int .u8 z)) (show (c : Int) / 16777216 % 256 = ((c / 16777216 % 256 : Nat) : Int) by omega)
    | 1, _ => exact congrArg (fun z => some (Value.int .u8 z)) (show (c : Int) / 65536 % 256 = ((c / 65536 % 256 : Nat) : Int) by omega)
    | 2, _ => exact congrArg (fun z => some (Value.int .u8 z)) (show (c : Int) / 256 % 256 = ((c / 256 % 256 : Nat) : Int) by omega)
    | 3, _ => exact congrArg (fun z => some (Value.int .u8 z)) (show (c : Int) % 256 = ((c % 256 : Nat) : Int) by omega))
  have hp : markS c = strOfNums (ints (markL c)) := rfl
  rw [hp]
  clear hp
  go_enter Try.func20, Try.ntmps20
  go_wp2
  go_ret
  exact ⟨rfl, (Below.refl _ _).alloc (Nat.le_refl _) _⟩

/-- The array as far as it is laid. -/
def mk4 (c : Nat) : Nat → Array Value
  | 0 => #[.int .u8 0, .int .u8 0, .int .u8 0, .int .u8 0]
  | 1 => #[.int .u8 ((c : Int) / 16777216 % 256), .int .u8 0, .int .u8 0, .int .u8 0]
  | 2 => #[.int .u8 ((c : Int) / 16777216 % 256), .int .u8 ((c : Int) / 65536 % 256), .int .u8 0, .int .u8 0]
  | 3 => #[.int .u8 ((c : Int) / 16777216 % 256), .int .u8 ((c : Int) / 65536 % 256), .int .u8 ((c : Int) / 256 % 256), .int .u8 0]
  | _ => #[.int .u8 ((c : Int) / 16777216 % 256), .int .u8 ((c : Int) / 65536 % 256), .int .u8 ((c : Int) / 256 % 256), .int .u8 ((c : Int) % 256)]

set_option maxHeartbeats 1000000 in
set_option maxRecDepth 100000 in
theorem mark_any (c : Nat) (w : World) : Calls Try.prog 16 #[.int .u32 c] w fun e w' => e = .returned (.string (markS c)) ∧ Below w.heap.size w w' := by
  have hconv := conv_row (w.alloc (.cells #[.int .u8 ((c : Int) / 16777216 % 256), .int .u8 ((c : Int) / 65536 % 256), .int .u8 ((c : Int) / 256 % 256), .int .u8 ((c : Int) % 256)] 61)) w.heap.size 0 4 4 (markL c) rfl (fun i hi => by
    rw [World.cell?_alloc_at _ _ _ _ rfl]
    match i, hi with
    | 0, _ => exact congrArg (fun z => some (Value.int .u8 z)) (show (c : Int) / 16777216 % 256 = ((c / 16777216 % 256 : Nat) : Int) by omega)
    | 1, _ => exact congrArg (fun z => some (Value.int .u8 z)) (show (c : Int) / 65536 % 256 = ((c / 65536 % 256 : Nat) : Int) by omega)
    | 2, _ => exact congrArg (fun z => some (Value.int .u8 z)) (show (c : Int) / 256 % 256 = ((c / 256 % 256 : Nat) : Int) by omega)
    | 3, _ => exact congrArg (fun z => some (Value.int .u8 z)) (show (c : Int) % 256 = ((c % 256 : Nat) : Int) by omega))
  have hp : markS c = strOfNums (ints (markL c)) := rfl
  rw [hp]
  clear hp
  go_enter Try.func16, Try.ntmps16
  go_wp2
  go_loopw [5] (fun i wr => ∃ k : Nat, k ≤ 4 ∧ i = .int .i64 (k : Int) ∧ wr = w.alloc (.cells (mk4 c k) 61)) (fun i _ => 4 - (intOf i).toNat)
  case atStart => exact ⟨0, by omega, rfl, rfl⟩
  case round =>
    obtain ⟨k, hk, rfl, rfl⟩ := hrel
    obtain rfl | rfl | rfl | rfl | rfl : k = 0 ∨ k = 1 ∨ k = 2 ∨ k = 3 ∨ k = 4 := by omega
    all_goals simp only [mk4]
    · go_wp2
      go_roundw
      case rel => exact ⟨1, by omega, rfl, rfl⟩
      case measure => simp [intOf]
    · go_wp2
      go_roundw
      case rel => exact ⟨2, by omega, rfl, rfl⟩
      case measure => simp [intOf]
    · go_wp2
      go_roundw
      case rel => exact ⟨3, by omega, rfl, rfl⟩
      case measure => simp [intOf]
    · go_wp2
      go_roundw
      case rel => exact ⟨4, by omega, rfl, rfl⟩
      case measure => simp [intOf]
    · go_wp2
      go_ret
      exact ⟨rfl, (Below.refl _ _).alloc (Nat.le_refl _) _⟩
end Go.Proofs.Ytjjhbkmmkhkjnaa
