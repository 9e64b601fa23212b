/- The walk of sum.New: the maker's block. -/
import Derived.Test.YthechafniolbnaaStep
namespace Go.Proofs.Ythechafniolbnaa
open Go.RowKit Crc

/-- A maker's cells: done; the lock's two; the table; how often it was asked; made. -/
def mcs (d : Int) (st : Int) (t : List Int) (used : Int) (made : Bool) : Array Value := ([Value.int .u32 d, .int .i32 st, .int .u32 0] ++ t.map (Value.int .u32) ++ [Value.int .i64 used, Value.bool made]).toArray

set_option maxHeartbeats 1000000 in
set_option maxRecDepth 100000 in
theorem new_any (w : World) : Calls Try.prog 10 #[] w fun e w' => e = .returned (.pointer (some ⟨w.heap.size, 0, none⟩)) ∧ w' = w.alloc (.cells (mcs 0 0 (List.replicate 256 0) 0 true) 53) := by
  have hz : ∀ w, (zeroValue 53).run Try.prog w = .ok (.agg (mcs 0 0 (List.replicate 256 0) 0 false)) w := fun w => by kernel_rfl
  have hsz : ¬ (mcs 0 0 (List.replicate 256 0) 0 false).size < 261 := by decide
  have hst : (mcs 0 0 (List.replicate 256 0) 0 false).setIfInBounds 260 (.bool true) = mcs 0 0 (List.replicate 256 0) 0 true := by kernel_rfl
  generalize mcs 0 0 (List.replicate 256 0) 0 false = zc at *
  generalize mcs 0 0 (List.replicate 256 0) 0 true = mc at *
  go_enter Try.func10, Try.ntmps10
  go_wp2
  go_ret
  exact ⟨rfl, rfl⟩
end Go.Proofs.Ythechafniolbnaa
