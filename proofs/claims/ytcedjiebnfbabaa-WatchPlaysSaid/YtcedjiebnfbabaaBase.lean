/- The walks of layer 24: one counter; the maker; the tests. -/
import Derived.Test.YtcedjiebnfbabaaRows
import Derived.WalkKit
import Derived.WalkSpells
import Derived.WalkLawsBesides
import Derived.Below
import Derived.Lib.Hide
import Derived.BigQuiet
import Derived.Deep.QuietTactic
import Derived.RegionTactic
import Derived.Outline
import Derived.OwnWalk
import Derived.Maps.AppendAt
import Derived.Deep.AppendLies
import Derived.Deep.DeepMust
import Derived.Deep.RegionHeld3
import Derived.Laws.Pointers
import Derived.Laws.LoneSync
import Derived.Laws.Rows
import Derived.IntWalk
namespace Go.Proofs.Ytcedjiebnfbabaa
open Go.RowKit

/-- A block whose cells are known. -/
def Blk (w : World) (g : Nat) (t : TypeId) (cs : Array Value) : Prop := w.heap[g]? = some (.cells cs t (0, 0))
section
variable {w w' : World} {g : Nat} {t : TypeId} {cs : Array Value}
theorem Blk.lt (h : Blk w g t cs) : g < w.heap.size := by
  rcases Nat.lt_or_ge g w.heap.size with hlt | hge
  · exact hlt
  · unfold Blk at h; rw [Array.getElem?_eq_none hge] at h; cases h
theorem Blk.cell (h : Blk w g t cs) (i : Nat) : w.cell? ⟨g, i, none⟩ = cs[i]? := cell_of_row w g i cs t (0, 0) h
theorem Blk.frozen (h : Blk w g t cs) (i : Nat) : w.frozen? ⟨g, i, none⟩ = false := by
  unfold Blk at h
  simp [World.frozen?, h]
theorem Blk.new (w : World) (t : TypeId) (cs : Array Value) : Blk (w.alloc (.cells cs t)) w.heap.size t cs := heap_alloc_new w _
theorem Blk.set_ (h : Blk w g t cs) (i : Nat) (u : Value) : Blk (w.setCell ⟨g, i, none⟩ u) g t (cs.setIfInBounds i u) := by
  unfold Blk at h ⊢
  simp [World.setCell, Array.getElem?_modify, h]
theorem Blk.grown {row : Option Nat} (h : Blk w g t cs) (hb : w.grownBy w' row) (hg : some g ≠ row) : Blk w' g t cs := (hb.block g h.lt hg).trans h
theorem Blk.below {B : Nat} (h : Blk w g t cs) (hb : Below B w w') (hg : g < B) : Blk w' g t cs := (hb.block g hg).trans h
end
theorem only_setCell {a w : World} {g : Nat} (h : a.grownBy w (some g)) (i : Nat) (u : Value) : a.grownBy (w.setCell ⟨g, i, none⟩ u) (some g) :=
  ⟨h.os, h.tape, h.output, by simpa [World.setCell] using h.size, fun k hk hne => (Below.heap_setCell w ⟨g, i, none⟩ u k (by rintro rfl; exact hne rfl)).trans (h.block k hk hne)⟩
theorem only_drewN {a w : World} {row : Option Nat} (h : a.grownBy w row) (n : Nat) : a.grownBy (w.drewN n) row := ⟨h.os, h.tape, h.output, h.size, h.block⟩

theorem below_drewN {B : Nat} {a w : World} (h : Below B a w) (n : Nat) : Below B a (w.drewN n) := ⟨h.os, h.tape, h.output, h.size, h.block⟩
theorem ret_i64 {a b : Int} (h : a = b) : Ending.returned (.int .i64 a) = .returned (.int .i64 b) := by rw [h]

/-- A count of one more. -/
def up (x : Int) : Int := min (x + 1) 1073741824
theorem up_bd (x : Int) (h0 : 0 ≤ x) (h1 : x ≤ 1073741824) : 0 ≤ up x ∧ up x ≤ 1073741824 := by unfold up; omega

theorem set_twice (cs : Array Value) (i : Nat) (u v : Value) : (cs.setIfInBounds i u).setIfInBounds i v = cs.setIfInBounds i v := by
  apply Array.ext_getElem?
  intro k
  simp only [Array.getElem?_setIfInBounds]
  by_cases h : i = k
  · simp [h]
  · simp [h]

set_option maxHeartbeats 400000 in
theorem more_any (g o : Nat) (t : TypeId) (cs : Array Value) (x : Int) (w : World) (hb : Blk w g t cs) (hx : cs[o]? = some (.int .i64 x)) (h0 : 0 ≤ x) (h1 : x ≤ 1073741824) :
    Calls Try.prog 18 #[.pointer (some ⟨g, o, none⟩)] w fun e w' => e = .returned (.int .i64 (up x)) ∧ Blk w' g t (cs.setIfInBounds o (.int .i64 (up x))) ∧ w.grownBy w' (some g) := by
  have hc : w.cell? ⟨g, o, none⟩ = some (.int .i64 x) := (hb.cell o).trans hx
  have hf : w.frozen? ⟨g, o, none⟩ = false := hb.frozen o
  have hs : (Op.intArith .add .i64 x 1).run Try.prog w = .ok (.int .i64 (x + 1)) w := by have e : IntKind.i64.wrap (x + 1) = x + 1 := IntWalk.i64_in _ (by omega); simp [go_sem, e]
  have hadd := run_call_add (P := Try.prog) Try.func26 (by kernel_rfl) (by kernel_rfl) (by kernel_rfl) .i64 (by kernel_rfl) hc hf hs
  have hb1 := hb.set_ o (.int .i64 (x + 1))
  have hc1 : (w.setCell ⟨g, o, none⟩ (.int .i64 (x + 1))).cell? ⟨g, o, none⟩ = some (.int .i64 (x + 1)) := World.cell?_setCell_same _ _ _ hc
  have hf1 : (w.setCell ⟨g, o, none⟩ (.int .i64 (x + 1))).frozen? ⟨g, o, none⟩ = false := hb1.frozen o
  have hst := run_call_store (P := Try.prog) Try.func24 (by kernel_rfl) (by kernel_rfl) (by kernel_rfl) (by kernel_rfl) (k := .i64) (y := 1073741824) hc1 hf1
  have HB := Lib.hid hb
  have HB1 := Lib.hid hb1
  clear hb hb1 hs
  by_cases h2 : 1073741824 < x + 1
  · have e : up x = 1073741824 := by unfold up; omega
    rw [e]
    have hb2 := HB1.out.set_ o (.int .i64 1073741824)
    rw [set_twice] at hb2
    have HB2 := Lib.hid hb2
    clear e hb2
    go_enter Try.func18, Try.ntmps18
    go_wp2
    go_end0
    go_wp2
    go_ret
    exact ⟨rfl, HB2.out, only_setCell (only_setCell (World.grownBy.refl _ _) _ _) _ _⟩
  · have e : up x = x + 1 := by unfold up; omega
    rw [e]
    clear e
    go_enter Try.func18, Try.ntmps18
    go_wp2
    go_ret
    exact ⟨rfl, HB1.out, only_setCell (World.grownBy.refl _ _) _ _⟩
end Go.Proofs.Ytcedjiebnfbabaa
