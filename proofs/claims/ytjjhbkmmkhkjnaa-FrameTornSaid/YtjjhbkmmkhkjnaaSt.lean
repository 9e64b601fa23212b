/- What holds at each set of done operations of the round's last statement. -/
import Derived.Test.YtjjhbkmmkhkjnaaIter
import Derived.Test.YtjjhbkmmkhkjnaaStates
import Derived.RangeFuncBox
import Derived.Maps.AppendAt
namespace Go.Proofs.Ytjjhbkmmkhkjnaa
open Go.RowKit Go.Shelf Crc Law

theorem Try.infoS : (Try.prog.info? 9).map (fun i => (i.zero, i.size, i.bytes)) = some (some (.string ByteArray.empty), 1, 16) := by kernel_rfl
theorem row_from {W : World} {n₁ : Nat} {e : TypeId} {size : Nat} {v : Value} {k : Nat} {xs : List Value} (h : W.ownsRow n₁ e size v k xs) : ∀ j, v.ownBlock = some j → n₁ ≤ j := by
  rcases h.2 with ⟨rfl, _⟩ | ⟨g, cap, cur, rfl, hb, _, _⟩
  · intro j hj; simp [Value.ownBlock] at hj
  · intro j hj
    obtain rfl : g = j := by simpa [Value.ownBlock] using hj
    exact hb
theorem row_ne {W : World} {n₁ : Nat} {e : TypeId} {size : Nat} {v : Value} {k : Nat} {xs : List Value} (h : W.ownsRow n₁ e size v k xs) (b : Nat) (hb : b < n₁) : v.ownBlock = none ∨ v.ownBlock ≠ some b :=
  .inr fun e => by have := row_from h b e; omega
/-- What an append on a row of the walk's own keeps: every box that lay ahead of the row; whatever is no cells; what lay below. -/
theorem pushed {W w1 : World} {n₁ : Nat} {e : TypeId} {size : Nat} {v : Value} {k : Nat} {xs : List Value}
    (hrow : W.ownsRow n₁ e size v k xs) (hgrow : W.grownBy w1 v.ownBlock) :
    (∀ B t u, B < n₁ → Boxed W B t u → Boxed w1 B t u) ∧ KeepsOthers W w1 := by
  refine ⟨fun B t u hB hb => hb.kept hgrow (fun e => by have := row_from hrow B e.symm; omega), ?_⟩
  refine KeepsOthers.of_grownBy hgrow fun j o ej hj => ?_
  rcases hrow.2 with ⟨rfl, _⟩ | ⟨g, cap, cur, rfl, _, hgb, _⟩
  · simp [Value.ownBlock] at ej
  · obtain rfl : g = j := by simpa [Value.ownBlock] using ej
    rw [hgb] at hj; cases hj; rfl
/-- The box of a found: its text, its place, its error. -/
def Blk3 (W : World) (b : Nat) (x : Item) : Prop := Blk W b 59 #[.string x.1, .int .i64 x.2.1, .int .i64 x.2.2]
theorem Blk3.kept {W W' : World} {row : Option Nat} {b : Nat} {x : Item} (h : Blk3 W b x) (hg : W.grownBy W' row) (hne : some b ≠ row) : Blk3 W' b x := (hg.block b (Blk.lt h) hne).trans h
theorem Blk3.own {W W' : World} {row : Option Nat} {b : Nat} {x : Item} (h : Blk3 W b x) (hg : W.grownBy W' row) (hr : ∀ r, row = some r → ∃ o : Obj, W.heap[r]? = some o ∧ o.isCells = false) : Blk3 W' b x :=
  h.kept hg (fun e => by
    obtain ⟨o, ho, hc⟩ := hr b e.symm
    rw [show W.heap[b]? = _ from h] at ho; cases ho; cases hc)
theorem Blk3.not_row {W : World} {b : Nat} {x : Item} (h : Blk3 W b x) {n₁ size k : Nat} {v : Value} {xs : List Value} (hr : W.ownsRow n₁ 9 size v k xs) : some b ≠ v.ownBlock := by
  rcases hr.2 with ⟨rfl, _⟩ | ⟨g, cap, cur, rfl, _, hgb, _⟩
  · simp [Value.ownBlock]
  · intro e'
    obtain rfl : b = g := by simpa [Value.ownBlock] using e'
    have := (show W.heap[b]? = _ from h).symm.trans hgb
    simp at this

structure StP (w₀ W : World) (s : ByteArray) (v : Value) (k : Nat) (xs : List Value) (Bx : Nat) (x : Item) (at_ : Int) (L0 L1 L2 L3 L4 L5 L6 L7 L8 : Bool) (s18 s19 s20 s21 s22 s23 s24 : Value) (gv capv blk : Nat) (w : World) : Prop where
  c3 : L3 = true → L2 = true
  c40 : L4 = true → L0 = true
  c43 : L4 = true → L3 = true
  c7 : L7 = true → L4 = true
  c8 : L8 = true → L7 = true
  f18 : L0 = true → s18 = v
  f19 : L1 = true → s19 = .pointer (some ⟨Bx, 0, none⟩)
  f20 : L2 = true → s20 = .string x.1
  f21 : L3 = true → s21 = .slice (some ⟨blk, 0, none⟩) 1 1
  f22 : L4 = true → s22 = .slice (some ⟨gv, 0, none⟩) (k + 1) capv
  f23 : L5 = true → s23 = .pointer (some ⟨Bx, 1, none⟩)
  f24 : L6 = true → s24 = .int .i64 x.2.1
  bx : Blk3 w Bx x
  b0 : Boxed w (w₀.heap.size) 38 (.slice none 0 0)
  b1 : Boxed w (w₀.heap.size + 1) 3 (.int .i64 0)
  b2 : Boxed w (w₀.heap.size + 1 + 1) 24 (.int .i64 0)
  b5 : Boxed w (w₀.heap.size + 1 + 1 + 1 + 1 + 1) 9 (.string s)
  b3f : L7 = false → Boxed w (w₀.heap.size + 1 + 1 + 1) 38 v
  b3t : L7 = true → Boxed w (w₀.heap.size + 1 + 1 + 1) 38 (.slice (some ⟨gv, 0, none⟩) (k + 1) capv)
  b4f : L8 = false → Boxed w (w₀.heap.size + 1 + 1 + 1 + 1) 3 (.int .i64 at_)
  b4t : L8 = true → Boxed w (w₀.heap.size + 1 + 1 + 1 + 1) 3 (.int .i64 x.2.1)
  rf : L4 = false → w.ownsRow (w₀.heap.size + 1 + 1 + 1 + 1 + 1 + 1) 9 1 v k xs
  rt : L4 = true → w.ownsRow (w₀.heap.size + 1 + 1 + 1 + 1 + 1 + 1) 9 1 (.slice (some ⟨gv, 0, none⟩) (k + 1) capv) (k + 1) (xs ++ [.string x.1])
  tm : L3 = true → L4 = false → w.cell? ⟨blk, 0, none⟩ = some (.string x.1)
  ko : KeepsOthers W w
  bl : Below w₀.heap.size w₀ w
  sz : W.heap.size ≤ w.heap.size

section
variable {w₀ W : World} {s : ByteArray} {v : Value} {k : Nat} {xs : List Value} {Bx : Nat} {x : Item} {at_ : Int} {L0 L1 L2 L3 L4 L5 L6 L7 L8 : Bool} {s18 s19 s20 s21 s22 s23 s24 : Value} {gv capv blk : Nat} {w : World}
theorem StP.op0 (h : StP w₀ W s v k xs Bx x at_ false L1 L2 L3 L4 L5 L6 L7 L8 s18 s19 s20 s21 s22 s23 s24 gv capv blk w) : StP w₀ W s v k xs Bx x at_ true L1 L2 L3 L4 L5 L6 L7 L8 v s19 s20 s21 s22 s23 s24 gv capv blk w := by
  exact { c3 := (h.c3), c40 := (fun _ => rfl), c43 := (h.c43), c7 := (h.c7), c8 := (h.c8), f18 := (fun _ => rfl), f19 := (h.f19), f20 := (h.f20), f21 := (h.f21), f22 := (h.f22), f23 := (h.f23), f24 := (h.f24), bx := (h.bx), b0 := (h.b0), b1 := (h.b1), b2 := (h.b2), b5 := (h.b5), b3f := (h.b3f), b3t := (h.b3t), b4f := (h.b4f), b4t := (h.b4t), rf := (h.rf), rt := (h.rt), tm := (h.tm), ko := (h.ko), bl := (h.bl), sz := (h.sz) }
theorem StP.op1 (h : StP w₀ W s v k xs Bx x at_ L0 false L2 L3 L4 L5 L6 L7 L8 s18 s19 s20 s21 s22 s23 s24 gv capv blk w) : StP w₀ W s v k xs Bx x at_ L0 true L2 L3 L4 L5 L6 L7 L8 s18 (.pointer (some ⟨Bx, 0, none⟩)) s20 s21 s22 s23 s24 gv capv blk w := by
  exact { c3 := (h.c3), c40 := (h.c40), c43 := (h.c43), c7 := (h.c7), c8 := (h.c8), f18 := (h.f18), f19 := (fun _ => rfl), f20 := (h.f20), f21 := (h.f21), f22 := (h.f22), f23 := (h.f23), f24 := (h.f24), bx := (h.bx), b0 := (h.b0), b1 := (h.b1), b2 := (h.b2), b5 := (h.b5), b3f := (h.b3f), b3t := (h.b3t), b4f := (h.b4f), b4t := (h.b4t), rf := (h.rf), rt := (h.rt), tm := (h.tm), ko := (h.ko), bl := (h.bl), sz := (h.sz) }
theorem StP.op2 (h : StP w₀ W s v k xs Bx x at_ L0 L1 false L3 L4 L5 L6 L7 L8 s18 s19 s20 s21 s22 s23 s24 gv capv blk w) : StP w₀ W s v k xs Bx x at_ L0 L1 true L3 L4 L5 L6 L7 L8 s18 s19 (.string x.1) s21 s22 s23 s24 gv capv blk w := by
  exact { c3 := (fun _ => rfl), c40 := (h.c40), c43 := (h.c43), c7 := (h.c7), c8 := (h.c8), f18 := (h.f18), f19 := (h.f19), f20 := (fun _ => rfl), f21 := (h.f21), f22 := (h.f22), f23 := (h.f23), f24 := (h.f24), bx := (h.bx), b0 := (h.b0), b1 := (h.b1), b2 := (h.b2), b5 := (h.b5), b3f := (h.b3f), b3t := (h.b3t), b4f := (h.b4f), b4t := (h.b4t), rf := (h.rf), rt := (h.rt), tm := (h.tm), ko := (h.ko), bl := (h.bl), sz := (h.sz) }
theorem StP.op5 (h : StP w₀ W s v k xs Bx x at_ L0 L1 L2 L3 L4 false L6 L7 L8 s18 s19 s20 s21 s22 s23 s24 gv capv blk w) : StP w₀ W s v k xs Bx x at_ L0 L1 L2 L3 L4 true L6 L7 L8 s18 s19 s20 s21 s22 (.pointer (some ⟨Bx, 1, none⟩)) s24 gv capv blk w := by
  exact { c3 := (h.c3), c40 := (h.c40), c43 := (h.c43), c7 := (h.c7), c8 := (h.c8), f18 := (h.f18), f19 := (h.f19), f20 := (h.f20), f21 := (h.f21), f22 := (h.f22), f23 := (fun _ => rfl), f24 := (h.f24), bx := (h.bx), b0 := (h.b0), b1 := (h.b1), b2 := (h.b2), b5 := (h.b5), b3f := (h.b3f), b3t := (h.b3t), b4f := (h.b4f), b4t := (h.b4t), rf := (h.rf), rt := (h.rt), tm := (h.tm), ko := (h.ko), bl := (h.bl), sz := (h.sz) }
theorem StP.op6 (h : StP w₀ W s v k xs Bx x at_ L0 L1 L2 L3 L4 L5 false L7 L8 s18 s19 s20 s21 s22 s23 s24 gv capv blk w) : StP w₀ W s v k xs Bx x at_ L0 L1 L2 L3 L4 L5 true L7 L8 s18 s19 s20 s21 s22 s23 (.int .i64 x.2.1) gv capv blk w := by
  exact { c3 := (h.c3), c40 := (h.c40), c43 := (h.c43), c7 := (h.c7), c8 := (h.c8), f18 := (h.f18), f19 := (h.f19), f20 := (h.f20), f21 := (h.f21), f22 := (h.f22), f23 := (h.f23), f24 := (fun _ => rfl), bx := (h.bx), b0 := (h.b0), b1 := (h.b1), b2 := (h.b2), b5 := (h.b5), b3f := (h.b3f), b3t := (h.b3t), b4f := (h.b4f), b4t := (h.b4t), rf := (h.rf), rt := (h.rt), tm := (h.tm), ko := (h.ko), bl := (h.bl), sz := (h.sz) }
theorem StP.op3 (h : StP w₀ W s v k xs Bx x at_ L0 L1 true false false L5 L6 false false s18 s19 s20 s21 s22 s23 s24 gv capv blk w) : StP w₀ W s v k xs Bx x at_ L0 L1 true true false L5 L6 false false s18 s19 s20 (.slice (some ⟨w.heap.size, 0, none⟩) 1 1) s22 s23 s24 gv capv w.heap.size (w.alloc (.cells #[.string x.1] 9)) := by
  exact { c3 := (fun _ => rfl), c40 := (h.c40), c43 := (fun e => by cases e), c7 := (h.c7), c8 := (h.c8), f18 := (h.f18), f19 := (h.f19), f20 := (h.f20), f21 := (fun _ => rfl), f22 := (fun e => by cases e), f23 := (h.f23), f24 := (h.f24), bx := (h.bx.kept (World.grownBy_alloc w _ none) (by simp)), b0 := (h.b0.alloc _), b1 := (h.b1.alloc _), b2 := (h.b2.alloc _), b5 := (h.b5.alloc _), b3f := (fun e => (h.b3f e).alloc _), b3t := (fun e => by cases e), b4f := (fun e => (h.b4f e).alloc _), b4t := (fun e => by cases e), rf := (fun e => (h.rf e).alloc _), rt := (fun e => by cases e), tm := (fun _ _ => (Boxed.new w 9 (.string x.1)).cell), ko := (h.ko.trans (KeepsOthers.alloc _ _)), bl := (h.bl.alloc h.bl.size _), sz := (by have := h.sz; simp; omega) }
theorem StP.op4 (h : StP w₀ W s v k xs Bx x at_ true L1 true true false L5 L6 false false s18 s19 s20 s21 s22 s23 s24 gv capv blk w) {w1 : World} {g c : Nat} (hgrow : w.grownBy w1 v.ownBlock) (hown : w1.ownsRow (w₀.heap.size + 1 + 1 + 1 + 1 + 1 + 1) 9 1 (.slice (some ⟨g, 0, none⟩) (k + 1) c) (k + 1) (xs ++ [.string x.1])) : StP w₀ W s v k xs Bx x at_ true L1 true true true L5 L6 false false s18 s19 s20 s21 (.slice (some ⟨g, 0, none⟩) (k + 1) c) s23 s24 g c blk w1 := by
  have hp := pushed (h.rf rfl) hgrow
  exact { c3 := (h.c3), c40 := (fun _ => rfl), c43 := (fun _ => rfl), c7 := (fun e => by cases e), c8 := (h.c8), f18 := (h.f18), f19 := (h.f19), f20 := (h.f20), f21 := (h.f21), f22 := (fun _ => rfl), f23 := (h.f23), f24 := (h.f24), bx := (h.bx.kept hgrow (h.bx.not_row (h.rf rfl))), b0 := (hp.1 _ _ _ (by omega) h.b0), b1 := (hp.1 _ _ _ (by omega) h.b1), b2 := (hp.1 _ _ _ (by omega) h.b2), b5 := (hp.1 _ _ _ (by omega) h.b5), b3f := (fun e => hp.1 _ _ _ (by omega) (h.b3f e)), b3t := (fun e => by cases e), b4f := (fun e => hp.1 _ _ _ (by omega) (h.b4f e)), b4t := (fun e => by cases e), rf := (fun e => by cases e), rt := (fun _ => hown), tm := (fun _ e => by cases e), ko := (h.ko.trans hp.2), bl := (h.bl.grown hgrow h.bl.size (fun j e => by have := row_from (h.rf rfl) j e; omega)), sz := (Nat.le_trans h.sz hgrow.size) }
theorem StP.op7 (h : StP w₀ W s v k xs Bx x at_ true L1 true true true L5 L6 false false s18 s19 s20 s21 s22 s23 s24 gv capv blk w) (hBx : w₀.heap.size + 1 + 1 + 1 + 1 + 1 < Bx) : StP w₀ W s v k xs Bx x at_ true L1 true true true L5 L6 true false s18 s19 s20 s21 s22 s23 s24 gv capv blk (w.setCell ⟨w₀.heap.size + 1 + 1 + 1, 0, none⟩ (.slice (some ⟨gv, 0, none⟩) (k + 1) capv)) := by
  exact { c3 := (h.c3), c40 := (h.c40), c43 := (h.c43), c7 := (fun _ => rfl), c8 := (fun e => by cases e), f18 := (h.f18), f19 := (h.f19), f20 := (h.f20), f21 := (h.f21), f22 := (h.f22), f23 := (h.f23), f24 := (h.f24), bx := (h.bx.kept (grownBy_setCell' w (w₀.heap.size + 1 + 1 + 1) _) (fun e => by cases e; omega)), b0 := (h.b0.other (by omega) _), b1 := (h.b1.other (by omega) _), b2 := (h.b2.other (by omega) _), b5 := (h.b5.other (by omega) _), b3f := (fun e => by cases e), b3t := (fun _ => (h.b3f rfl).set _), b4f := (fun e => (h.b4f e).other (by omega) _), b4t := (fun e => by cases e), rf := (fun e => by cases e), rt := (fun e => (h.rt e).kept (grownBy_setCell' w (w₀.heap.size + 1 + 1 + 1) _) (row_ne (h.rt e) _ (by omega))), tm := (fun _ e => by cases e), ko := (h.ko.trans (KeepsOthers.setCell _ _ _)), bl := (h.bl.setCell (p := ⟨w₀.heap.size + 1 + 1 + 1, 0, none⟩) (show w₀.heap.size ≤ w₀.heap.size + 1 + 1 + 1 by omega) _), sz := (by have := h.sz; simpa [World.setCell] using this) }
theorem StP.op8 (h : StP w₀ W s v k xs Bx x at_ true L1 true true true L5 true true false s18 s19 s20 s21 s22 s23 s24 gv capv blk w) (hBx : w₀.heap.size + 1 + 1 + 1 + 1 + 1 < Bx) : StP w₀ W s v k xs Bx x at_ true L1 true true true L5 true true true s18 s19 s20 s21 s22 s23 s24 gv capv blk (w.setCell ⟨w₀.heap.size + 1 + 1 + 1 + 1, 0, none⟩ (.int .i64 x.2.1)) := by
  exact { c3 := (h.c3), c40 := (h.c40), c43 := (h.c43), c7 := (h.c7), c8 := (fun _ => rfl), f18 := (h.f18), f19 := (h.f19), f20 := (h.f20), f21 := (h.f21), f22 := (h.f22), f23 := (h.f23), f24 := (h.f24), bx := (h.bx.kept (grownBy_setCell' w (w₀.heap.size + 1 + 1 + 1 + 1) _) (fun e => by cases e; omega)), b0 := (h.b0.other (by omega) _), b1 := (h.b1.other (by omega) _), b2 := (h.b2.other (by omega) _), b5 := (h.b5.other (by omega) _), b3f := (fun e => by cases e), b3t := (fun e => (h.b3t e).other (by omega) _), b4f := (fun e => by cases e), b4t := (fun _ => (h.b4f rfl).set _), rf := (fun e => by cases e), rt := (fun e => (h.rt e).kept (grownBy_setCell' w (w₀.heap.size + 1 + 1 + 1 + 1) _) (row_ne (h.rt e) _ (by omega))), tm := (fun _ e => by cases e), ko := (h.ko.trans (KeepsOthers.setCell _ _ _)), bl := (h.bl.setCell (p := ⟨w₀.heap.size + 1 + 1 + 1 + 1, 0, none⟩) (show w₀.heap.size ≤ w₀.heap.size + 1 + 1 + 1 + 1 by omega) _), sz := (by have := h.sz; simpa [World.setCell] using this) }
end
end Go.Proofs.Ytjjhbkmmkhkjnaa
