/- Words for this seat: a slice of numbers, or of pins, that reads as a list; what keeps it. -/
import Derived.Test.YtmedkmlokkiefaaRows
import Derived.Test.YtmedkmlokkiefaaLaw
import Derived.WalkKit
import Derived.WalkSpells
import Derived.Below
import Derived.Deep.QuietTactic
import Derived.Lib.Hide
namespace Go.Proofs.Ytmedkmlokkiefaa
open Go.RowKit

/-- A slice's address leads to these numbers (of an empty list nothing is asked). -/
def Nums (w : World) (A : Option Addr) (zs : List Int) : Prop :=
  zs ≠ [] → ∃ b off, A = some ⟨b, off, none⟩ ∧ b < w.heap.size ∧ ∀ i, i < zs.length → w.cell? ⟨b, off + i, none⟩ = some (.int .u64 (zs[i]?.getD 0))

/-- A slice's address leads to these pins: number, time, ticks left. -/
def Pins (w : World) (A : Option Addr) (ps : List (Int × Int × Int)) : Prop :=
  ps ≠ [] → ∃ b off, A = some ⟨b, off, none⟩ ∧ b < w.heap.size ∧ ∀ i, i < ps.length →
    w.cell? ⟨b, off + i * 3, none⟩ = some (.int .i64 (ps[i]?.getD (0, 0, 0)).1) ∧
    w.cell? ⟨b, off + i * 3 + 1, none⟩ = some (.int .u64 (ps[i]?.getD (0, 0, 0)).2.1) ∧
    w.cell? ⟨b, off + i * 3 + 2, none⟩ = some (.int .i64 (ps[i]?.getD (0, 0, 0)).2.2)

theorem Nums.keep {w w' : World} {A : Option Addr} {zs : List Int} (h : Nums w A zs) (hs : w.heap.size ≤ w'.heap.size) (hc : ∀ p : Addr, p.block < w.heap.size → w'.cell? p = w.cell? p) : Nums w' A zs := fun hne => by
  obtain ⟨b, off, e, hb, hi⟩ := h hne
  exact ⟨b, off, e, by omega, fun i hl => (hc _ hb).trans (hi i hl)⟩
theorem Nums.below {w w' : World} {A : Option Addr} {zs : List Int} (h : Nums w A zs) (hb : Below w.heap.size w w') : Nums w' A zs := h.keep hb.size fun _ hp => hb.cell hp
theorem Pins.keep {w w' : World} {A : Option Addr} {ps : List (Int × Int × Int)} (h : Pins w A ps) (hs : w.heap.size ≤ w'.heap.size) (hc : ∀ p : Addr, p.block < w.heap.size → w'.cell? p = w.cell? p) : Pins w' A ps := fun hne => by
  obtain ⟨b, off, e, hb, hi⟩ := h hne
  exact ⟨b, off, e, by omega, fun i hl => ⟨(hc _ hb).trans (hi i hl).1, (hc _ hb).trans (hi i hl).2.1, (hc _ hb).trans (hi i hl).2.2⟩⟩
theorem Pins.below {w w' : World} {A : Option Addr} {ps : List (Int × Int × Int)} (h : Pins w A ps) (hb : Below w.heap.size w w') : Pins w' A ps := h.keep hb.size fun _ hp => hb.cell hp

theorem ret_u64 {a b : Int} (h : a = b) : Ending.returned (.int .u64 a) = .returned (.int .u64 b) := by rw [h]
theorem ret_u64_bool {a b : Int} {x y : Bool} (h : a = b) (h' : x = y) : Ending.returned (.tuple #[.int .u64 a, .bool x]) = .returned (.tuple #[.int .u64 b, .bool y]) := by rw [h, h']

/-- A call that leaves the world as it is, in a region that draws. -/
theorem quiet_l {P : Program} {f : FuncId} {args : Array Value} {w : World} {n : Nat} {v : Value} (h : Calls P f args (w.drewN n) fun e w' => e = .returned v ∧ w.drewN n = w') :
    Calls P f args (w.drewN n) fun e w'' => e = .returned v ∧ ∃ m, w'' = w.drewN m :=
  h.mono fun _ _ ⟨he, hm⟩ => ⟨he, n, hm.symm⟩
theorem below_drewN {B : Nat} {a w : World} (h : Below B a w) (n : Nat) : Below B a (w.drewN n) := ⟨h.os, h.tape, h.output, h.size, h.block⟩
end Go.Proofs.Ytmedkmlokkiefaa
