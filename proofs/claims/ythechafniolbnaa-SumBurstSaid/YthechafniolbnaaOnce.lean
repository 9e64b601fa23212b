/- The walks of Once.Do over a maker: the first time, and every other time. -/
import Derived.Test.YthechafniolbnaaFill
namespace Go.Proofs.Ythechafniolbnaa
open Go.RowKit Crc

theorem only_trans {a w w' : World} {row : Option Nat} (h : a.grownBy w row) (k : w.grownBy w' row) : a.grownBy w' row :=
  ⟨k.os.trans h.os, k.tape.trans h.tape, k.output.trans h.output, Nat.le_trans h.size k.size, fun j hj hne => (k.block j (Nat.lt_of_lt_of_le hj h.size) hne).trans (h.block j hj hne)⟩

theorem loaded_any (a : Addr) (d : Int) (w : World) (hc : w.cell? a = some (.int .u32 d)) : Calls Try.prog 22 #[.pointer (some a)] w fun e w' => e = .returned (.bool (!(d == 0))) ∧ w' = w := by
  have hl := run_call_load (P := Try.prog) Try.func26 (by kernel_rfl) (by kernel_rfl) (by kernel_rfl) .u32 (by kernel_rfl) hc
  go_enter Try.func22, Try.ntmps22
  go_wp2
  go_ret
  exact ⟨rfl, rfl⟩

set_option maxRecDepth 100000 in
set_option maxHeartbeats 1600000 in
theorem slow_any (g : Nat) (u : Int) (w : World) (hb : Blk w g 53 (mcs 0 0 (tbl 0) u true)) :
    Calls Try.prog 23 #[.pointer (some ⟨g, 0, none⟩), .func (.func 19) #[.pointer (some ⟨g, 0, none⟩)] #[]] w fun e w' => e = .returned (.tuple #[]) ∧ Blk w' g 53 (mcs 1 0 (tbl 256) u true) ∧ w.grownBy w' (some g) := by
  have hnot : ∀ (x : Bool) (w : World), (Op.unary .not (.bool x)).run Try.prog w = .ok (.bool (!x)) w := fun _ _ => rfl
  have hc1 := (hb.cell 1).trans (mcs_1 ..)
  have hz1 := hb.frozen 1
  have H1 := Lib.hid (show Blk (w.setCell ⟨g, 1, none⟩ (.int .i32 1)) g 53 (mcs 0 1 (tbl 0) u true) by have h := hb.set_ 1 (.int .i32 1); rw [mcs_state] at h; exact h)
  go_enter_defers Try.func23, Try.ntmps23
  go_wp2_with fail
  refine (lock_free ⟨g, 1, none⟩ _ hc1 hz1).mono ?_
  rintro e w1 ⟨rfl, rfl⟩
  clear hc1 hz1
  have HG := Lib.hid (only_setCell (World.grownBy.refl w (some g)) 1 (.int .i32 1))
  generalize w.setCell ⟨g, 1, none⟩ (.int .i32 1) = w1 at *
  have hb1 := H1.out
  have hd : (!((0 : Int) == 0)) = false := rfl
  go_wp2_with fail
  refine (loaded_any ⟨g, 0, none⟩ 0 _ ((hb1.cell 0).trans (mcs_0 ..))).mono ?_
  rintro e w2 ⟨rfl, rfl⟩
  go_wp2_with fail
  refine (fill_any g 0 1 u w2 hb1).mono ?_
  rintro e w3 ⟨rfl, hb3, hg3⟩
  have HG3 := Lib.hid (only_trans HG.out hg3)
  have HB3 := Lib.hid hb3
  clear hg3 hb1
  go_wp2
  have hb4 : Blk w3.drew g 53 (mcs 0 1 (tbl 256) u true) := hb3
  have hb5 := hb4.set_ 0 (.int .u32 1)
  rw [mcs_done] at hb5
  have hb6 := hb5.set_ 1 (.int .i32 0)
  rw [mcs_state] at hb6
  have hg4 : w.grownBy w3.drew (some g) := only_drewN HG3.out 1
  have hg6 := only_setCell (only_setCell hg4 0 (.int .u32 1)) 1 (.int .i32 0)
  refine leaves_cons (f := 29) (args := #[.pointer (some ⟨g, 0, none⟩), .bool true]) (by simp) (by simp [go_sem]) ?_
  refine (store_deferred ⟨g, 0, none⟩ (.int .u32 0) .returning _ ((hb3.cell 0).trans (mcs_0 ..)) (hb3.frozen 0)).mono ?_
  rintro e u' w'' ⟨rfl, rfl, rfl⟩
  refine leaves_cons (f := 28) (args := #[.pointer (some ⟨g, 1, none⟩)]) (by simp [settle]) (by simp [go_sem]) ?_
  refine (unlock_deferred ⟨g, 1, none⟩ _ _ ((hb5.cell 1).trans (mcs_1 ..)) (hb5.frozen 1)).mono ?_
  rintro e u' w'' ⟨rfl, rfl, rfl⟩
  have H := And.intro hb6 hg6
  clear hb3 hb4 hb5 hb6 hg6 hg4 hb
  simpa [Leaves, settle, results, Try.results23] using H

set_option maxRecDepth 100000 in
set_option maxHeartbeats 1600000 in
theorem do_first (g : Nat) (u : Int) (w : World) (hb : Blk w g 53 (mcs 0 0 (tbl 0) u true)) :
    Calls Try.prog 18 #[.pointer (some ⟨g, 0, none⟩), .func (.func 19) #[.pointer (some ⟨g, 0, none⟩)] #[]] w fun e w' => e = .returned (.tuple #[]) ∧ Blk w' g 53 (mcs 1 0 (tbl 256) u true) ∧ w.grownBy w' (some g) := by
  have hnot : ∀ (x : Bool) (w : World), (Op.unary .not (.bool x)).run Try.prog w = .ok (.bool (!x)) w := fun _ _ => rfl
  have hd : (!((0 : Int) == 0)) = false := rfl
  go_enter Try.func18, Try.ntmps18
  go_wp2_with fail
  refine (loaded_any ⟨g, 0, none⟩ 0 _ ((hb.cell 0).trans (mcs_0 ..))).mono ?_
  rintro e w2 ⟨rfl, rfl⟩
  go_wp2_with fail
  refine (slow_any g u w2 hb).mono ?_
  rintro e w3 ⟨rfl, hb3, hg3⟩
  have H := Lib.hid (And.intro hb3 hg3)
  clear hb3 hg3 hb
  go_wp2
  go_end0
  exact ⟨rfl, H.out.1, H.out.2⟩

set_option maxRecDepth 100000 in
theorem do_done (g : Nat) (fv : Value) (w : World) (h0 : w.cell? ⟨g, 0, none⟩ = some (.int .u32 1)) :
    Calls Try.prog 18 #[.pointer (some ⟨g, 0, none⟩), fv] w fun e w' => e = .returned (.tuple #[]) ∧ w' = w := by
  have hnot : ∀ (x : Bool) (w : World), (Op.unary .not (.bool x)).run Try.prog w = .ok (.bool (!x)) w := fun _ _ => rfl
  have hd : (!((1 : Int) == 0)) = true := rfl
  go_enter Try.func18, Try.ntmps18
  go_wp2_with fail
  refine (loaded_any ⟨g, 0, none⟩ 1 _ h0).mono ?_
  rintro e w2 ⟨rfl, rfl⟩
  go_wp2
  go_end0
  exact ⟨rfl, rfl⟩
end Go.Proofs.Ythechafniolbnaa
