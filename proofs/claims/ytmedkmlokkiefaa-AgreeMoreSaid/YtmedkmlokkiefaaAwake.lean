/- The walk of awake: the program computes at all. -/
import Derived.Test.YtmedkmlokkiefaaRefHorizon
namespace Go.Proofs.Ytmedkmlokkiefaa
open Go.RowKit Law

theorem nums97 (w : World) : Nums (w.alloc (.cells #[.int .u64 9, .int .u64 7] 22)) (some ⟨w.heap.size, 0, none⟩) [9, 7] := fun _ =>
  ⟨_, 0, rfl, by simp, fun i hi => by
    rw [World.cell?_alloc_at _ _ _ _ rfl]
    match i, hi with
    | 0, _ => rfl
    | 1, _ => rfl⟩
theorem pin14 (w : World) : Pins (w.alloc (.cells #[.int .i64 1, .int .u64 4, .int .i64 0] 31)) (some ⟨w.heap.size, 0, none⟩) [(1, 4, 0)] := fun _ =>
  ⟨_, 0, rfl, by simp, fun i hi => by
    rw [World.cell?_alloc_at _ _ _ _ rfl, World.cell?_alloc_at _ _ _ _ rfl, World.cell?_alloc_at _ _ _ _ rfl]
    match i, hi with
    | 0, _ => exact ⟨rfl, rfl, rfl⟩⟩
theorem nums_alloc {w : World} {A : Option Addr} {zs : List Int} (h : Nums w A zs) (o : Obj) : Nums (w.alloc o) A zs := h.below ((Below.refl _ _).alloc (Nat.le_refl _) _)

theorem least97 (w : World) : Calls Try.prog 7 #[.slice (some ⟨w.heap.size, 0, none⟩) 2 2] (w.alloc (.cells #[.int .u64 9, .int .u64 7] 22)) fun e w' =>
    e = .returned (.tuple #[.int .u64 7, .bool true]) ∧ ∃ n, w' = (w.alloc (.cells #[.int .u64 9, .int .u64 7] 22)).drewN n :=
  Least_any _ 2 2 [9, 7] _ (nums97 w) rfl (by omega) (by omega)

theorem horizon34 (W : World) (a b : Nat) (ha : a = W.heap.size) (hb : b = W.heap.size + 1) :
    Calls Try.prog 9 #[.int .u64 3, .slice (some ⟨a, 0, none⟩) 2 2, .slice (some ⟨b, 0, none⟩) 1 1] ((W.alloc (.cells #[.int .u64 9, .int .u64 7] 22)).alloc (.cells #[.int .i64 1, .int .u64 4, .int .i64 0] 31)) fun e w' =>
      e = .returned (.int .u64 4) ∧ Below W.heap.size W w' := by
  subst ha
  have hb' : b = (W.alloc (.cells #[.int .u64 9, .int .u64 7] 22)).heap.size := by simp [hb]
  subst hb'
  refine (Horizon_any 3 _ _ 2 2 1 1 [9, 7] [(1, 4, 0)] _ (nums_alloc (nums97 W) _) rfl (by omega) (by omega) (pin14 _) rfl (by omega) (by decide) (by decide)).mono ?_
  rintro e w' ⟨rfl, h⟩
  exact ⟨rfl, (((Below.refl _ _).alloc (Nat.le_refl _) _).alloc (by simp) _).trans (h.mono (by simp; omega))⟩
theorem horizon3 (W : World) : Calls Try.prog 9 #[.int .u64 3, .slice none 0 0, .slice none 0 0] W fun e w' => e = .returned (.int .u64 3) ∧ Below W.heap.size W w' :=
  horizon_none 3 none none 0 0 0 W

set_option maxHeartbeats 400000 in
theorem awake_any (w : World) : Calls Try.prog 6 #[] w fun e w' => e = .returned (.bool true) ∧ Below w.heap.size w w' := by
  go_enter Try.func6, Try.ntmps6
  go_wp2_with fail
  refine (least97 w).mono ?_
  rintro e w1 ⟨rfl, m, rfl⟩
  go_wp2_with fail
  refine (horizon34 _ _ _ (by simp) (by simp)).mono ?_
  rintro e w2 ⟨rfl, hB⟩
  have hB2 : Below w.heap.size w w2 := (below_drewN ((Below.refl _ _).alloc (Nat.le_refl _) _) _).trans (hB.mono (by simp))
  clear hB
  go_wp2_with fail
  refine (horizon3 _).mono ?_
  rintro e w3 ⟨rfl, hB⟩
  have hB3 : Below w.heap.size w w3 := hB2.trans (hB.mono hB2.size)
  clear hB hB2
  go_wp2
  go_ret
  exact ⟨rfl, hB3⟩
end Go.Proofs.Ytmedkmlokkiefaa
