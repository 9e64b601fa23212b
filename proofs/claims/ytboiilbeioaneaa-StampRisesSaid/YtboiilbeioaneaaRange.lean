/- A law of mine: a range over a function value that keeps a state of its own in one box. -/
import Derived.RangeFuncNested
import Derived.RangeFuncBound
import Derived.RangeFuncCalls
import Derived.RangeFuncLeaves
import Derived.Shelf.Abstract
namespace Go.Proofs.Ytboiilbeioaneaa
open Go Go.RowKit

/-- How a round may end: it goes on, or it leaves by a jump. -/
def RoundEnd {α : Type} (B : Nat) (Kp : World → World → Prop) (I : List α → World → Prop) (Ix : Code → List α → World → Prop) (xs : List α) (W : World) : Exit → Act → World → Prop
  | .normal, _, W' => KeepsFrom B W W' ∧ Kp W W' ∧ I xs W'
  | .ret, _, W' => KeepsFrom B W W' ∧ Ix .ret xs W'
  | .exit id, _, W' => KeepsFrom B W W' ∧ Ix (.exit id) xs W'
  | _, _, _ => False

section
variable {α : Type} {F : Fence} {n : Nat} {P : Program} {g : Operand} {ps : Array Tmp} {assign body : Code} {Q : Exit → Act → World → Prop} {a : Act} {w : World}

theorem range_box (hro : F.round = none) (h1 : 1 ≤ n) {gf : Nat} {lb : Array Value} (hg : a.eval g = .func (.func gf) #[] lb) (hFg : F.fn gf) (eg : ∀ args w, (callFunc gf args).run P w = .ok (.enter gf args) w)
    (encs : α → Array Value) (hps : ∀ x, (encs x).size = ps.size) (b : Nat) (hb : b < w.heap.size) (Kp : World → World → Prop) (S Sp : List α → Prop)
    (I : List α → World → Prop) (Ix : Code → List α → World → Prop)
    (hKt : ∀ {A B C : World}, Kp A B → Kp B C → Kp A C) (hKp : ∀ (W : World) (l : Nat) (o : Obj), w.heap.size ≤ l → Kp W (W.putObj l o))
    (hIa : ∀ pre W o, I pre W → I pre (W.alloc o))
    (hIp : ∀ pre W l o o', I pre W → w.heap.size ≤ l → W.heap[l]? = some o → o.isCells = false → I pre (W.putObj l o'))
    (hXp : ∀ c pre W l o o', Ix c pre W → w.heap.size ≤ l → W.heap[l]? = some o → o.isCells = false → Ix c pre (W.putObj l o'))
    (hIb : ∀ pre W v, I pre W → I pre (W.setCell ⟨b, 0, none⟩ v))
    (hit : ∀ (l : Nat) (J Jx : List α → World → Prop) (W1 : World), Below w.heap.size w W1 → (∀ pre W v, J pre W → J pre (W.setCell ⟨b, 0, none⟩ v)) →
      (∀ pre x W, J pre W → YieldAt F (n - 1 - 1) P l (encs x) W fun e W' => (e = .returned (.bool true) ∧ J (pre ++ [x]) W' ∧ Kp W W') ∨ (e = .returned (.bool false) ∧ Jx (pre ++ [x]) W')) →
      J [] W1 → CallsIn F (n - 1) P gf (#[.func (.yield l) #[] #[]] ++ lb) W1 fun e W' => (∃ v, e = .returned v) ∧ ((∃ xs, S xs ∧ J xs W') ∨ (∃ pre, Sp pre ∧ Jx pre W')))
    (h0 : I [] w) (a₁ : α → Act)
    (hassign : ∀ (l : Nat) (x : α) (W : World) (K : Act → World → Prop), K (a₁ x) W →
      assign.wpIn (F.inRound l) (n - 1 - 1) P (Exit.then K (fun _ _ _ => False)) { tmps := (ps.zip (encs x)).foldl (fun t (p, v) => t.setIfInBounds p v) a.tmps, defers := [] } W)
    (hbody : ∀ (l : Nat) (pre : List α) (x : α) (W : World), I pre W → body.wpIn (F.inRound l) (n - 1 - 1) P (RoundEnd w.heap.size Kp I Ix (pre ++ [x]) W) (a₁ x) W)
    (hdone : ∀ (D : Nat) (xs : List α) (W : World), w.heap.size ≤ D → S xs → I xs W → W.heap[D]? = some (.deferred (some [])) → Q .normal { a with defers := { target := .collected D, args := #[] } :: a.defers } W)
    (hstop : ∀ (D : Nat) (c : Code) (pre : List α) (W : World), w.heap.size ≤ D → Sp pre → Ix c pre W → W.heap[D]? = some (.deferred (some [])) → c.wpIn F n P Q { a with defers := { target := .collected D, args := #[] } :: a.defers } W) :
    (Code.rangeFunc g ps assign body).wpIn F n P Q a w := by
  refine wpIn_rangeFunc fun fn hfn => ?_
  rw [hro]
  -- the loop's record, and what the book-keeping says of a world
  obtain ⟨rec, hrec⟩ : ∃ rec : LoopState → Option Code → Loop, rec = fun st pe => { state := st, pending := pe, fn, tmps := a.tmps, params := ps, assign, body, defers := w.heap.size } := ⟨_, rfl⟩
  let Book : LoopState → Option Code → World → Prop := fun st pe W => W.heap[w.heap.size + 1]? = some (.loop (rec st pe)) ∧ W.heap[w.heap.size]? = some (.deferred (some []))
  have hD : ∀ W : World, ∀ st pe st' pe', Book st pe W → Book st' pe' (W.putObj (w.heap.size + 1) (.loop (rec st' pe'))) := fun W st pe st' pe' h =>
    ⟨World.putObj_heap_same (Array.getElem?_eq_some_iff.1 h.1).1, (World.putObj_heap_other (by omega)).trans h.2⟩
  have hkeep : ∀ {W W' : World} {st pe}, KeepsFrom w.heap.size W W' → Book st pe W → Book st pe W' := fun hk h => ⟨hk.same _ _ (by omega) h.1 rfl, hk.same _ _ (Nat.le_refl _) h.2 rfl⟩
  obtain ⟨W1, hW1⟩ : ∃ W1, (w.alloc (.deferred (some []))).alloc (.loop (rec .ready none)) = W1 := ⟨_, rfl⟩
  have hB1 : Book .ready none W1 := by
    refine ⟨?_, ?_⟩
    · rw [← hW1]
      have := World.alloc_heap_new (w.alloc (.deferred (some []))) (.loop (rec .ready none))
      rwa [World.size_alloc] at this
    · rw [← hW1]
      exact (Below.heap_alloc _ _ _ (by simp)).trans (World.alloc_heap_new w _)
  have hI1 : I [] W1 := by rw [← hW1]; exact hIa _ _ _ (hIa _ _ _ h0)
  have hbel : Below w.heap.size w W1 := by rw [← hW1]; exact ((Below.refl _ w).alloc (Nat.le_refl _) _).alloc (by simp) _
  refine ⟨w.heap.size + 1, [{ target := .collected w.heap.size, args := #[] }], W1, { target := .fn (.func gf) lb, args := #[.func (.yield (w.heap.size + 1)) #[] #[]] }, W1, gf,
    #[.func (.yield (w.heap.size + 1)) #[] #[]] ++ lb, W1, ?_, ?_, ?_, ?_, fun _ => h1, ?_⟩
  · rw [← hW1, hrec]; exact run_enterLoop_outer _ _ _ _ _
  · simp only [resolve, hg]
    simp [go_sem]
  · intro f' hf'; simp [Target.leads] at hf'; subst hf'; exact hFg
  · simp [invoke, go_sem, eg]
  · refine (hit (w.heap.size + 1) (fun pre W => I pre W ∧ Book .ready none W) (fun pre W => ∃ c, Ix c pre W ∧ Book .done (some c) W) W1 hbel ?_ ?_ ⟨hI1, hB1⟩).mono ?_
    · rintro pre W v ⟨hi, hl, hk⟩
      exact ⟨hIb _ _ _ hi, (Below.heap_setCell _ _ _ _ (show w.heap.size + 1 ≠ b by omega)).trans hl, (Below.heap_setCell _ _ _ _ (show w.heap.size ≠ b by omega)).trans hk⟩
    · -- one round
      rintro pre x W ⟨hi, hbk⟩
      have hy := run_yield (P := P) (args := encs x) hbk.1 (by rw [hrec]; exact hps x)
      rw [hrec] at hy
      refine ⟨fn, _, assign, body, hy, roundIn_of_wpIn hfn (hassign _ x W _ ?_)⟩
      clear hy
      have hbusy := hD W _ _ .busy none hbk
      have hbeg := run_beginRound (P := P) hbk.1 (by rw [hrec])
      have hsame : ({ rec .ready none with state := .busy } : Loop) = rec .busy none := by rw [hrec]
      rw [hsame] at hbeg
      refine ⟨_, hbeg, wpIn_mono (hbody _ pre x _ (hIp _ _ _ _ _ hi (by omega) hbk.1 rfl)) ?_⟩
      have hkW : Kp W (W.putObj (w.heap.size + 1) (.loop (rec .busy none))) := hKp _ _ _ (by omega)
      have ending : ∀ (j : Option Code) (W3 : World), KeepsFrom w.heap.size (W.putObj (w.heap.size + 1) (.loop (rec .busy none))) W3 →
          (Instr.endRound (w.heap.size + 1) j).run P W3 = .ok (.bool j.isNone) (W3.putObj (w.heap.size + 1) (.loop (rec (if j.isNone then .ready else .done) j))) ∧ Book .busy none W3 := fun j W3 hk => by
        have h3 := hkeep hk hbusy
        have := run_endRound (P := P) j h3.1
        rw [hrec] at this
        exact ⟨by rw [hrec]; exact this, h3⟩
      rintro e a3 W3 hp
      cases e with
      | normal =>
        obtain ⟨hk, hkp, hi3⟩ := hp
        obtain ⟨hr, h3⟩ := ending none W3 hk
        exact ⟨_, _, hr, .inl ⟨rfl, ⟨hIp _ _ _ _ _ hi3 (by omega) h3.1 rfl, hD _ _ _ _ _ h3⟩, hKt hkW (hKt hkp (hKp _ _ _ (by omega)))⟩⟩
      | ret =>
        obtain ⟨hk, hx⟩ := hp
        obtain ⟨hr, h3⟩ := ending (some .ret) W3 hk
        exact ⟨_, _, hr, .inr ⟨rfl, .ret, hXp _ _ _ _ _ _ hx (by omega) h3.1 rfl, hD _ _ _ _ _ h3⟩⟩
      | exit id =>
        obtain ⟨hk, hx⟩ := hp
        obtain ⟨hr, h3⟩ := ending (some (.exit id)) W3 hk
        exact ⟨_, _, hr, .inr ⟨rfl, .exit id, hXp _ _ _ _ _ _ hx (by omega) h3.1 rfl, hD _ _ _ _ _ h3⟩⟩
      | goto t => exact hp.elim
      | panic ch => exact hp.elim
      | outgrown => exact hp.elim
    · -- behind the iterator
      rintro e W2 ⟨⟨v, rfl⟩, (⟨xs, hS, hi, hbk⟩ | ⟨pre, hSp, c, hx, hbk⟩)⟩
      · have := run_endLoop (P := P) hbk.1 (by rw [hrec]; simp)
        rw [hrec] at this
        exact ⟨none, _, this, hdone _ xs _ (Nat.le_refl _) hS (hIp _ _ _ _ _ hi (by omega) hbk.1 rfl) ((World.putObj_heap_other (by omega)).trans hbk.2)⟩
      · have := run_endLoop (P := P) hbk.1 (by rw [hrec]; simp)
        rw [hrec] at this
        exact ⟨some c, _, this, hstop _ c pre _ (Nat.le_refl _) hSp (hXp _ _ _ _ _ _ hx (by omega) hbk.1 rfl) ((World.putObj_heap_other (by omega)).trans hbk.2)⟩
end
end Go.Proofs.Ytboiilbeioaneaa
