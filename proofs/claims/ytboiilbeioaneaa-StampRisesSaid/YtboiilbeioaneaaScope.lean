/- A law of mine: a scope in which the run jumps back to one label, inside a fence: what holds at every jump, and a measure. -/
import Derived.ScopeJumps
import Derived.ControlIn
namespace Go.Proofs.Ytboiilbeioaneaa
open Go

theorem scope_in {P : Program} {b : Frame} {a : Act} {k : List Item} {cs : List Frame} {w : World} {c : Code} :
    step P (lone (b.atR a (.code (.scope c) :: k)) cs w) = .next (lone (b.atR a (.code c :: .inScope c :: k)) cs w) := step_lone_go (by simp [stepG, stepG.exec, Frame.atR])
theorem scope_out {P : Program} {b : Frame} {a : Act} {k : List Item} {cs : List Frame} {w : World} {c : Code} :
    step P (lone (b.atR a (.inScope c :: k)) cs w) = .next (lone (b.atR a k) cs w) := step_lone_go (by simp [stepG, stepG.exec, Frame.atR])

theorem scope_again {F : Fence} {n : Nat} {P : Program} {Q : Exit → Act → World → Prop} {a : Act} {w : World} {c rest : Code} (l : Nat) (J : Act → World → Prop) (μ : Act → World → Nat)
    (hf : findLabel c l = some rest) (first : c.wpIn F n P (Exit.jump l J Q) a w)
    (pass : ∀ a w, J a w → rest.wpIn F n P (Exit.jump l (fun a' w' => J a' w' ∧ μ a' w' < μ a w) Q) a w) : (Code.scope c).wpIn F n P Q a w := by
  intro b k cs hro hb hr
  have hcalm : ∀ (a : Act) (w : World), StepsIn (Machine.fenced P F) P (lone (b.atR a (.inScope c :: k)) cs w) (lone (b.atR a k) cs w) := fun _ _ => .one (fenced_calm hb hr rfl) scope_out
  -- what leaves the scope by any way but the jump arrives behind it
  have out : ∀ (m : Machine) (e : Exit) (a₁ : Act) (w₁ : World), (∀ l', e ≠ .goto l') → ArrivesIn (Machine.fenced P F) P m b (.inScope c :: k) cs e a₁ w₁ → ArrivesIn (Machine.fenced P F) P m b k cs e a₁ w₁ := by
    intro m e a₁ w₁ hne h
    cases e with
    | normal => exact StepsIn.trans h (hcalm a₁ w₁)
    | exit id => exact ⟨fun k' hk => h.1 k' (by simpa [exitTo] using hk), fun h1 hk => h.2 h1 (by simpa [exitTo] using hk)⟩
    | goto l' => exact absurd rfl (hne l')
    | ret => exact h
    | panic ch => exact h
    | outgrown => exact h
  have hg : gotoIn l (.inScope c :: k) = some (.code rest :: .inScope c :: k) := by simp [gotoIn, hf]
  have again : ∀ j a w, μ a w = j → J a w → ∃ e a' w', Q e a' w' ∧ ArrivesIn (Machine.fenced P F) P (lone (b.atR a (.code rest :: .inScope c :: k)) cs w) b k cs e a' w' := by
    intro j
    induction j using Nat.strongRecOn with
    | _ j ih =>
      intro a w hj hJ
      obtain ⟨e, a₁, w₁, hq, harr⟩ := pass a w hJ b (.inScope c :: k) cs hro hb hr
      by_cases he : ∃ l', e = .goto l'
      · obtain ⟨l', rfl⟩ := he
        obtain ⟨rfl, hJ1, hlt⟩ := hq
        obtain ⟨e₂, a₂, w₂, hq₂, h₂⟩ := ih _ (by omega) a₁ w₁ rfl hJ1
        exact ⟨e₂, a₂, w₂, hq₂, .of_steps (harr.1 _ hg) h₂⟩
      · refine ⟨e, a₁, w₁, ?_, out _ _ _ _ (fun l' h => he ⟨l', h⟩) harr⟩
        cases e <;> first | exact hq | exact absurd ⟨_, rfl⟩ he
  obtain ⟨e, a₁, w₁, hq, harr⟩ := first b (.inScope c :: k) cs hro hb hr
  by_cases he : ∃ l', e = .goto l'
  · obtain ⟨l', rfl⟩ := he
    obtain ⟨rfl, hJ1⟩ := hq
    obtain ⟨e₂, a₂, w₂, hq₂, h₂⟩ := again _ a₁ w₁ rfl hJ1
    exact ⟨e₂, a₂, w₂, hq₂, .of_steps (.one (fenced_calm hb hr rfl) scope_in) (.of_steps (harr.1 _ hg) h₂)⟩
  · refine ⟨e, a₁, w₁, ?_, .of_steps (.one (fenced_calm hb hr rfl) scope_in) (out _ _ _ _ (fun l' h => he ⟨l', h⟩) harr)⟩
    cases e <;> first | exact hq | exact absurd ⟨_, rfl⟩ he
/-- The same, where the way to the label may use what holds behind the label. -/
theorem scope_again2 {F : Fence} {n : Nat} {P : Program} {Q : Exit → Act → World → Prop} {a : Act} {w : World} {c X : Code} (l : Nat) (J : Act → World → Prop) (μ : Act → World → Nat)
    (hf : findLabel c l = some (Code.skip.seq X)) (first : (∀ a w, J a w → X.wpIn F n P (Exit.jump l J Q) a w) → c.wpIn F n P (Exit.jump l J Q) a w)
    (pass : ∀ a w, J a w → X.wpIn F n P (Exit.jump l (fun a' w' => J a' w' ∧ μ a' w' < μ a w) Q) a w) : (Code.scope c).wpIn F n P Q a w :=
  scope_again l J μ hf (first fun a w hJ => wpIn_mono (pass a w hJ) fun e a w h => by
    cases e <;> first | exact h | exact ⟨h.1, h.2.1⟩) (fun a w hJ => wpIn_seq (wpIn_skip (pass a w hJ)))
end Go.Proofs.Ytboiilbeioaneaa
