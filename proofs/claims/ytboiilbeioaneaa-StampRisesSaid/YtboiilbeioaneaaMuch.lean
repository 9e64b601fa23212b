/- How many operations entries have together: not fewer than there are entries. -/
import Derived.Test.YtboiilbeioaneaaLast2
namespace Go.Proofs.Ytboiilbeioaneaa
open Go.RowKit Law

set_option maxHeartbeats 400000 in
set_option maxRecDepth 100000 in
theorem much_real (A : Option Addr) (n cap : Nat) (es : List Ent) (w : World) (h : Ents w A es) (hn : es.length = n) (hm : n ≤ 140737488351232) (ho : ∀ e ∈ es, e.ops.length ≤ 140737488351232) :
    Calls Try.prog 5 #[.slice A n cap] w fun e w' => ∃ m : Nat, e = .returned (.int .i64 (m : Int)) ∧ n ≤ m ∧ w = w' := by
  subst hn
  have HO := Lib.hid ho
  clear ho
  go_enter Try.func5, Try.ntmps5
  go_wp2
  go_loop [3, 4] (fun s i => ∃ (k m : Nat), k ≤ es.length ∧ k ≤ 200 ∧ es.length ≤ m ∧ m ≤ es.length + k * 140737488351232 ∧ i = .int .i64 k ∧ s = .int .i64 (m : Int)) (fun _ i => es.length - (intOf i).toNat)
  case atStart => exact ⟨0, es.length, Nat.zero_le _, by omega, Nat.le_refl _, by omega, rfl, rfl⟩
  case round =>
    obtain ⟨k, m, hk, hk2, hm1, hm2, rfl, rfl⟩ := hrel
    by_cases hlt : k < es.length
    · by_cases h2 : k < 200
      · obtain ⟨b, off, rfl, hb, hc⟩ := h (by rintro rfl; simp at hlt)
        obtain ⟨⟨c0, c1, c2, c3⟩, _⟩ := hc k hlt
        have hq : (es[k]?.getD ent0).ops.length ≤ 140737488351232 := by
          rw [List.getElem?_eq_getElem hlt]
          exact HO.out _ (List.getElem_mem hlt)
        clear hc h
        generalize es[k]?.getD ent0 = q at *
        generalize q.ops.length = z at *
        go_wp2
        go_round
        case rel => exact ⟨k + 1, m + z, by omega, by omega, by omega, by omega, by go_num, by go_num⟩
        case measure => simp [intOf]; omega
      · go_wp2
        go_ret
        exact ⟨m, rfl, hm1, rfl⟩
    · go_wp2
      go_ret
      exact ⟨m, rfl, hm1, rfl⟩
end Go.Proofs.Ytboiilbeioaneaa
