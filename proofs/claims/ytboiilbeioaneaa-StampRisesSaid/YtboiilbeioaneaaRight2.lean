/- Whether a log is right, by the reference: the walk of Right. -/
import Derived.Test.YtboiilbeioaneaaRight
namespace Go.Proofs.Ytboiilbeioaneaa
open Go.RowKit Law

/-- What is wrong with an entry. -/
def chkE (e : Ent) : Int := chkB e.client e.req e.ops
/-- Have two entries one client and one number? -/
def twin (a b : Ent) : Bool := a.client == b.client && a.req == b.req
/-- What is wrong with the i-th entry. -/
def rowE (es : List Ent) (i : Nat) : Int :=
  if chkE (es[i]?.getD ent0) ≠ 0 then chkE (es[i]?.getD ent0) else if ∃ k, k < i ∧ twin (es[k]?.getD ent0) (es[i]?.getD ent0) = true then 18
  else if 0 < i ∧ (es[i]?.getD ent0).ts ≠ 0 ∧ ((es[i - 1]?.getD ent0).ts = 0 ∨ (es[i]?.getD ent0).ts ≤ (es[i - 1]?.getD ent0).ts) then 18 else 0
/-- Whether a log is right. -/
def rightE (es : List Ent) : Int := firstE es.length (rowE es)

theorem entry_any (c r ts : Int) (A : Option Addr) (n cap : Nat) (ps : List Opn) (w : World) (h : Opns w A ps) (hn : ps.length = n) (hm : n ≤ 9223372036854775807) :
    Calls Try.prog 21 #[.agg #[.int .i64 c, .int .i64 r, .slice A n cap, .int .u64 ts]] w fun e w' => e = .returned (.int .i64 (chkB c r ps)) ∧ Below w.heap.size w w' := by
  have HN := Lib.hid hn
  clear hn
  go_enter Try.func21, Try.ntmps21
  go_wp2_with fail
  refine (batch_any c r A n cap ps _ (h.below ((Below.refl _ _).alloc (Nat.le_refl _) _)) HN.out hm).mono ?_
  rintro e w1 ⟨rfl, hB⟩
  have hB1 : Below w.heap.size w w1 := ((Below.refl _ _).alloc (Nat.le_refl _) _).trans (hB.mono (by simp))
  clear hB
  go_wp2
  go_ret
  exact ⟨rfl, hB1⟩

theorem twins_any (c r t c' r' t' : Int) (s s' : Value) (w : World) (hs : ∃ A n cap, s = .slice A n cap) (hs' : ∃ A n cap, s' = .slice A n cap) :
    Calls Try.prog 22 #[.agg #[.int .i64 c, .int .i64 r, s, .int .u64 t], .agg #[.int .i64 c', .int .i64 r', s', .int .u64 t']] w fun e w' => e = .returned (.bool (c == c' && r == r')) ∧ Below w.heap.size w w' := by
  obtain ⟨A, n, cap, rfl⟩ := hs
  obtain ⟨A', n', cap', rfl⟩ := hs'
  have hB := (((Below.refl w.heap.size w).alloc (Nat.le_refl _) (.cells #[.int .i64 c, .int .i64 r, .slice A n cap, .int .u64 t] 42)).alloc (by simp) (.cells #[.int .i64 c', .int .i64 r', .slice A' n' cap', .int .u64 t'] 42))
  cases h1 : c == c'
  · go_enter Try.func22, Try.ntmps22
    go_wp2
    go_ret
    exact ⟨rfl, hB⟩
  · cases h2 : r == r'
    · go_enter Try.func22, Try.ntmps22
      go_wp2
      go_ret
      exact ⟨rfl, hB⟩
    · go_enter Try.func22, Try.ntmps22
      go_wp2
      go_ret
      exact ⟨rfl, hB⟩
end Go.Proofs.Ytboiilbeioaneaa
