/- Words for entries of a log in memory: a slice of entries, or of operations, that reads as a list; what keeps it; how many have timestamps. -/
import Derived.Test.YtboiilbeioaneaaRows
import Derived.Test.YtboiilbeioaneaaEntLaw
import Derived.WalkKit
import Derived.WalkSpells
import Derived.WalkLawsBesides
import Derived.Below
import Derived.Lib.Hide
import Derived.BigQuiet
import Derived.Deep.QuietTactic
import Derived.Outline
namespace Go.Proofs.Ytboiilbeioaneaa
open Go.RowKit Law

structure Opn where
  key : ByteArray
  val : ByteArray
  del : Bool
structure Ent where
  client : Int
  req : Int
  oa : Option Addr
  oc : Nat
  ops : List Opn
  ts : Int
def opn0 : Opn := ⟨ByteArray.empty, ByteArray.empty, false⟩
def ent0 : Ent := ⟨0, 0, none, 0, [], 0⟩

/-- A slice's address leads to these operations. -/
def Opns (w : World) (A : Option Addr) (ps : List Opn) : Prop :=
  ps ≠ [] → ∃ b off, A = some ⟨b, off, none⟩ ∧ b < w.heap.size ∧ ∀ i, i < ps.length →
    w.cell? ⟨b, off + i * 3, none⟩ = some (.string (ps[i]?.getD opn0).key) ∧ w.cell? ⟨b, off + i * 3 + 1, none⟩ = some (.string (ps[i]?.getD opn0).val) ∧
    w.cell? ⟨b, off + i * 3 + 2, none⟩ = some (.bool (ps[i]?.getD opn0).del)
/-- A slice's address leads to these entries. -/
def Ents (w : World) (A : Option Addr) (es : List Ent) : Prop :=
  es ≠ [] → ∃ b off, A = some ⟨b, off, none⟩ ∧ b < w.heap.size ∧ ∀ i, i < es.length →
    (w.cell? ⟨b, off + i * 4, none⟩ = some (.int .i64 (es[i]?.getD ent0).client) ∧ w.cell? ⟨b, off + i * 4 + 1, none⟩ = some (.int .i64 (es[i]?.getD ent0).req) ∧
    w.cell? ⟨b, off + i * 4 + 2, none⟩ = some (.slice (es[i]?.getD ent0).oa (es[i]?.getD ent0).ops.length (es[i]?.getD ent0).oc) ∧ w.cell? ⟨b, off + i * 4 + 3, none⟩ = some (.int .u64 (es[i]?.getD ent0).ts)) ∧
    Opns w (es[i]?.getD ent0).oa (es[i]?.getD ent0).ops

theorem Opns.keep {w w' : World} {A : Option Addr} {ps : List Opn} (h : Opns w A ps) (hs : w.heap.size ≤ w'.heap.size) (hc : ∀ p : Addr, p.block < w.heap.size → w'.cell? p = w.cell? p) : Opns w' A ps := fun hne => by
  obtain ⟨b, off, e, hb, hi⟩ := h hne
  exact ⟨b, off, e, by omega, fun i hl => ⟨(hc _ hb).trans (hi i hl).1, (hc _ hb).trans (hi i hl).2.1, (hc _ hb).trans (hi i hl).2.2⟩⟩
theorem Opns.below {w w' : World} {A : Option Addr} {ps : List Opn} (h : Opns w A ps) (hb : Below w.heap.size w w') : Opns w' A ps := h.keep hb.size fun _ hp => hb.cell hp
theorem Ents.keep {w w' : World} {A : Option Addr} {es : List Ent} (h : Ents w A es) (hs : w.heap.size ≤ w'.heap.size) (hc : ∀ p : Addr, p.block < w.heap.size → w'.cell? p = w.cell? p) : Ents w' A es := fun hne => by
  obtain ⟨b, off, e, hb, hi⟩ := h hne
  exact ⟨b, off, e, by omega, fun i hl => ⟨⟨(hc _ hb).trans (hi i hl).1.1, (hc _ hb).trans (hi i hl).1.2.1, (hc _ hb).trans (hi i hl).1.2.2.1, (hc _ hb).trans (hi i hl).1.2.2.2⟩, (hi i hl).2.keep hs hc⟩⟩
theorem Ents.below {w w' : World} {A : Option Addr} {es : List Ent} (h : Ents w A es) (hb : Below w.heap.size w w') : Ents w' A es := h.keep hb.size fun _ hp => hb.cell hp

theorem below_drewN {B : Nat} {a w : World} (h : Below B a w) (n : Nat) : Below B a (w.drewN n) := ⟨h.os, h.tape, h.output, h.size, h.block⟩
theorem quiet_l {P : Program} {f : FuncId} {args : Array Value} {w : World} {n : Nat} {v : Value} (h : Calls P f args (w.drewN n) fun e w' => e = .returned v ∧ w.drewN n = w') :
    Calls P f args (w.drewN n) fun e w'' => e = .returned v ∧ ∃ m, w'' = w.drewN m :=
  h.mono fun _ _ ⟨he, hm⟩ => ⟨he, n, hm.symm⟩
theorem ret_i64 {a b : Int} (h : a = b) : Ending.returned (.int .i64 a) = .returned (.int .i64 b) := by rw [h]
theorem ret_u64 {a b : Int} (h : a = b) : Ending.returned (.int .u64 a) = .returned (.int .u64 b) := by rw [h]

/-- The entries' timestamps. -/
def tss (es : List Ent) : List Int := es.map (·.ts)
theorem tss_length (es : List Ent) : (tss es).length = es.length := by simp [tss]
theorem tss_get (es : List Ent) (k : Nat) (hk : k < es.length) : (tss es)[k]'(by simpa [tss] using hk) = es[k].ts := by simp [tss]

/-! ### How many have a timestamp: the reference's -/
set_option maxHeartbeats 400000 in
theorem refStamped_any (A : Option Addr) (n cap : Nat) (es : List Ent) (w : World) (h : Ents w A es) (hn : es.length = n) (hm : n ≤ 9223372036854775807) :
    Calls Try.prog 16 #[.slice A n cap] w fun e w' => e = .returned (.int .i64 (stp (tss es))) ∧ w = w' := by
  subst hn
  go_enter Try.func16, Try.ntmps16
  go_wp2
  go_loop [3] (fun i => ∃ k : Nat, k ≤ es.length ∧ i = .int .i64 k ∧ ∀ j, (hj : j < k) → (hl : j < es.length) → es[j].ts ≠ 0) (fun i => es.length - (intOf i).toNat)
  case atStart => exact ⟨0, Nat.zero_le _, rfl, fun j hj => absurd hj (by omega)⟩
  case round =>
    obtain ⟨k, hk, rfl, hall⟩ := hrel
    have HA := Lib.hid hall
    clear hall
    by_cases hlt : k < es.length
    · obtain ⟨b, off, rfl, hb, hc⟩ := h (by rintro rfl; simp at hlt)
      obtain ⟨⟨c0, c1, c2, c3⟩, _⟩ := hc k hlt
      clear hc h
      by_cases hz : es[k].ts = 0
      · have hzb : (es[k].ts == 0) = true := by simp [hz]
        have HZ := Lib.hid hz
        clear hz
        go_wp2
        go_ret
        refine ⟨ret_i64 ?_, rfl⟩
        rw [stp_at (tss es) k (by simpa [tss] using hlt) (fun j hj => by rw [tss_get es j (by omega)]; exact HA.out j hj (by omega)) (by rw [tss_get es k hlt]; exact HZ.out)]
      · have hzb : (es[k].ts == 0) = false := by simp [hz]
        have HZ := Lib.hid hz
        clear hz
        go_wp2
        go_round
        case rel => exact ⟨k + 1, by omega, by go_num, fun j hj hl => by
          by_cases e : j = k
          · subst e; exact HZ.out
          · exact HA.out j (by omega) hl⟩
        case measure => simp [intOf]; omega
    · go_wp2
      go_ret
      refine ⟨ret_i64 ?_, rfl⟩
      rw [stp_all (tss es) (fun j hj => by rw [tss_get es j (by simpa [tss] using hj)]; exact HA.out j (by simp [tss] at hj; omega) (by simpa [tss] using hj)), tss_length]

/-! ### .. and the program's -/
set_option maxHeartbeats 400000 in
theorem itemStamped_any (A : Option Addr) (n cap : Nat) (es : List Ent) (w : World) (h : Ents w A es) (hn : es.length = n) (hm : n ≤ 9223372036854775807) :
    Calls Try.prog 18 #[.slice A n cap] w fun e w' => e = .returned (.int .i64 (stp (tss es))) ∧ Below w.heap.size w w' := by
  subst hn
  go_enter Try.func18, Try.ntmps18
  go_wp2
  go_loopw [7] (fun i wr => ∃ k : Nat, k ≤ es.length ∧ i = .int .i64 k ∧ (∀ j, (hj : j < k) → (hl : j < es.length) → es[j].ts ≠ 0) ∧ Below w.heap.size w wr) (fun i _ => es.length - (intOf i).toNat)
  case atStart => exact ⟨0, Nat.zero_le _, rfl, fun j hj => absurd hj (by omega), Below.refl _ _⟩
  case round =>
    obtain ⟨k, hk, rfl, hall, hB⟩ := hrel
    have HA := Lib.hid hall
    clear hall
    have hBs := hB.size
    by_cases hlt : k < es.length
    · obtain ⟨b, off, rfl, hb, hc⟩ := (h.below hB) (by rintro rfl; simp at hlt)
      obtain ⟨⟨c0, c1, c2, c3⟩, _⟩ := hc k hlt
      clear hc h
      by_cases hz : es[k].ts = 0
      · have hzb : (es[k].ts == 0) = true := by simp [hz]
        have HZ := Lib.hid hz
        clear hz
        go_wp2
        go_ret
        refine ⟨ret_i64 ?_, hB.alloc hBs _⟩
        rw [stp_at (tss es) k (by simpa [tss] using hlt) (fun j hj => by rw [tss_get es j (by omega)]; exact HA.out j hj (by omega)) (by rw [tss_get es k hlt]; exact HZ.out)]
      · have hzb : (es[k].ts == 0) = false := by simp [hz]
        have HZ := Lib.hid hz
        clear hz
        go_wp2
        go_roundw
        case rel => exact ⟨k + 1, by omega, by go_num, fun j hj hl => by
          by_cases e : j = k
          · subst e; exact HZ.out
          · exact HA.out j (by omega) hl, hB.alloc hBs _⟩
        case measure => simp [intOf]; omega
    · go_wp2
      go_ret
      refine ⟨ret_i64 ?_, hB⟩
      rw [stp_all (tss es) (fun j hj => by rw [tss_get es j (by simpa [tss] using hj)]; exact HA.out j (by simp [tss] at hj; omega) (by simpa [tss] using hj)), tss_length]
end Go.Proofs.Ytboiilbeioaneaa
