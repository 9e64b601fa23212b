/- The walk of the iterator over a text's frames. -/
import Derived.Test.YtjjhbkmmkhkjnaaItems
import Derived.Test.YtjjhbkmmkhkjnaaScope
import Derived.RangeFuncNested
import Derived.RangeFuncBound
import Derived.RangeFuncCalls
import Derived.RangeFuncLeaves
import Derived.Shelf.Abstract
import Derived.Shelf.RegionOpen
import Derived.OwnWalkIn
import Derived.TacticsInMore
import Derived.LoopNIn
import Derived.LoopIn
namespace Go.Proofs.Ytjjhbkmmkhkjnaa
open Go.RowKit Go.Shelf Crc Law
attribute [local go_sem] Oper.semAt_some

def enc (x : Item) : Array Value := #[.agg #[.string x.1, .int .i64 x.2.1, .int .i64 x.2.2]]
theorem below_none {w w' : World} (h : Below w.heap.size w w') : w.grownBy w' none := ⟨h.os, h.tape, h.output, h.size, fun k hk _ => h.block k hk⟩

/-- What a round keeps for the iterator: the box that holds the text. -/
structure KB (b : Nat) (W W' : World) : Prop where
  size : W.heap.size ≤ W'.heap.size
  same : W'.heap[b]? = W.heap[b]?
theorem KB.cell {b : Nat} {W W' : World} (h : KB b W W') (i : Nat) : W'.cell? ⟨b, i, none⟩ = W.cell? ⟨b, i, none⟩ := by simp only [World.cell?, h.same]
theorem KB.refl (b : Nat) (W : World) : KB b W W := ⟨Nat.le_refl _, rfl⟩
theorem KB.trans {b : Nat} {A B C : World} (h : KB b A B) (k : KB b B C) : KB b A C := ⟨Nat.le_trans h.size k.size, k.same.trans h.same⟩

set_option maxRecDepth 100000 in
set_option maxHeartbeats 2000000 in
theorem iter_in (n : Nat) (hn : 1 ≤ n) (l Bn : Nat) (s : ByteArray) (hs : s.size ≤ 9223372036854775807) (J Jx : List Item → World → Prop) (W : World) (hJ : AbidesFrom W.heap.size J)
    (hY : ∀ pre x W1, J pre W1 → pre.length < (all s).length → YieldAt Fence.wide (n - 1) Try.prog l (enc x) W1 fun e W' =>
      (e = .returned (.bool true) ∧ J (pre ++ [x]) W' ∧ KB Bn W1 W') ∨ (e = .returned (.bool false) ∧ Jx (pre ++ [x]) W'))
    (hb0 : Bn < W.heap.size) (hBn : W.cell? ⟨Bn, 0, none⟩ = some (.string s)) (h0 : J [] W) :
    CallsIn Fence.wide n Try.prog 28 #[.func (.yield l) #[] #[], .pointer (some ⟨Bn, 0, none⟩)] W fun e W' => (∃ v, e = .returned v) ∧
      ((∃ ys, ys = all s ∧ J ys W') ∨ (∃ pre, (∃ rest, all s = pre ++ rest) ∧ Jx pre W')) := by
  have hro : Fence.wide.round = none := rfl
  have h28 : Fence.wide.fn 28 := trivial
  refine callsIn_of_wp Try.func28 rfl h28 ?_ hro
  simp only [Try.ntmps28, List.size_toArray, List.length_cons, List.length_nil, Nat.reduceAdd, Nat.reduceSub, Array.replicate_succ, Array.replicate_zero, List.push_toArray, List.append_toArray, List.nil_append, List.cons_append]
  refine scope_again2 0 (fun a w => ∃ (i f : Nat) (pre : List Item) (u4 u5 u6 u7 u8 u9 u10 u11 u12 u13 u14 u15 u16 u17 u18 u19 u20 u21 u22 u23 u24 u25 u26 u27 u28 u29 : Value), a = { tmps := #[.func (.yield l) #[] #[], .pointer (some ⟨Bn, 0, none⟩), undef, .int .i64 (i : Int), u4, u5, u6, u7, u8, u9, u10, u11, u12, u13, u14, u15, u16, u17, u18, u19, u20, u21, u22, u23, u24, u25, u26, u27, u28, u29], defers := [] } ∧ all s = pre ++ items s f i ∧ s.size - i < f ∧ i ≤ s.size ∧ J pre w ∧ Bn < w.heap.size ∧ w.cell? ⟨Bn, 0, none⟩ = some (.string s)) (fun a _ => s.size - (intOf (a.tmps.getD 3 undef)).toNat) rfl ?first ?pass
  case first =>
    intro key
    gi_wp2_with fail
    refine wpIn_label ?_
    simp only [Exit.then]
    rename_i hK
    refine hK _ _ ?_
    exact key _ _ ⟨0, s.size + 1, [], _, _, _, _, _, _, _, _, _, _, _, _, _, _, _, _, _, _, _, _, _, _, _, _, _, _, rfl, rfl, by omega, Nat.zero_le _, h0, hb0, hBn⟩
  case pass =>
    rintro a w ⟨i, f, pre, u4, u5, u6, u7, u8, u9, u10, u11, u12, u13, u14, u15, u16, u17, u18, u19, u20, u21, u22, u23, u24, u25, u26, u27, u28, u29, rfl, hall, hf, hi, hj, hw0, hc⟩
    by_cases hlt : i < s.size
    · obtain ⟨f, rfl⟩ : ∃ g, f = g + 1 := ⟨f - 1, by omega⟩
      rw [items_more s f i hlt] at hall
      have hlen : pre.length < (all s).length := by rw [hall]; simp
      gi_wp2_with fail
      refine ⟨trivial, (callsIn_wide.2 (next_any s i w hs)).mono ?_⟩
      rintro e w1 ⟨rfl, hB⟩
      have hj1 : J pre w1 := hJ pre w w1 none hj (below_none hB) (fun r e => by cases e)
      have hc1 : w1.cell? ⟨Bn, 0, none⟩ = some (.string s) := (hB.cell (p := ⟨Bn, 0, none⟩) hw0).trans hc
      have hw1 : Bn < w1.heap.size := Nat.lt_of_lt_of_le hw0 hB.size
      obtain ⟨fn, tmps, assign, body, hy, hR⟩ := hY pre (nextR s i) w1 hj1 hlen
      have HR := Lib.hid hR
      clear hR hB hc hj hw0
      have hnx := next_ok s i
      simp only [Nexts]
      generalize nextR s i = r at *
      obtain ⟨t, to, e⟩ := r
      dsimp only [enc] at hy
      dsimp only at hnx hall
      have hro1 : 1 ≤ n := hn
      by_cases he : e = 0
      · subst he
        obtain ⟨j, rfl, hj5, hjs⟩ := hnx rfl
        rw [if_pos rfl, Int.toNat_natCast] at hall
        gi_wp2_with fail
        refine HR.out.mono ?_
        rintro e W3 (⟨rfl, hJ3, hk3⟩ | ⟨rfl, hJx3⟩)
        · have hc3 : W3.cell? ⟨Bn, 0, none⟩ = some (.string s) := (hk3.cell 0).trans hc1
          have hw3 : Bn < W3.heap.size := Nat.lt_of_lt_of_le hw1 hk3.size
          have H := Lib.hid (And.intro hJ3 (And.intro hk3 (And.intro hc3 hw3)))
          have HA := Lib.hid hall
          clear hJ3 hk3 hc3 hw3 hall
          gi_wp2
          refine wpIn_goto ?_
          refine ⟨rfl, ⟨j, f, pre ++ [(t, (j : Int), 0)], _, _, _, _, _, _, _, _, _, _, _, _, _, _, _, _, _, _, _, _, _, _, _, _, _, _, rfl, ?_, by omega, hjs, H.out.1, H.out.2.2.2, H.out.2.2.1⟩, ?_⟩
          · rw [HA.out, List.append_assoc]; rfl
          · simp [intOf]; omega
        · have H := Lib.hid hJx3
          have HA := Lib.hid hall
          clear hJx3 hall
          gi_wp2
          simp only [Exit.jump]
          refine bodyPost_ret (results_none rfl _ _ _) rfl ?_
          exact ⟨⟨_, rfl⟩, .inr ⟨_, ⟨_, by rw [HA.out, List.append_assoc]; rfl⟩, H.out⟩⟩
      · have hd1 : (e == 0) = false := by simpa using he
        have hd2 : (e != 0) = true := by simpa using he
        rw [if_neg he] at hall
        gi_wp2_with fail
        refine HR.out.mono ?_
        rintro e W3 (⟨rfl, hJ3, hk3⟩ | ⟨rfl, hJx3⟩)
        · have H := Lib.hid hJ3
          have HA := Lib.hid hall
          clear hJ3 hk3 hall
          gi_wp2
          simp only [Exit.jump]
          refine bodyPost_ret (results_none rfl _ _ _) rfl ?_
          exact ⟨⟨_, rfl⟩, .inl (by rw [HA.out]; exact H.out)⟩
        · have H := Lib.hid hJx3
          have HA := Lib.hid hall
          clear hJx3 hall
          gi_wp2
          simp only [Exit.jump]
          refine bodyPost_ret (results_none rfl _ _ _) rfl ?_
          exact ⟨⟨_, rfl⟩, .inr ⟨_, ⟨_, by rw [HA.out, List.append_assoc]; rfl⟩, H.out⟩⟩
    · have hge : s.size ≤ i := by omega
      rw [items_done s f i hge, List.append_nil] at hall
      have H := Lib.hid hj
      have HA := Lib.hid hall
      clear hj hall
      gi_wp2
      simp only [Exit.jump]
      refine bodyPost_ret (results_none rfl _ _ _) rfl ?_
      exact ⟨⟨_, rfl⟩, .inl (by rw [HA.out]; exact H.out)⟩
/-- frames(s): its value, and the contract of it. -/
theorem frames_any (s : ByteArray) (w : World) : Calls Try.prog 23 #[.string s] w fun e w' => e = .returned (.func (.func 28) #[] #[.pointer (some ⟨w.heap.size, 0, none⟩)]) ∧ w' = w.alloc (.cells #[.string s] 9) := by
  have hmf : ∀ (fn : Fn) (first cap : Array Value) (w : World), (Instr.makeFunc fn first cap).run Try.prog w = .ok (.func fn first cap) w := fun _ _ _ _ => rfl
  go_enter Try.func23, Try.ntmps23
  go_wp2
  go_ret
  exact ⟨rfl, rfl⟩
theorem frames_stop (n : Nat) (hn : 1 ≤ n) (Bn : Nat) (s : ByteArray) (hs : s.size ≤ 9223372036854775807) (w : World) (hb : Bn < w.heap.size) (hc : w.cell? ⟨Bn, 0, none⟩ = some (.string s)) :
    SeqStopsK Fence.wide n Try.prog 28 #[.pointer (some ⟨Bn, 0, none⟩)] enc (KB Bn) (fun ys => ys = all s) (fun pre => ∃ rest, all s = pre ++ rest) (all s).length w :=
  fun l J Jx W hW hJ _ hY h0 => iter_in n hn l Bn s hs J Jx W hJ hY (Nat.lt_of_lt_of_le hb hW.size) ((hW.cell (p := ⟨Bn, 0, none⟩) hb).trans hc) h0
end Go.Proofs.Ytjjhbkmmkhkjnaa
