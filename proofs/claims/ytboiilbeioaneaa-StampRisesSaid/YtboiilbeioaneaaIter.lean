/- The walk of the iterator over timestamps: it keeps the last one in a box of its own. -/
import Derived.Test.YtboiilbeioaneaaNext
import Derived.Test.YtboiilbeioaneaaScope
import Derived.Test.YtboiilbeioaneaaRange
import Derived.Shelf.RegionOpen
import Derived.OwnWalkIn
import Derived.TacticsInMore
import Derived.LoopNIn
import Derived.LoopIn
import Derived.RangeFuncBox
namespace Go.Proofs.Ytboiilbeioaneaa
open Go.RowKit Go.Shelf
attribute [local go_sem] Oper.semAt_some

/-- What a round keeps for the iterator: its two boxes. -/
structure KB (b c : Nat) (W W' : World) : Prop where
  one : W'.heap[b]? = W.heap[b]?
  two : W'.heap[c]? = W.heap[c]?
theorem KB.refl (b c : Nat) (W : World) : KB b c W W := ⟨rfl, rfl⟩
theorem KB.trans {b c : Nat} {A B C : World} (h : KB b c A B) (k : KB b c B C) : KB b c A C := ⟨k.one.trans h.one, k.two.trans h.two⟩

/-- What is in a box, for the measure. -/
def boxN (b : Nat) (w : World) : Nat := match w.cell? ⟨b, 0, none⟩ with | some (.int _ v) => v.toNat | _ => 0

set_option maxRecDepth 100000 in
set_option maxHeartbeats 2000000 in
theorem iter_in (n : Nat) (hn : 1 ≤ n) (l b c : Nat) (hbc : b ≠ c) (last floor : Nat) (hl : last < 18446744073709551616) (hf : floor < 18446744073709551616) (J Jx : List Nat → World → Prop) (W : World) (hJ : ∀ pre W v, J pre W → J pre (W.setCell ⟨b, 0, none⟩ v))
    (hY : ∀ pre x W1, J pre W1 → YieldAt Fence.wide (n - 1) Try.prog l #[.int .u64 ((x : Nat) : Int)] W1 fun e W' =>
      (e = .returned (.bool true) ∧ J (pre ++ [x]) W' ∧ KB b c W1 W') ∨ (e = .returned (.bool false) ∧ Jx (pre ++ [x]) W'))
    (hB : Boxed W b 23 (.int .u64 last)) (hC : Boxed W c 23 (.int .u64 floor)) (h0 : J [] W) :
    CallsIn Fence.wide n Try.prog 23 #[.func (.yield l) #[] #[], .pointer (some ⟨b, 0, none⟩), .pointer (some ⟨c, 0, none⟩)] W fun e W' => (∃ v, e = .returned v) ∧
      ((∃ ys, (Gen last floor ys ∧ curL last ys = 18446744073709551615) ∧ J ys W') ∨ (∃ pre, Gen last floor pre ∧ Jx pre W')) := by
  have hro : Fence.wide.round = none := rfl
  have h23 : Fence.wide.fn 23 := trivial
  refine callsIn_of_wp Try.func23 rfl h23 ?_ hro
  simp only [Try.ntmps23, List.size_toArray, List.length_cons, List.length_nil, Nat.reduceAdd, Nat.reduceSub, Array.replicate_succ, Array.replicate_zero, List.push_toArray, List.append_toArray, List.nil_append, List.cons_append]
  refine scope_again2 0 (fun a w => ∃ (pre : List Nat) (u3 u4 u5 u6 u7 u8 u9 u10 u11 u12 u13 u14 u15 u16 u17 u18 u19 u20 : Value), a = { tmps := #[.func (.yield l) #[] #[], .pointer (some ⟨b, 0, none⟩), .pointer (some ⟨c, 0, none⟩), u3, u4, u5, u6, u7, u8, u9, u10, u11, u12, u13, u14, u15, u16, u17, u18, u19, u20], defers := [] } ∧ Gen last floor pre ∧ J pre w ∧ Boxed w b 23 (.int .u64 ((curL last pre : Nat) : Int)) ∧ Boxed w c 23 (.int .u64 floor)) (fun _ w => 18446744073709551616 - boxN b w) rfl ?first ?pass
  case first =>
    intro key
    refine wpIn_seq_k (fun K hK => ?_)
    refine wpIn_label ?_
    simp only [Exit.then]
    refine hK _ _ (key _ _ ⟨[], _, _, _, _, _, _, _, _, _, _, _, _, _, _, _, _, _, _, rfl, Gen.nil _ _, h0, hB, hC⟩)
  case pass =>
    rintro a w ⟨pre, u3, u4, u5, u6, u7, u8, u9, u10, u11, u12, u13, u14, u15, u16, u17, u18, u19, u20, rfl, hg, hj, hb, hc⟩
    have hlt := hg.lt hl hf
    have d1 := hb.cell
    have d1f := hb.frozen
    have d2 := hc.cell
    have hbox : boxN b w = curL last pre := by simp [boxN, d1]
    have HN := Lib.hid (next_any (curL last pre) floor w hlt hf)
    by_cases hm : curL last pre = 18446744073709551615
    · have HG : Hid (∃ ys, (Gen last floor ys ∧ curL last ys = 18446744073709551615) ∧ J ys w) := Lib.hid ⟨pre, ⟨hg, hm⟩, hj⟩
      rw [show nxE (curL last pre) floor = .returned (.tuple #[.int .u64 0, .int .i64 16]) by unfold nxE; rw [if_pos hm]] at HN
      clear hg hm hj hbox hY
      generalize curL last pre = cur at *
      gi_wp2_with fail
      refine ⟨trivial, (callsIn_wide.2 HN.out).mono ?_⟩
      rintro e w1 ⟨rfl, rfl⟩
      gi_wp2_with fail
      refine ⟨fun _ h => (by cases h), ?_⟩
      gi_wp2
      simp only [Exit.jump]
      refine bodyPost_ret (results_none rfl _ _ _) rfl ?_
      exact ⟨⟨_, rfl⟩, .inl HG.out⟩
    · have hlt2 : curL last pre < 18446744073709551615 := by omega
      have HG := Lib.hid (hg.snoc hlt2)
      have hgt := nx_gt (curL last pre) floor
      rw [show nxE (curL last pre) floor = .returned (.tuple #[.int .u64 ((nx (curL last pre) floor : Nat) : Int), .int .i64 0]) by unfold nxE; rw [if_neg hm]] at HN
      have HB := Lib.hid hbox
      obtain ⟨fn, tmps, assign, body, hy, hR⟩ := hY pre (nx (curL last pre) floor) w hj
      have HR := Lib.hid hR
      have HBC := Lib.hid (And.intro hb hc)
      clear hR hg hbox hm hb hc
      generalize nx (curL last pre) floor = ts at *
      generalize curL last pre = cur at *
      gi_wp2_with fail
      refine ⟨trivial, (callsIn_wide.2 HN.out).mono ?_⟩
      rintro e w1 ⟨rfl, rfl⟩
      gi_wp2_with fail
      refine HR.out.mono ?_
      rintro e W3 (⟨rfl, hJ3, hk3⟩ | ⟨rfl, hJx3⟩)
      · have hb3 : Boxed W3 b 23 (.int .u64 (cur : Int)) := (show _ = _ from hk3.one).trans HBC.out.1
        have hc3 : Boxed W3 c 23 (.int .u64 (floor : Int)) := (show _ = _ from hk3.two).trans HBC.out.2
        have e1 := hb3.cell
        have e1f := hb3.frozen
        have hbs := hb3.set (.int .u64 (ts : Int))
        have hm3 : boxN b (W3.setCell ⟨b, 0, none⟩ (.int .u64 (ts : Int))) = ts := by simp [boxN, hbs.cell]
        have H := Lib.hid (And.intro (hJ _ _ (.int .u64 (ts : Int)) hJ3) (And.intro hbs (And.intro (hc3.other (fun e => hbc e.symm) (.int .u64 (ts : Int))) hm3)))
        clear hJ3 hk3 hb3 hc3 hbs hm3
        gi_wp2
        refine wpIn_goto ?_
        refine ⟨rfl, ⟨pre ++ [ts], _, _, _, _, _, _, _, _, _, _, _, _, _, _, _, _, _, _, rfl, HG.out, H.out.1, by rw [curL_snoc]; exact H.out.2.1, H.out.2.2.1⟩, ?_⟩
        have h1 := HB.out
        have h2 := H.out.2.2.2
        rw [h1, h2]
        omega
      · have H := Lib.hid hJx3
        clear hJx3
        gi_wp2
        simp only [Exit.jump]
        refine bodyPost_ret (results_none rfl _ _ _) rfl ?_
        exact ⟨⟨_, rfl⟩, .inr ⟨_, HG.out, H.out⟩⟩

/-- next(last, floor). -/
theorem nextSeq_any (last floor : Int) (w : World) : Calls Try.prog 19 #[.int .u64 last, .int .u64 floor] w fun e w' => e = .returned (.func (.func 23) #[] #[.pointer (some ⟨w.heap.size, 0, none⟩), .pointer (some ⟨w.heap.size + 1, 0, none⟩)]) ∧ w' = (w.alloc (.cells #[.int .u64 last] 23)).alloc (.cells #[.int .u64 floor] 23) := by
  have hmf : ∀ (fn : Fn) (first cap : Array Value) (w : World), (Instr.makeFunc fn first cap).run Try.prog w = .ok (.func fn first cap) w := fun _ _ _ _ => rfl
  go_enter Try.func19, Try.ntmps19
  go_wp2
  go_ret
  exact ⟨rfl, rfl⟩
end Go.Proofs.Ytboiilbeioaneaa
