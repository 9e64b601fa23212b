/- The walk of the document's All: a note for each entry that has no timestamp. -/
import Derived.Test.YtboiilbeioaneaaAll
namespace Go.Proofs.Ytboiilbeioaneaa
open Go.RowKit Go.Shelf Law

theorem own_ne (v : Value) : v.ownBlock = none ∨ v.ownBlock ≠ none := by
  by_cases h : v.ownBlock = none
  · exact .inl h
  · exact .inr h
theorem below_none {w w1 : World} (h : Below w.heap.size w w1) : w.grownBy w1 none :=
  ⟨h.os, h.tape, h.output, h.size, fun i hi _ => h.block i hi⟩

set_option maxHeartbeats 1000000 in
set_option maxRecDepth 100000 in
theorem refAll_any (A : Option Addr) (len cap : Nat) (es : List Ent) (nn : Int) (floor : Nat) (w : World) (h : Ents w A es) (hl : es.length = len) (h80 : len ≤ 80) (hnn : -9223372036854775808 ≤ nn ∧ nn ≤ 9223372036854775807) (hf : floor < 18446744073709551616)
    (hts : ∀ e ∈ es, 0 ≤ e.ts ∧ e.ts < 18446744073709551616) :
    Calls Try.prog 10 #[.slice A len cap, .int .i64 nn, .int .u64 floor] w fun e W' => ∃ ts v, NoteRes (stp (tss es)) (min nn len) (lastT (tss es)).toNat floor ts ∧ e = .returned v ∧ W'.ownsRow w.heap.size 48 18 v ts.length (nvs (stp (tss es)) ts) ∧ Below w.heap.size w W' := by
  obtain ⟨i0, hi, hz0, hz1, hz2⟩ := info_parts Try.infoN
  have hst := stp_le (tss es)
  rw [tss_length, hl] at hst
  have hlast : 0 ≤ lastT (tss es) ∧ lastT (tss es) < 18446744073709551616 := by
    unfold lastT
    split
    · omega
    · have hlt : stp (tss es) - 1 < (tss es).length := by have := stp_le (tss es); omega
      rw [List.getElem?_eq_getElem hlt]
      obtain ⟨e, he, hee⟩ := List.mem_map.1 (List.getElem_mem hlt)
      have := hts e he
      show 0 ≤ (tss es)[stp (tss es) - 1] ∧ _
      have e2 : (tss es)[stp (tss es) - 1] = e.ts := hee.symm
      rw [e2]
      exact this
  have HS := refStamped_any A len cap es w h hl (by omega)
  have HL := refLast_any A len cap es w h hl (by omega)
  obtain ⟨last, hlastE⟩ : ∃ last : Nat, lastT (tss es) = (last : Int) := ⟨(lastT (tss es)).toNat, by omega⟩
  rw [hlastE] at hlast
  rw [hlastE, Int.toNat_natCast]
  rw [hlastE] at HL
  have hlast2 : last < 18446744073709551616 := by omega
  clear hlastE hts hlast
  generalize stp (tss es) = st at *
  have HSS := Lib.hid HS
  have HLL := Lib.hid HL
  clear HS HL
  go_enter Try.func10, Try.ntmps10
  go_wp2_with fail
  refine HLL.out.mono ?_
  rintro e w1 ⟨rfl, rfl⟩
  go_wp2_with fail
  refine HSS.out.mono ?_
  rintro e w2 ⟨rfl, rfl⟩
  go_wp2
  go_loopw [7, 8, 9] (fun v la i wr => ∃ (q : Nat) (c : Nat) (pre : List Nat), st + pre.length = q ∧ q ≤ len ∧ (0 < pre.length → (q : Int) ≤ nn) ∧ i = .int .i64 (q : Int) ∧ la = .int .u64 (c : Int) ∧ curL last pre = c ∧ Gen last floor pre ∧ wr.ownsRow w.heap.size 48 18 v pre.length (nvs st pre) ∧ Below w.heap.size w wr) (fun _ _ i _ => len - (intOf i).toNat)
  case atStart => exact ⟨st, last, [], rfl, hst, by simp, rfl, rfl, rfl, Gen.nil _ _, World.ownsRow_nil _ _ _ _, Below.refl _ _⟩
  case round =>
    obtain ⟨q, c, pre, hq, hql, hqn, rfl, rfl, hc, hg, hown, hB⟩ := hrel
    have hcl : c < 18446744073709551616 := by have := hg.lt hlast2 hf; omega
    have HQ := Lib.hid hq
    have HQN := Lib.hid hqn
    have HC := Lib.hid hc
    have HG := Lib.hid hg
    have hBs := hB.size
    clear hq hc hg hqn
    by_cases h1 : q < len
    · by_cases h2 : (q : Int) < nn
      · by_cases hm : c = 18446744073709551615
        · have HR := Lib.hid (show NoteRes st (min nn len) last floor pre from ⟨HG.out, fun h => by have := HQ.out; have := HQN.out; exact List.eq_nil_of_length_eq_zero (by omega), fun _ => ⟨by have := HQ.out; omega, .inr (HC.out.trans hm)⟩⟩)
          have K := Lib.hid (And.intro hown hB)
          have HM := Lib.hid hm
          clear hown hB hm
          go_wp2_with fail
          refine (refNext_any c floor wr hcl hf).mono ?_
          rintro e w2 ⟨rfl, rfl⟩
          unfold nxE
          rw [if_pos HM.out]
          go_wp2
          go_ret
          exact ⟨_, _, HR.out, rfl, K.out.1, K.out.2⟩
        · go_wp2_with fail
          refine (refNext_any c floor wr hcl hf).mono ?_
          rintro e w2 ⟨rfl, rfl⟩
          unfold nxE
          rw [if_neg hm]
          have hpl : pre.length < 80 := by have := HQ.out; omega
          go_wp2_with (first | (at_builtin; go_must (refine wpList_append_own_at _ rfl _ _ 31 rfl w.heap.size 48 i0 (.agg (nc 0 0 |>.set 0 (.int .i64 0)).toArray) 18 192 Try.underlying31 hi hz0 hz1 hz2 rfl (by decide) _ _ _ rfl (hown.alloc _) ⟨wr.heap.size, 0, none⟩ 1 1 (nc (q : Int) (nx c floor)) rfl rfl ?c1 ?c2 ?c3 ?c4 ?c5 ?_)))
          case c1 => exact news_new _ _ _
          case c2 => simp [nc, Value.oneCell']
          case c3 => simp [maxLen]; omega
          case c4 => omega
          case c5 => simp; omega
          intro v1 w1 hv1 hg1 _ _
          have hn1 : Gen last floor (pre ++ [nx c floor]) := by
            have := HG.out.snoc (by rw [HC.out]; omega)
            rwa [HC.out] at this
          have hv2 : w1.ownsRow w.heap.size 48 18 v1 (pre ++ [nx c floor]).length (nvs st (pre ++ [nx c floor])) := by
            rw [nvs_snoc, HQ.out, List.length_append]
            exact hv1
          have hB1 : Below w.heap.size w w1 := (hB.alloc hBs _).grown hg1 (by simp; omega) (fun j hj => (hown.lt j hj).1)
          have HN := Lib.hid hn1
          clear hv1 hg1 hown hB hn1
          go_wp2
          go_roundw
          case rel => exact ⟨q + 1, nx c floor, pre ++ [nx c floor], by have := HQ.out; simp; omega, by omega, fun _ => by omega, by go_num, rfl, curL_snoc _ _ _, HN.out, hv2, hB1⟩
          case measure => simp [intOf]; omega
      · have HR := Lib.hid (show NoteRes st (min nn len) last floor pre from ⟨HG.out, fun h => by have := HQ.out; have := HQN.out; exact List.eq_nil_of_length_eq_zero (by omega), fun _ => ⟨by have := HQ.out; have := HQN.out; omega, .inl (by have := HQ.out; have := HQN.out; omega)⟩⟩)
        have K := Lib.hid (And.intro hown hB)
        clear hown hB
        go_wp2
        go_ret
        exact ⟨_, HR.out, _, rfl, K.out.1, K.out.2⟩
    · have HR := Lib.hid (show NoteRes st (min nn len) last floor pre from ⟨HG.out, fun h => by have := HQ.out; have := HQN.out; exact List.eq_nil_of_length_eq_zero (by omega), fun _ => ⟨by have := HQ.out; have := HQN.out; omega, .inl (by have := HQ.out; have := HQN.out; omega)⟩⟩)
      have K := Lib.hid (And.intro hown hB)
      clear hown hB
      go_wp2
      go_ret
      exact ⟨_, _, HR.out, rfl, K.out.1, K.out.2⟩
end Go.Proofs.Ytboiilbeioaneaa
