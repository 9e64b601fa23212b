/- The walk of stamp.All: a note for each entry that has no timestamp. -/
import Derived.Test.YtboiilbeioaneaaIter
import Derived.Test.YtboiilbeioaneaaMuch
import Derived.Maps.AppendAt
namespace Go.Proofs.Ytboiilbeioaneaa
open Go.RowKit Go.Shelf Law
attribute [local go_sem] Oper.semAt_some

/-- A note's cells. -/
def nc (i : Int) (t : Nat) : List Value := [.int .i64 3, .int .i64 i, .int .u64 ((t : Nat) : Int), .int .i64 0, .slice none 0 0, .int .u64 0, .slice none 0 0, .int .i64 0, .int .i64 0, .slice none 0 0, .int .u64 0, .int .i64 0, .int .u64 0, .int .i64 0, .int .i64 0, .int .i64 0, .int .i64 0, .int .i64 0]
/-- Notes' cells, from a place on. -/
def nvs : Nat → List Nat → List Value
  | _, [] => []
  | i, t :: r => nc (i : Int) t ++ nvs (i + 1) r
theorem nvs_snoc (i : Nat) (ts : List Nat) (t : Nat) : nvs i (ts ++ [t]) = nvs i ts ++ nc ((i + ts.length : Nat) : Int) t := by
  induction ts generalizing i with
  | nil => simp [nvs]
  | cons x r ih =>
    rw [List.cons_append]
    simp only [nvs]
    rw [ih, List.append_assoc, List.length_cons, show i + 1 + r.length = i + (r.length + 1) by omega]
theorem Try.infoN : (Try.prog.info? 48).map (fun i => (i.zero, i.size, i.bytes)) = some (some (.agg (nc 0 0 |>.set 0 (.int .i64 0)).toArray), 18, 192) := by kernel_rfl
theorem row_from {W : World} {n₁ : Nat} {e : TypeId} {size : Nat} {v : Value} {k : Nat} {xs : List Value} (h : W.ownsRow n₁ e size v k xs) : ∀ j, v.ownBlock = some j → n₁ ≤ j := by
  rcases h.2 with ⟨rfl, _⟩ | ⟨g, cap, cur, rfl, hb, _, _⟩
  · intro j hj; simp [Value.ownBlock] at hj
  · intro j hj
    obtain rfl : g = j := by simpa [Value.ownBlock] using hj
    exact hb
theorem row_ne {W : World} {n₁ : Nat} {e : TypeId} {size : Nat} {v : Value} {k : Nat} {xs : List Value} (h : W.ownsRow n₁ e size v k xs) (b : Nat) (hb : b < n₁) : v.ownBlock = none ∨ v.ownBlock ≠ some b :=
  .inr fun e => by have := row_from h b e; omega
theorem row_low {W : World} {n n₁ : Nat} {e : TypeId} {size : Nat} {v : Value} {k : Nat} {xs : List Value} (h : W.ownsRow n₁ e size v k xs) (hn : n ≤ n₁) : W.ownsRow n e size v k xs :=
  ⟨h.1, h.2.imp id (fun ⟨g, cap, cur, e1, hb, r⟩ => ⟨g, cap, cur, e1, Nat.le_trans hn hb, r⟩)⟩
theorem slice_form {W : World} {n₁ : Nat} {e : TypeId} {size : Nat} {v : Value} {k : Nat} {xs : List Value} (h : W.ownsRow n₁ e size v k xs) : ∃ A len cap, v = .slice A len cap := by
  rcases h.2 with ⟨rfl, _⟩ | ⟨g, cap, cur, rfl, _⟩
  · exact ⟨_, _, _, rfl⟩
  · exact ⟨_, _, _, rfl⟩
/-- What an append on a row of the walk's own keeps. -/
theorem pushed {W w1 : World} {n₁ : Nat} {e : TypeId} {size : Nat} {v : Value} {k : Nat} {xs : List Value} {tmp : Obj}
    (hrow : W.ownsRow n₁ e size v k xs) (hn : n₁ ≤ W.heap.size) (hgrow : (W.alloc tmp).grownBy w1 v.ownBlock) :
    (∀ B t u, B < n₁ → Boxed W B t u → Boxed w1 B t u) ∧ KeepsOthers W w1 ∧ Below n₁ W w1 ∧ (∀ B, B < n₁ → w1.heap[B]? = W.heap[B]?) := by
  refine ⟨fun B t u hB hb => (hb.alloc tmp).kept hgrow (fun e => by have := row_from hrow B e.symm; omega), ?_, ?_⟩
  · refine (KeepsOthers.alloc W tmp).trans (KeepsOthers.of_grownBy hgrow fun j o ej hj => ?_)
    rcases (hrow.alloc tmp).2 with ⟨rfl, _⟩ | ⟨g, cap, cur, rfl, _, hgb, _⟩
    · simp [Value.ownBlock] at ej
    · obtain rfl : g = j := by simpa [Value.ownBlock] using ej
      rw [hgb] at hj; cases hj; rfl
  · refine ⟨((Below.refl n₁ W).alloc hn tmp).grown hgrow (by simp; omega) (fun j ej => row_from hrow j ej), fun B hB => ?_⟩
    exact (hgrow.block B (by simp; omega) (fun e => by have := row_from hrow B e.symm; omega)).trans (Below.heap_alloc W tmp B (by omega))
theorem news_new (w : World) (cs : List Value) (t : TypeId) : ∀ j u, cs[j]? = some u → (w.alloc (.cells cs.toArray t)).cell? (Addr.add ⟨w.heap.size, 0, none⟩ j) = some u := by
  intro j u h
  rw [Addr.add_lit, Nat.zero_add]
  exact (cell_of_row _ _ j _ t _ (heap_alloc_new w _)).trans (by simpa using h)

set_option maxRecDepth 100000 in
set_option maxHeartbeats 4000000 in
theorem all_in (n : Nat) (hn : 3 ≤ n) (A : Option Addr) (len cap : Nat) (es : List Ent) (nn : Int) (floor : Nat) (w : World) (h : Ents w A es) (hl : es.length = len) (h80 : len ≤ 80) (hnn : -9223372036854775808 ≤ nn ∧ nn ≤ 9223372036854775807) (hf : floor < 18446744073709551616)
    (hts : ∀ e ∈ es, 0 ≤ e.ts ∧ e.ts < 18446744073709551616) :
    CallsIn Fence.wide n Try.prog 9 #[.slice A len cap, .int .i64 nn, .int .u64 floor] w fun e W' => ∃ ts v, NoteRes (stp (tss es)) (min nn len) (lastT (tss es)).toNat floor ts ∧ e = .returned v ∧ W'.ownsRow w.heap.size 48 18 v ts.length (nvs (stp (tss es)) ts) ∧ Below w.heap.size w W' := by
  have h1 : 1 ≤ n := by omega
  obtain ⟨i0, hi, hz0, hz1, hz2⟩ := info_parts Try.infoN
  have hst := stp_le (tss es)
  rw [tss_length, hl] at hst
  have hlast : 0 ≤ lastT (tss es) ∧ lastT (tss es) < 18446744073709551616 := by
    unfold lastT
    split
    · omega
    · have hlt : stp (tss es) - 1 < (tss es).length := by have := stp_le (tss es); omega
      rw [List.getElem?_eq_getElem hlt]
      obtain ⟨e, he, hee⟩ := List.mem_map.1 (List.getElem_mem hlt)
      have := hts e he
      show 0 ≤ (tss es)[stp (tss es) - 1] ∧ _
      have e2 : (tss es)[stp (tss es) - 1] = e.ts := hee.symm
      rw [e2]
      exact this
  have HS := fun w h => itemStamped_any A len cap es w h hl (by omega)
  have HL := fun w h => itemLast_any A len cap es w h hl (by omega)
  obtain ⟨last, hlastE⟩ : ∃ last : Nat, lastT (tss es) = (last : Int) := ⟨(lastT (tss es)).toNat, by omega⟩
  rw [hlastE] at hlast
  rw [hlastE, Int.toNat_natCast]
  simp only [hlastE] at HL
  have hlast2 : last < 18446744073709551616 := by omega
  clear hlastE hts hlast
  generalize stp (tss es) = st at *
  have HSS := Lib.hid HS
  have HLL := Lib.hid HL
  clear HS HL
  by_cases hc : (len : Int) < nn
  · have hd : decide ((len : Int) < nn) = true := by simp; omega
    have hmin : min nn (len : Int) = (len : Int) := by omega
    rw [hmin]
    refine callsIn_of_wp_marks Try.func9 rfl trivial ?_ rfl
    simp only [Try.ntmps9, List.size_toArray, List.length_cons, List.length_nil, Nat.reduceAdd, Nat.reduceSub, Array.replicate_succ, Array.replicate_zero, List.push_toArray, List.append_toArray, List.nil_append, List.cons_append]
    gi_wp2_with fail
    have b0 : Boxed (((w.alloc (.cells #[.slice A len cap] 22)).alloc (.cells #[.int .i64 nn] 3)).alloc (.cells #[.slice none 0 0] 31)) (w.heap.size) 22 (.slice A len cap) := ((Boxed.new w 22 (.slice A len cap)).alloc _).alloc _
    have b1 : Boxed (((w.alloc (.cells #[.slice A len cap] 22)).alloc (.cells #[.int .i64 nn] 3)).alloc (.cells #[.slice none 0 0] 31)) (w.heap.size + 1) 3 (.int .i64 nn) := by
      have h := (Boxed.new (w.alloc (.cells #[.slice A len cap] 22)) 3 (.int .i64 nn)).alloc (.cells #[.slice none 0 0] 31)
      simpa only [World.size_alloc] using h
    have b2 : Boxed (((w.alloc (.cells #[.slice A len cap] 22)).alloc (.cells #[.int .i64 nn] 3)).alloc (.cells #[.slice none 0 0] 31)) (w.heap.size + 1 + 1) 31 (.slice none 0 0) := by
      have h := Boxed.new ((w.alloc (.cells #[.slice A len cap] 22)).alloc (.cells #[.int .i64 nn] 3)) 31 (.slice none 0 0)
      simpa only [World.size_alloc] using h
    have hB0 : Below w.heap.size w (((w.alloc (.cells #[.slice A len cap] 22)).alloc (.cells #[.int .i64 nn] 3)).alloc (.cells #[.slice none 0 0] 31)) := (((Below.refl _ w).alloc (Nat.le_refl _) _).alloc (by simp) _).alloc (by simp; omega) _
    have hsz0 : (((w.alloc (.cells #[.slice A len cap] 22)).alloc (.cells #[.int .i64 nn] 3)).alloc (.cells #[.slice none 0 0] 31)).heap.size = w.heap.size + 1 + 1 + 1 := by simp
    obtain ⟨W0, hW0⟩ : ∃ W0, (((w.alloc (.cells #[.slice A len cap] 22)).alloc (.cells #[.int .i64 nn] 3)).alloc (.cells #[.slice none 0 0] 31)) = W0 := ⟨_, rfl⟩
    rw [hW0] at b0 b1 b2 hB0 hsz0 ⊢
    clear hW0
    refine ⟨trivial, (callsIn_wide.2 (HSS.out W0 (h.below hB0))).mono ?_⟩
    rintro e w1 ⟨rfl, hB1⟩
    have b0' : Boxed w1 (w.heap.size) 22 (.slice A len cap) := (hB1.block _ b0.lt).trans b0
    have b1' : Boxed w1 (w.heap.size + 1) 3 (.int .i64 nn) := (hB1.block _ b1.lt).trans b1
    have b2' : Boxed w1 (w.heap.size + 1 + 1) 31 (.slice none 0 0) := (hB1.block _ b2.lt).trans b2
    have hK1 : Below w.heap.size w w1 := hB0.trans (hB1.mono hB0.size)
    have hsz1 := hB1.size
    have b0 := b0'.alloc (.cells #[.int .i64 (st : Int)] 3)
    have b1 := b1'.alloc (.cells #[.int .i64 (st : Int)] 3)
    have b2 := b2'.alloc (.cells #[.int .i64 (st : Int)] 3)
    have b3 := Boxed.new w1 3 (.int .i64 (st : Int))
    have hK2 := hK1.alloc hK1.size (.cells #[.int .i64 (st : Int)] 3)
    have hsz2 : (w1.alloc (.cells #[.int .i64 (st : Int)] 3)).heap.size = w1.heap.size + 1 := by simp
    have d0 := b0.cell
    have d1 := b1.cell
    have d2 := b2.cell
    have d3 := b3.cell
    clear hB0 hB1 b0' b1' b2'
    by_cases hlim : (len : Int) ≤ (st : Int)
    · have HR := Lib.hid (show NoteRes st ((len : Int)) last floor [] from ⟨Gen.nil _ _, fun _ => rfl, fun h => by omega⟩)
      have hdl : decide (len ≤ st) = true := decide_eq_true (by omega)
      have HK := Lib.hid hK2
      clear hK2
      gi_wp2
      refine ⟨_, results_tmp rfl _ _ _, [], _, HR.out, rfl, World.ownsRow_nil _ _ _ _, HK.out⟩
    · have hdl : decide (len ≤ st) = false := decide_eq_false (by omega)
      gi_wp2_with fail
      refine ⟨trivial, (callsIn_wide.2 (HLL.out _ (h.below hK2))).mono ?_⟩
      rintro e w2 ⟨rfl, hB2⟩
      have hsz3 := hB2.size
      have b0' : Boxed w2 (w.heap.size) 22 (.slice A len cap) := (hB2.block _ b0.lt).trans b0
      have b1' : Boxed w2 (w.heap.size + 1) 3 (.int .i64 nn) := (hB2.block _ b1.lt).trans b1
      have b2' : Boxed w2 (w.heap.size + 1 + 1) 31 (.slice none 0 0) := (hB2.block _ b2.lt).trans b2
      have b3' : Boxed w2 w1.heap.size 3 (.int .i64 (st : Int)) := (hB2.block _ b3.lt).trans b3
      have hK3 := hK2.trans (hB2.mono hK2.size)
      have hszA : w1.heap.size + 1 ≤ w2.heap.size := by omega
      clear d0 d1 d2 d3 b0 b1 b2 b3 hK1 hK2 hB2 hsz2 hsz3
      gi_wp2_with fail
      refine ⟨trivial, (callsIn_wide.2 (nextSeq_any (last : Int) (floor : Int) w2)).mono ?_⟩
      rintro e w3 ⟨rfl, hw3⟩
      have k0 : Boxed w3 (w.heap.size) 22 (.slice A len cap) := by rw [hw3]; exact (b0'.alloc _).alloc _
      have k1 : Boxed w3 (w.heap.size + 1) 3 (.int .i64 nn) := by rw [hw3]; exact (b1'.alloc _).alloc _
      have k2 : Boxed w3 (w.heap.size + 1 + 1) 31 (.slice none 0 0) := by rw [hw3]; exact (b2'.alloc _).alloc _
      have k3 : Boxed w3 w1.heap.size 3 (.int .i64 (st : Int)) := by rw [hw3]; exact (b3'.alloc _).alloc _
      have kB : Boxed w3 w2.heap.size 23 (.int .u64 (last : Int)) := by rw [hw3]; exact (Boxed.new w2 23 _).alloc _
      have kC : Boxed w3 (w2.heap.size + 1) 23 (.int .u64 (floor : Int)) := by
        rw [hw3]
        have := Boxed.new (w2.alloc (.cells #[.int .u64 (last : Int)] 23)) 23 (.int .u64 (floor : Int))
        simpa only [World.size_alloc] using this
      have hK4 : Below w.heap.size w w3 := by rw [hw3]; exact (hK3.alloc hK3.size _).alloc (by simp; have := hK3.size; omega) _
      have hsz3 : w3.heap.size = w2.heap.size + 2 := by rw [hw3]; simp
      clear hw3 b0' b1' b2' b3' hK3
      gi_wp2_with fail
      refine range_box rfl h1 (gf := 23) (lb := #[.pointer (some ⟨w2.heap.size, 0, none⟩), .pointer (some ⟨w2.heap.size + 1, 0, none⟩)]) rfl trivial (enters_of Try.func23 (by kernel_rfl) rfl)
        (fun x : Nat => #[.int .u64 (x : Int)]) (fun _ => rfl) w2.heap.size (by omega) (KB w2.heap.size (w2.heap.size + 1))
        (fun xs => Gen last floor xs ∧ curL last xs = 18446744073709551615) (fun pre => Gen last floor pre)
        (fun pre W => ((((Boxed W (w.heap.size) 22 (.slice A len cap) ∧ Boxed W (w.heap.size + 1) 3 (.int .i64 nn)) ∧ Boxed W w1.heap.size 3 (.int .i64 ((st + pre.length : Nat) : Int))) ∧ (∃ v, Boxed W (w.heap.size + 1 + 1) 31 v ∧ W.ownsRow w3.heap.size 48 18 v pre.length (nvs st pre))) ∧ ((st + pre.length : Nat) : Int) < (len : Int)) ∧ (Boxed W (w2.heap.size + 1) 23 (.int .u64 (floor : Int)) ∧ Below w.heap.size w W))
        (fun c pre W => ((c = .exit 0 ∧ ((st + pre.length : Nat) : Int) = (len : Int)) ∧ (∃ v, Boxed W (w.heap.size + 1 + 1) 31 v ∧ W.ownsRow w3.heap.size 48 18 v pre.length (nvs st pre))) ∧ Below w.heap.size w W)
        KB.trans (fun W l o hl => ⟨World.putObj_heap_other (by omega), World.putObj_heap_other (by omega)⟩)
        (fun pre W o ⟨⟨⟨⟨⟨e0, e1⟩, e3⟩, ⟨v, e2, er⟩⟩, el⟩, ec, eb⟩ => ⟨⟨⟨⟨⟨e0.alloc o, e1.alloc o⟩, e3.alloc o⟩, ⟨v, e2.alloc o, er.alloc o⟩⟩, el⟩, ec.alloc o, eb.alloc eb.size o⟩)
        (fun pre W l o o' ⟨⟨⟨⟨⟨e0, e1⟩, e3⟩, ⟨v, e2, er⟩⟩, el⟩, ec, eb⟩ hl hlo ho => ⟨⟨⟨⟨⟨e0.kept (grownBy_putObj' W l o') (by simp; omega), e1.kept (grownBy_putObj' W l o') (by simp; omega)⟩, e3.kept (grownBy_putObj' W l o') (by simp; omega)⟩, ⟨v, e2.kept (grownBy_putObj' W l o') (by simp; omega), ownsRow_putObj er o' hlo ho⟩⟩, el⟩, ec.kept (grownBy_putObj' W l o') (by simp; omega), eb.grown (grownBy_putObj' W l o') eb.size (fun k e => by cases e; omega)⟩)
        (fun c pre W l o o' ⟨⟨hc, ⟨v, e2, er⟩⟩, eb⟩ hl hlo ho => ⟨⟨hc, ⟨v, e2.kept (grownBy_putObj' W l o') (by simp; omega), ownsRow_putObj er o' hlo ho⟩⟩, eb.grown (grownBy_putObj' W l o') eb.size (fun k e => by cases e; omega)⟩)
        (fun pre W u ⟨⟨⟨⟨⟨e0, e1⟩, e3⟩, ⟨v, e2, er⟩⟩, el⟩, ec, eb⟩ => ⟨⟨⟨⟨⟨e0.other (by omega) u, e1.other (by omega) u⟩, e3.other (by omega) u⟩, ⟨v, e2.other (by omega) u, er.kept (grownBy_setCell' W w2.heap.size u) (row_ne er _ (by omega))⟩⟩, el⟩, ec.other (by omega) u, eb.setCell (p := ⟨w2.heap.size, 0, none⟩) (show w.heap.size ≤ w2.heap.size by omega) u⟩)
        (fun l J Jx W1 hbel hJb hY hj0 => iter_in (n - 1) (by omega) l w2.heap.size (w2.heap.size + 1) (by omega) last floor hlast2 hf J Jx W1 hJb hY ((hbel.block _ kB.lt).trans kB) ((hbel.block _ kC.lt).trans kC) hj0)
        ⟨⟨⟨⟨⟨k0, k1⟩, k3⟩, ⟨_, k2, World.ownsRow_nil _ _ _ _⟩⟩, by show ((st + 0 : Nat) : Int) < _; omega⟩, kC, hK4⟩
        (fun x => { tmps := #[.slice A len cap, .int .i64 nn, .int .u64 (floor : Int), .pointer (some ⟨w.heap.size, 0, none⟩), .pointer (some ⟨w.heap.size + 1, 0, none⟩), undef, .slice none 0 0, .pointer (some ⟨w.heap.size + 1 + 1, 0, none⟩), .pointer (some ⟨w1.heap.size, 0, none⟩), .int .u64 (x : Int), .slice A len cap, .int .i64 (st : Int), .int .i64 (st : Int), .int .i64 nn, .slice A len cap, .int .i64 (len : Int), .int .i64 ((len : Int)), .bool false, .slice A len cap, .int .u64 (last : Int), .int .u64 (floor : Int), .func (.func 23) #[] #[.pointer (some ⟨w2.heap.size, 0, none⟩), .pointer (some ⟨w2.heap.size + 1, 0, none⟩)], .int .u64 (x : Int), undef, undef, undef, undef, undef, undef, undef, undef, undef, undef, undef, undef, undef, undef, undef], defers := [] })
        ?assign ?body ?done ?stop
      case assign =>
        intro l x W K hK
        gi_wp2
        exact hK
      case body =>
        rintro l pre x W ⟨⟨⟨⟨⟨e0, e1⟩, e3⟩, ⟨v, e2, er⟩⟩, el⟩, ec, eb⟩
        obtain ⟨A2, len2, cap2, rfl⟩ := slice_form er
        obtain ⟨q, hq⟩ : ∃ q, st + pre.length = q := ⟨_, rfl⟩
        rw [hq] at e3 el
        have hpl : pre.length < 80 := by omega
        have hro1 : 1 ≤ n - 1 - 1 := by omega
        have d2 := e2.cell
        have d3 := e3.cell
        have hWs : w3.heap.size ≤ W.heap.size := by have := ec.lt; omega
        have HQ := Lib.hid hq
        have HEL := Lib.hid el
        have HALL := Lib.hid (And.intro e0 (And.intro e1 (And.intro e2 (And.intro e3 (And.intro ec (And.intro eb er))))))
        have HWS := Lib.hid hWs
        clear e0 e1 e2 e3 ec eb hq
        by_cases hend : (q : Int) + 1 = (len : Int)
        · have hde : decide ((len : Int) ≤ (q : Int) + 1) = true := decide_eq_true (by omega)
          have HEND := Lib.hid hend
          clear hend
          gi_wp2_with (
            gi_at_builtin
            refine wpListIn_append_own _ rfl _ _ 31 rfl w3.heap.size 48 i0 (.agg (nc 0 0 |>.set 0 (.int .i64 0)).toArray) 18 192 Try.underlying31 hi hz0 hz1 hz2 rfl (by decide) _ _ _ rfl (er.alloc _) ⟨W.heap.size, 0, none⟩ 1 1 (nc (q : Int) x) rfl rfl (news_new W (nc (q : Int) x) 48) (by simp [nc, Value.oneCell']) (by have : maxLen = 9223372036854775807 := rfl; omega) (by omega) (by have := HWS.out; simp; omega) ?_
            intro v' w1' hown' hgrow _
            obtain ⟨g', cap', rfl⟩ := ownsRow_succ hown'
            have hp := pushed er HWS.out hgrow
            have f0 := hp.1 _ _ _ (by omega) HALL.out.1
            have f1 := hp.1 _ _ _ (by omega) HALL.out.2.1
            have f2 := hp.1 _ _ _ (by omega) HALL.out.2.2.1
            have f3 := hp.1 _ _ _ (by omega) HALL.out.2.2.2.1
            have fc := hp.1 _ _ _ (by omega) HALL.out.2.2.2.2.1
            have x2 := f2.cell
            have x2f := f2.frozen
            have y3 := (f3.other (B' := w.heap.size + 1 + 1) (by omega) (.slice (some ⟨g', 0, none⟩) (pre.length + 1) cap')).cell
            have y3f := (f3.other (B' := w.heap.size + 1 + 1) (by omega) (.slice (some ⟨g', 0, none⟩) (pre.length + 1) cap')).frozen
            have z3b := (f3.other (B' := w.heap.size + 1 + 1) (by omega) (.slice (some ⟨g', 0, none⟩) (pre.length + 1) cap')).set (.int .i64 ((q : Int) + 1))
            have z0b := (f0.other (B' := w.heap.size + 1 + 1) (by omega) (.slice (some ⟨g', 0, none⟩) (pre.length + 1) cap')).other (B' := w1.heap.size) (by omega) (.int .i64 ((q : Int) + 1))
            have z1b := (f1.other (B' := w.heap.size + 1 + 1) (by omega) (.slice (some ⟨g', 0, none⟩) (pre.length + 1) cap')).other (B' := w1.heap.size) (by omega) (.int .i64 ((q : Int) + 1))
            have z2b := (f2.set (.slice (some ⟨g', 0, none⟩) (pre.length + 1) cap')).other (B' := w1.heap.size) (by omega) (.int .i64 ((q : Int) + 1))
            have zcb := (fc.other (B' := w.heap.size + 1 + 1) (by omega) (.slice (some ⟨g', 0, none⟩) (pre.length + 1) cap')).other (B' := w1.heap.size) (by omega) (.int .i64 ((q : Int) + 1))
            have z3 := z3b.cell
            have z0 := z0b.cell
            have z1 := z1b.cell
            have HB0 := Lib.hid z0b
            have HB1 := Lib.hid z1b
            have HB2 := Lib.hid z2b
            have HB3 := Lib.hid z3b
            have HBC := Lib.hid zcb
            have HROW := Lib.hid (show World.ownsRow ((w1'.setCell ⟨w.heap.size + 1 + 1, 0, none⟩ (.slice (some ⟨g', 0, none⟩) (pre.length + 1) cap')).setCell ⟨w1.heap.size, 0, none⟩ (.int .i64 ((q : Int) + 1))) w3.heap.size 48 18 (.slice (some ⟨g', 0, none⟩) (pre.length + 1) cap') (pre.length + 1) (nvs st (pre ++ [x])) by
              rw [nvs_snoc, HQ.out]
              exact (hown'.kept (grownBy_setCell' _ (w.heap.size + 1 + 1) _) (row_ne hown' (w.heap.size + 1 + 1) (by omega))).kept (grownBy_setCell' _ w1.heap.size _) (row_ne hown' w1.heap.size (by omega)))
            have HKO := Lib.hid ((hp.2.1.trans (KeepsOthers.setCell w1' ⟨w.heap.size + 1 + 1, 0, none⟩ (.slice (some ⟨g', 0, none⟩) (pre.length + 1) cap'))).trans (KeepsOthers.setCell _ ⟨w1.heap.size, 0, none⟩ (.int .i64 ((q : Int) + 1))))
            have HBE := Lib.hid (((HALL.out.2.2.2.2.2.1.trans (hp.2.2.1.mono (by omega))).setCell (p := ⟨w.heap.size + 1 + 1, 0, none⟩) (show w.heap.size ≤ w.heap.size + 1 + 1 by omega) (.slice (some ⟨g', 0, none⟩) (pre.length + 1) cap')).setCell (p := ⟨w1.heap.size, 0, none⟩) (show w.heap.size ≤ w1.heap.size by omega) (.int .i64 ((q : Int) + 1)))
            have HKB := Lib.hid (show KB w2.heap.size (w2.heap.size + 1) W ((w1'.setCell ⟨w.heap.size + 1 + 1, 0, none⟩ (.slice (some ⟨g', 0, none⟩) (pre.length + 1) cap')).setCell ⟨w1.heap.size, 0, none⟩ (.int .i64 ((q : Int) + 1))) from
              ⟨(Below.heap_setCell _ _ _ _ (show w2.heap.size ≠ w1.heap.size by omega)).trans ((Below.heap_setCell _ _ _ _ (show w2.heap.size ≠ w.heap.size + 1 + 1 by omega)).trans (hp.2.2.2 _ (by omega))),
               (Below.heap_setCell _ _ _ _ (show w2.heap.size + 1 ≠ w1.heap.size by omega)).trans ((Below.heap_setCell _ _ _ _ (show w2.heap.size + 1 ≠ w.heap.size + 1 + 1 by omega)).trans (hp.2.2.2 _ (by omega)))⟩)
            clear hp f0 f1 f2 f3 fc z0b z1b z2b z3b zcb hown' hgrow)
          have hend := HEND.out
          have hel := HEL.out
          exact ⟨HKO.out.from _, ⟨⟨rfl, by rw [List.length_append]; have := HQ.out; simp; omega⟩, ⟨_, HB2.out, by rw [List.length_append]; exact HROW.out⟩⟩, HBE.out⟩
        · have hde : decide ((len : Int) ≤ (q : Int) + 1) = false := decide_eq_false (by omega)
          have HEND := Lib.hid hend
          clear hend
          gi_wp2_with (
            gi_at_builtin
            refine wpListIn_append_own _ rfl _ _ 31 rfl w3.heap.size 48 i0 (.agg (nc 0 0 |>.set 0 (.int .i64 0)).toArray) 18 192 Try.underlying31 hi hz0 hz1 hz2 rfl (by decide) _ _ _ rfl (er.alloc _) ⟨W.heap.size, 0, none⟩ 1 1 (nc (q : Int) x) rfl rfl (news_new W (nc (q : Int) x) 48) (by simp [nc, Value.oneCell']) (by have : maxLen = 9223372036854775807 := rfl; omega) (by omega) (by have := HWS.out; simp; omega) ?_
            intro v' w1' hown' hgrow _
            obtain ⟨g', cap', rfl⟩ := ownsRow_succ hown'
            have hp := pushed er HWS.out hgrow
            have f0 := hp.1 _ _ _ (by omega) HALL.out.1
            have f1 := hp.1 _ _ _ (by omega) HALL.out.2.1
            have f2 := hp.1 _ _ _ (by omega) HALL.out.2.2.1
            have f3 := hp.1 _ _ _ (by omega) HALL.out.2.2.2.1
            have fc := hp.1 _ _ _ (by omega) HALL.out.2.2.2.2.1
            have x2 := f2.cell
            have x2f := f2.frozen
            have y3 := (f3.other (B' := w.heap.size + 1 + 1) (by omega) (.slice (some ⟨g', 0, none⟩) (pre.length + 1) cap')).cell
            have y3f := (f3.other (B' := w.heap.size + 1 + 1) (by omega) (.slice (some ⟨g', 0, none⟩) (pre.length + 1) cap')).frozen
            have z3b := (f3.other (B' := w.heap.size + 1 + 1) (by omega) (.slice (some ⟨g', 0, none⟩) (pre.length + 1) cap')).set (.int .i64 ((q : Int) + 1))
            have z0b := (f0.other (B' := w.heap.size + 1 + 1) (by omega) (.slice (some ⟨g', 0, none⟩) (pre.length + 1) cap')).other (B' := w1.heap.size) (by omega) (.int .i64 ((q : Int) + 1))
            have z1b := (f1.other (B' := w.heap.size + 1 + 1) (by omega) (.slice (some ⟨g', 0, none⟩) (pre.length + 1) cap')).other (B' := w1.heap.size) (by omega) (.int .i64 ((q : Int) + 1))
            have z2b := (f2.set (.slice (some ⟨g', 0, none⟩) (pre.length + 1) cap')).other (B' := w1.heap.size) (by omega) (.int .i64 ((q : Int) + 1))
            have zcb := (fc.other (B' := w.heap.size + 1 + 1) (by omega) (.slice (some ⟨g', 0, none⟩) (pre.length + 1) cap')).other (B' := w1.heap.size) (by omega) (.int .i64 ((q : Int) + 1))
            have z3 := z3b.cell
            have z0 := z0b.cell
            have z1 := z1b.cell
            have HB0 := Lib.hid z0b
            have HB1 := Lib.hid z1b
            have HB2 := Lib.hid z2b
            have HB3 := Lib.hid z3b
            have HBC := Lib.hid zcb
            have HROW := Lib.hid (show World.ownsRow ((w1'.setCell ⟨w.heap.size + 1 + 1, 0, none⟩ (.slice (some ⟨g', 0, none⟩) (pre.length + 1) cap')).setCell ⟨w1.heap.size, 0, none⟩ (.int .i64 ((q : Int) + 1))) w3.heap.size 48 18 (.slice (some ⟨g', 0, none⟩) (pre.length + 1) cap') (pre.length + 1) (nvs st (pre ++ [x])) by
              rw [nvs_snoc, HQ.out]
              exact (hown'.kept (grownBy_setCell' _ (w.heap.size + 1 + 1) _) (row_ne hown' (w.heap.size + 1 + 1) (by omega))).kept (grownBy_setCell' _ w1.heap.size _) (row_ne hown' w1.heap.size (by omega)))
            have HKO := Lib.hid ((hp.2.1.trans (KeepsOthers.setCell w1' ⟨w.heap.size + 1 + 1, 0, none⟩ (.slice (some ⟨g', 0, none⟩) (pre.length + 1) cap'))).trans (KeepsOthers.setCell _ ⟨w1.heap.size, 0, none⟩ (.int .i64 ((q : Int) + 1))))
            have HBE := Lib.hid (((HALL.out.2.2.2.2.2.1.trans (hp.2.2.1.mono (by omega))).setCell (p := ⟨w.heap.size + 1 + 1, 0, none⟩) (show w.heap.size ≤ w.heap.size + 1 + 1 by omega) (.slice (some ⟨g', 0, none⟩) (pre.length + 1) cap')).setCell (p := ⟨w1.heap.size, 0, none⟩) (show w.heap.size ≤ w1.heap.size by omega) (.int .i64 ((q : Int) + 1)))
            have HKB := Lib.hid (show KB w2.heap.size (w2.heap.size + 1) W ((w1'.setCell ⟨w.heap.size + 1 + 1, 0, none⟩ (.slice (some ⟨g', 0, none⟩) (pre.length + 1) cap')).setCell ⟨w1.heap.size, 0, none⟩ (.int .i64 ((q : Int) + 1))) from
              ⟨(Below.heap_setCell _ _ _ _ (show w2.heap.size ≠ w1.heap.size by omega)).trans ((Below.heap_setCell _ _ _ _ (show w2.heap.size ≠ w.heap.size + 1 + 1 by omega)).trans (hp.2.2.2 _ (by omega))),
               (Below.heap_setCell _ _ _ _ (show w2.heap.size + 1 ≠ w1.heap.size by omega)).trans ((Below.heap_setCell _ _ _ _ (show w2.heap.size + 1 ≠ w.heap.size + 1 + 1 by omega)).trans (hp.2.2.2 _ (by omega)))⟩)
            clear hp f0 f1 f2 f3 fc z0b z1b z2b z3b zcb hown' hgrow)
          have hend := HEND.out
          have hel := HEL.out
          exact ⟨HKO.out.from _, HKB.out, ⟨⟨⟨⟨⟨HB0.out, HB1.out⟩, by rw [List.length_append, show st + (pre.length + [x].length) = q + 1 by have := HQ.out; simp; omega]; exact HB3.out⟩, ⟨_, HB2.out, by rw [List.length_append]; exact HROW.out⟩⟩, by rw [List.length_append, show st + (pre.length + [x].length) = q + 1 by have := HQ.out; simp; omega]; omega⟩, HBC.out, HBE.out⟩⟩
      case done =>
        rintro D xs W hD ⟨hg, hm⟩ ⟨⟨⟨⟨⟨e0, e1⟩, e3⟩, ⟨v, e2, er⟩⟩, el⟩, _, eb⟩ hK
        have HR := Lib.hid (show NoteRes st ((len : Int)) last floor xs from ⟨hg, fun h => by omega, fun _ => ⟨by omega, .inr hm⟩⟩)
        obtain ⟨A2, len2, cap2, rfl⟩ := slice_form er
        have d2 := e2.cell
        have H := Lib.hid (And.intro er eb)
        clear hg hm e0 e1 e3 el er eb
        gi_wp2
        refine ⟨by simp, .inl ⟨_, _, rfl, run_takeDeferred hK, ?_⟩⟩
        exact ⟨_, results_tmp rfl _ _ _, _, _, HR.out, rfl, row_low (n₁ := w3.heap.size) (ownsRow_putObj H.out.1 _ hK rfl) (by omega), H.out.2.grown (grownBy_putObj' W D _) H.out.2.size (fun k e => by cases e; omega)⟩
      case stop =>
        rintro D c pre W hD hg ⟨⟨⟨rfl, hlim2⟩, ⟨v, e2, er⟩⟩, eb⟩ hK
        have HR := Lib.hid (show NoteRes st ((len : Int)) last floor pre from ⟨hg, fun h => by omega, fun _ => ⟨by omega, .inl (by omega)⟩⟩)
        obtain ⟨A2, len2, cap2, rfl⟩ := slice_form er
        have d2 := e2.cell
        have H := Lib.hid (And.intro er eb)
        clear hg er eb
        gi_wp2
        refine ⟨by simp, .inl ⟨_, _, rfl, run_takeDeferred hK, ?_⟩⟩
        exact ⟨_, results_tmp rfl _ _ _, _, _, HR.out, rfl, row_low (n₁ := w3.heap.size) (ownsRow_putObj H.out.1 _ hK rfl) (by omega), H.out.2.grown (grownBy_putObj' W D _) H.out.2.size (fun k e => by cases e; omega)⟩
  · have hd : decide ((len : Int) < nn) = false := by simp; omega
    have hmin : min nn (len : Int) = nn := by omega
    rw [hmin]
    refine callsIn_of_wp_marks Try.func9 rfl trivial ?_ rfl
    simp only [Try.ntmps9, List.size_toArray, List.length_cons, List.length_nil, Nat.reduceAdd, Nat.reduceSub, Array.replicate_succ, Array.replicate_zero, List.push_toArray, List.append_toArray, List.nil_append, List.cons_append]
    gi_wp2_with fail
    have b0 : Boxed (((w.alloc (.cells #[.slice A len cap] 22)).alloc (.cells #[.int .i64 nn] 3)).alloc (.cells #[.slice none 0 0] 31)) (w.heap.size) 22 (.slice A len cap) := ((Boxed.new w 22 (.slice A len cap)).alloc _).alloc _
    have b1 : Boxed (((w.alloc (.cells #[.slice A len cap] 22)).alloc (.cells #[.int .i64 nn] 3)).alloc (.cells #[.slice none 0 0] 31)) (w.heap.size + 1) 3 (.int .i64 nn) := by
      have h := (Boxed.new (w.alloc (.cells #[.slice A len cap] 22)) 3 (.int .i64 nn)).alloc (.cells #[.slice none 0 0] 31)
      simpa only [World.size_alloc] using h
    have b2 : Boxed (((w.alloc (.cells #[.slice A len cap] 22)).alloc (.cells #[.int .i64 nn] 3)).alloc (.cells #[.slice none 0 0] 31)) (w.heap.size + 1 + 1) 31 (.slice none 0 0) := by
      have h := Boxed.new ((w.alloc (.cells #[.slice A len cap] 22)).alloc (.cells #[.int .i64 nn] 3)) 31 (.slice none 0 0)
      simpa only [World.size_alloc] using h
    have hB0 : Below w.heap.size w (((w.alloc (.cells #[.slice A len cap] 22)).alloc (.cells #[.int .i64 nn] 3)).alloc (.cells #[.slice none 0 0] 31)) := (((Below.refl _ w).alloc (Nat.le_refl _) _).alloc (by simp) _).alloc (by simp; omega) _
    have hsz0 : (((w.alloc (.cells #[.slice A len cap] 22)).alloc (.cells #[.int .i64 nn] 3)).alloc (.cells #[.slice none 0 0] 31)).heap.size = w.heap.size + 1 + 1 + 1 := by simp
    obtain ⟨W0, hW0⟩ : ∃ W0, (((w.alloc (.cells #[.slice A len cap] 22)).alloc (.cells #[.int .i64 nn] 3)).alloc (.cells #[.slice none 0 0] 31)) = W0 := ⟨_, rfl⟩
    rw [hW0] at b0 b1 b2 hB0 hsz0 ⊢
    clear hW0
    refine ⟨trivial, (callsIn_wide.2 (HSS.out W0 (h.below hB0))).mono ?_⟩
    rintro e w1 ⟨rfl, hB1⟩
    have b0' : Boxed w1 (w.heap.size) 22 (.slice A len cap) := (hB1.block _ b0.lt).trans b0
    have b1' : Boxed w1 (w.heap.size + 1) 3 (.int .i64 nn) := (hB1.block _ b1.lt).trans b1
    have b2' : Boxed w1 (w.heap.size + 1 + 1) 31 (.slice none 0 0) := (hB1.block _ b2.lt).trans b2
    have hK1 : Below w.heap.size w w1 := hB0.trans (hB1.mono hB0.size)
    have hsz1 := hB1.size
    have b0 := b0'.alloc (.cells #[.int .i64 (st : Int)] 3)
    have b1 := b1'.alloc (.cells #[.int .i64 (st : Int)] 3)
    have b2 := b2'.alloc (.cells #[.int .i64 (st : Int)] 3)
    have b3 := Boxed.new w1 3 (.int .i64 (st : Int))
    have hK2 := hK1.alloc hK1.size (.cells #[.int .i64 (st : Int)] 3)
    have hsz2 : (w1.alloc (.cells #[.int .i64 (st : Int)] 3)).heap.size = w1.heap.size + 1 := by simp
    have d0 := b0.cell
    have d1 := b1.cell
    have d2 := b2.cell
    have d3 := b3.cell
    clear hB0 hB1 b0' b1' b2'
    by_cases hlim : nn ≤ (st : Int)
    · have HR := Lib.hid (show NoteRes st (nn) last floor [] from ⟨Gen.nil _ _, fun _ => rfl, fun h => by omega⟩)
      have hdl : decide (nn ≤ (st : Int)) = true := decide_eq_true (by omega)
      have HK := Lib.hid hK2
      clear hK2
      gi_wp2
      refine ⟨_, results_tmp rfl _ _ _, [], _, HR.out, rfl, World.ownsRow_nil _ _ _ _, HK.out⟩
    · have hdl : decide (nn ≤ (st : Int)) = false := decide_eq_false (by omega)
      gi_wp2_with fail
      refine ⟨trivial, (callsIn_wide.2 (HLL.out _ (h.below hK2))).mono ?_⟩
      rintro e w2 ⟨rfl, hB2⟩
      have hsz3 := hB2.size
      have b0' : Boxed w2 (w.heap.size) 22 (.slice A len cap) := (hB2.block _ b0.lt).trans b0
      have b1' : Boxed w2 (w.heap.size + 1) 3 (.int .i64 nn) := (hB2.block _ b1.lt).trans b1
      have b2' : Boxed w2 (w.heap.size + 1 + 1) 31 (.slice none 0 0) := (hB2.block _ b2.lt).trans b2
      have b3' : Boxed w2 w1.heap.size 3 (.int .i64 (st : Int)) := (hB2.block _ b3.lt).trans b3
      have hK3 := hK2.trans (hB2.mono hK2.size)
      have hszA : w1.heap.size + 1 ≤ w2.heap.size := by omega
      clear d0 d1 d2 d3 b0 b1 b2 b3 hK1 hK2 hB2 hsz2 hsz3
      gi_wp2_with fail
      refine ⟨trivial, (callsIn_wide.2 (nextSeq_any (last : Int) (floor : Int) w2)).mono ?_⟩
      rintro e w3 ⟨rfl, hw3⟩
      have k0 : Boxed w3 (w.heap.size) 22 (.slice A len cap) := by rw [hw3]; exact (b0'.alloc _).alloc _
      have k1 : Boxed w3 (w.heap.size + 1) 3 (.int .i64 nn) := by rw [hw3]; exact (b1'.alloc _).alloc _
      have k2 : Boxed w3 (w.heap.size + 1 + 1) 31 (.slice none 0 0) := by rw [hw3]; exact (b2'.alloc _).alloc _
      have k3 : Boxed w3 w1.heap.size 3 (.int .i64 (st : Int)) := by rw [hw3]; exact (b3'.alloc _).alloc _
      have kB : Boxed w3 w2.heap.size 23 (.int .u64 (last : Int)) := by rw [hw3]; exact (Boxed.new w2 23 _).alloc _
      have kC : Boxed w3 (w2.heap.size + 1) 23 (.int .u64 (floor : Int)) := by
        rw [hw3]
        have := Boxed.new (w2.alloc (.cells #[.int .u64 (last : Int)] 23)) 23 (.int .u64 (floor : Int))
        simpa only [World.size_alloc] using this
      have hK4 : Below w.heap.size w w3 := by rw [hw3]; exact (hK3.alloc hK3.size _).alloc (by simp; have := hK3.size; omega) _
      have hsz3 : w3.heap.size = w2.heap.size + 2 := by rw [hw3]; simp
      clear hw3 b0' b1' b2' b3' hK3
      gi_wp2_with fail
      refine range_box rfl h1 (gf := 23) (lb := #[.pointer (some ⟨w2.heap.size, 0, none⟩), .pointer (some ⟨w2.heap.size + 1, 0, none⟩)]) rfl trivial (enters_of Try.func23 (by kernel_rfl) rfl)
        (fun x : Nat => #[.int .u64 (x : Int)]) (fun _ => rfl) w2.heap.size (by omega) (KB w2.heap.size (w2.heap.size + 1))
        (fun xs => Gen last floor xs ∧ curL last xs = 18446744073709551615) (fun pre => Gen last floor pre)
        (fun pre W => ((((Boxed W (w.heap.size) 22 (.slice A len cap) ∧ Boxed W (w.heap.size + 1) 3 (.int .i64 nn)) ∧ Boxed W w1.heap.size 3 (.int .i64 ((st + pre.length : Nat) : Int))) ∧ (∃ v, Boxed W (w.heap.size + 1 + 1) 31 v ∧ W.ownsRow w3.heap.size 48 18 v pre.length (nvs st pre))) ∧ ((st + pre.length : Nat) : Int) < nn) ∧ (Boxed W (w2.heap.size + 1) 23 (.int .u64 (floor : Int)) ∧ Below w.heap.size w W))
        (fun c pre W => ((c = .exit 0 ∧ ((st + pre.length : Nat) : Int) = nn) ∧ (∃ v, Boxed W (w.heap.size + 1 + 1) 31 v ∧ W.ownsRow w3.heap.size 48 18 v pre.length (nvs st pre))) ∧ Below w.heap.size w W)
        KB.trans (fun W l o hl => ⟨World.putObj_heap_other (by omega), World.putObj_heap_other (by omega)⟩)
        (fun pre W o ⟨⟨⟨⟨⟨e0, e1⟩, e3⟩, ⟨v, e2, er⟩⟩, el⟩, ec, eb⟩ => ⟨⟨⟨⟨⟨e0.alloc o, e1.alloc o⟩, e3.alloc o⟩, ⟨v, e2.alloc o, er.alloc o⟩⟩, el⟩, ec.alloc o, eb.alloc eb.size o⟩)
        (fun pre W l o o' ⟨⟨⟨⟨⟨e0, e1⟩, e3⟩, ⟨v, e2, er⟩⟩, el⟩, ec, eb⟩ hl hlo ho => ⟨⟨⟨⟨⟨e0.kept (grownBy_putObj' W l o') (by simp; omega), e1.kept (grownBy_putObj' W l o') (by simp; omega)⟩, e3.kept (grownBy_putObj' W l o') (by simp; omega)⟩, ⟨v, e2.kept (grownBy_putObj' W l o') (by simp; omega), ownsRow_putObj er o' hlo ho⟩⟩, el⟩, ec.kept (grownBy_putObj' W l o') (by simp; omega), eb.grown (grownBy_putObj' W l o') eb.size (fun k e => by cases e; omega)⟩)
        (fun c pre W l o o' ⟨⟨hc, ⟨v, e2, er⟩⟩, eb⟩ hl hlo ho => ⟨⟨hc, ⟨v, e2.kept (grownBy_putObj' W l o') (by simp; omega), ownsRow_putObj er o' hlo ho⟩⟩, eb.grown (grownBy_putObj' W l o') eb.size (fun k e => by cases e; omega)⟩)
        (fun pre W u ⟨⟨⟨⟨⟨e0, e1⟩, e3⟩, ⟨v, e2, er⟩⟩, el⟩, ec, eb⟩ => ⟨⟨⟨⟨⟨e0.other (by omega) u, e1.other (by omega) u⟩, e3.other (by omega) u⟩, ⟨v, e2.other (by omega) u, er.kept (grownBy_setCell' W w2.heap.size u) (row_ne er _ (by omega))⟩⟩, el⟩, ec.other (by omega) u, eb.setCell (p := ⟨w2.heap.size, 0, none⟩) (show w.heap.size ≤ w2.heap.size by omega) u⟩)
        (fun l J Jx W1 hbel hJb hY hj0 => iter_in (n - 1) (by omega) l w2.heap.size (w2.heap.size + 1) (by omega) last floor hlast2 hf J Jx W1 hJb hY ((hbel.block _ kB.lt).trans kB) ((hbel.block _ kC.lt).trans kC) hj0)
        ⟨⟨⟨⟨⟨k0, k1⟩, k3⟩, ⟨_, k2, World.ownsRow_nil _ _ _ _⟩⟩, by show ((st + 0 : Nat) : Int) < _; omega⟩, kC, hK4⟩
        (fun x => { tmps := #[.slice A len cap, .int .i64 nn, .int .u64 (floor : Int), .pointer (some ⟨w.heap.size, 0, none⟩), .pointer (some ⟨w.heap.size + 1, 0, none⟩), undef, .slice none 0 0, .pointer (some ⟨w.heap.size + 1 + 1, 0, none⟩), .pointer (some ⟨w1.heap.size, 0, none⟩), .int .u64 (x : Int), .slice A len cap, .int .i64 (st : Int), .int .i64 (st : Int), .int .i64 nn, .slice A len cap, .int .i64 (len : Int), .int .i64 (nn), .bool false, .slice A len cap, .int .u64 (last : Int), .int .u64 (floor : Int), .func (.func 23) #[] #[.pointer (some ⟨w2.heap.size, 0, none⟩), .pointer (some ⟨w2.heap.size + 1, 0, none⟩)], .int .u64 (x : Int), undef, undef, undef, undef, undef, undef, undef, undef, undef, undef, undef, undef, undef, undef, undef], defers := [] })
        ?assign ?body ?done ?stop
      case assign =>
        intro l x W K hK
        gi_wp2
        exact hK
      case body =>
        rintro l pre x W ⟨⟨⟨⟨⟨e0, e1⟩, e3⟩, ⟨v, e2, er⟩⟩, el⟩, ec, eb⟩
        obtain ⟨A2, len2, cap2, rfl⟩ := slice_form er
        obtain ⟨q, hq⟩ : ∃ q, st + pre.length = q := ⟨_, rfl⟩
        rw [hq] at e3 el
        have hpl : pre.length < 80 := by omega
        have hro1 : 1 ≤ n - 1 - 1 := by omega
        have d2 := e2.cell
        have d3 := e3.cell
        have hWs : w3.heap.size ≤ W.heap.size := by have := ec.lt; omega
        have HQ := Lib.hid hq
        have HEL := Lib.hid el
        have HALL := Lib.hid (And.intro e0 (And.intro e1 (And.intro e2 (And.intro e3 (And.intro ec (And.intro eb er))))))
        have HWS := Lib.hid hWs
        clear e0 e1 e2 e3 ec eb hq
        by_cases hend : (q : Int) + 1 = nn
        · have hde : decide (nn ≤ (q : Int) + 1) = true := decide_eq_true (by omega)
          have HEND := Lib.hid hend
          clear hend
          gi_wp2_with (
            gi_at_builtin
            refine wpListIn_append_own _ rfl _ _ 31 rfl w3.heap.size 48 i0 (.agg (nc 0 0 |>.set 0 (.int .i64 0)).toArray) 18 192 Try.underlying31 hi hz0 hz1 hz2 rfl (by decide) _ _ _ rfl (er.alloc _) ⟨W.heap.size, 0, none⟩ 1 1 (nc (q : Int) x) rfl rfl (news_new W (nc (q : Int) x) 48) (by simp [nc, Value.oneCell']) (by have : maxLen = 9223372036854775807 := rfl; omega) (by omega) (by have := HWS.out; simp; omega) ?_
            intro v' w1' hown' hgrow _
            obtain ⟨g', cap', rfl⟩ := ownsRow_succ hown'
            have hp := pushed er HWS.out hgrow
            have f0 := hp.1 _ _ _ (by omega) HALL.out.1
            have f1 := hp.1 _ _ _ (by omega) HALL.out.2.1
            have f2 := hp.1 _ _ _ (by omega) HALL.out.2.2.1
            have f3 := hp.1 _ _ _ (by omega) HALL.out.2.2.2.1
            have fc := hp.1 _ _ _ (by omega) HALL.out.2.2.2.2.1
            have x2 := f2.cell
            have x2f := f2.frozen
            have y3 := (f3.other (B' := w.heap.size + 1 + 1) (by omega) (.slice (some ⟨g', 0, none⟩) (pre.length + 1) cap')).cell
            have y3f := (f3.other (B' := w.heap.size + 1 + 1) (by omega) (.slice (some ⟨g', 0, none⟩) (pre.length + 1) cap')).frozen
            have z3b := (f3.other (B' := w.heap.size + 1 + 1) (by omega) (.slice (some ⟨g', 0, none⟩) (pre.length + 1) cap')).set (.int .i64 ((q : Int) + 1))
            have z0b := (f0.other (B' := w.heap.size + 1 + 1) (by omega) (.slice (some ⟨g', 0, none⟩) (pre.length + 1) cap')).other (B' := w1.heap.size) (by omega) (.int .i64 ((q : Int) + 1))
            have z1b := (f1.other (B' := w.heap.size + 1 + 1) (by omega) (.slice (some ⟨g', 0, none⟩) (pre.length + 1) cap')).other (B' := w1.heap.size) (by omega) (.int .i64 ((q : Int) + 1))
            have z2b := (f2.set (.slice (some ⟨g', 0, none⟩) (pre.length + 1) cap')).other (B' := w1.heap.size) (by omega) (.int .i64 ((q : Int) + 1))
            have zcb := (fc.other (B' := w.heap.size + 1 + 1) (by omega) (.slice (some ⟨g', 0, none⟩) (pre.length + 1) cap')).other (B' := w1.heap.size) (by omega) (.int .i64 ((q : Int) + 1))
            have z3 := z3b.cell
            have z0 := z0b.cell
            have z1 := z1b.cell
            have HB0 := Lib.hid z0b
            have HB1 := Lib.hid z1b
            have HB2 := Lib.hid z2b
            have HB3 := Lib.hid z3b
            have HBC := Lib.hid zcb
            have HROW := Lib.hid (show World.ownsRow ((w1'.setCell ⟨w.heap.size + 1 + 1, 0, none⟩ (.slice (some ⟨g', 0, none⟩) (pre.length + 1) cap')).setCell ⟨w1.heap.size, 0, none⟩ (.int .i64 ((q : Int) + 1))) w3.heap.size 48 18 (.slice (some ⟨g', 0, none⟩) (pre.length + 1) cap') (pre.length + 1) (nvs st (pre ++ [x])) by
              rw [nvs_snoc, HQ.out]
              exact (hown'.kept (grownBy_setCell' _ (w.heap.size + 1 + 1) _) (row_ne hown' (w.heap.size + 1 + 1) (by omega))).kept (grownBy_setCell' _ w1.heap.size _) (row_ne hown' w1.heap.size (by omega)))
            have HKO := Lib.hid ((hp.2.1.trans (KeepsOthers.setCell w1' ⟨w.heap.size + 1 + 1, 0, none⟩ (.slice (some ⟨g', 0, none⟩) (pre.length + 1) cap'))).trans (KeepsOthers.setCell _ ⟨w1.heap.size, 0, none⟩ (.int .i64 ((q : Int) + 1))))
            have HBE := Lib.hid (((HALL.out.2.2.2.2.2.1.trans (hp.2.2.1.mono (by omega))).setCell (p := ⟨w.heap.size + 1 + 1, 0, none⟩) (show w.heap.size ≤ w.heap.size + 1 + 1 by omega) (.slice (some ⟨g', 0, none⟩) (pre.length + 1) cap')).setCell (p := ⟨w1.heap.size, 0, none⟩) (show w.heap.size ≤ w1.heap.size by omega) (.int .i64 ((q : Int) + 1)))
            have HKB := Lib.hid (show KB w2.heap.size (w2.heap.size + 1) W ((w1'.setCell ⟨w.heap.size + 1 + 1, 0, none⟩ (.slice (some ⟨g', 0, none⟩) (pre.length + 1) cap')).setCell ⟨w1.heap.size, 0, none⟩ (.int .i64 ((q : Int) + 1))) from
              ⟨(Below.heap_setCell _ _ _ _ (show w2.heap.size ≠ w1.heap.size by omega)).trans ((Below.heap_setCell _ _ _ _ (show w2.heap.size ≠ w.heap.size + 1 + 1 by omega)).trans (hp.2.2.2 _ (by omega))),
               (Below.heap_setCell _ _ _ _ (show w2.heap.size + 1 ≠ w1.heap.size by omega)).trans ((Below.heap_setCell _ _ _ _ (show w2.heap.size + 1 ≠ w.heap.size + 1 + 1 by omega)).trans (hp.2.2.2 _ (by omega)))⟩)
            clear hp f0 f1 f2 f3 fc z0b z1b z2b z3b zcb hown' hgrow)
          have hend := HEND.out
          have hel := HEL.out
          exact ⟨HKO.out.from _, ⟨⟨rfl, by rw [List.length_append]; have := HQ.out; simp; omega⟩, ⟨_, HB2.out, by rw [List.length_append]; exact HROW.out⟩⟩, HBE.out⟩
        · have hde : decide (nn ≤ (q : Int) + 1) = false := decide_eq_false (by omega)
          have HEND := Lib.hid hend
          clear hend
          gi_wp2_with (
            gi_at_builtin
            refine wpListIn_append_own _ rfl _ _ 31 rfl w3.heap.size 48 i0 (.agg (nc 0 0 |>.set 0 (.int .i64 0)).toArray) 18 192 Try.underlying31 hi hz0 hz1 hz2 rfl (by decide) _ _ _ rfl (er.alloc _) ⟨W.heap.size, 0, none⟩ 1 1 (nc (q : Int) x) rfl rfl (news_new W (nc (q : Int) x) 48) (by simp [nc, Value.oneCell']) (by have : maxLen = 9223372036854775807 := rfl; omega) (by omega) (by have := HWS.out; simp; omega) ?_
            intro v' w1' hown' hgrow _
            obtain ⟨g', cap', rfl⟩ := ownsRow_succ hown'
            have hp := pushed er HWS.out hgrow
            have f0 := hp.1 _ _ _ (by omega) HALL.out.1
            have f1 := hp.1 _ _ _ (by omega) HALL.out.2.1
            have f2 := hp.1 _ _ _ (by omega) HALL.out.2.2.1
            have f3 := hp.1 _ _ _ (by omega) HALL.out.2.2.2.1
            have fc := hp.1 _ _ _ (by omega) HALL.out.2.2.2.2.1
            have x2 := f2.cell
            have x2f := f2.frozen
            have y3 := (f3.other (B' := w.heap.size + 1 + 1) (by omega) (.slice (some ⟨g', 0, none⟩) (pre.length + 1) cap')).cell
            have y3f := (f3.other (B' := w.heap.size + 1 + 1) (by omega) (.slice (some ⟨g', 0, none⟩) (pre.length + 1) cap')).frozen
            have z3b := (f3.other (B' := w.heap.size + 1 + 1) (by omega) (.slice (some ⟨g', 0, none⟩) (pre.length + 1) cap')).set (.int .i64 ((q : Int) + 1))
            have z0b := (f0.other (B' := w.heap.size + 1 + 1) (by omega) (.slice (some ⟨g', 0, none⟩) (pre.length + 1) cap')).other (B' := w1.heap.size) (by omega) (.int .i64 ((q : Int) + 1))
            have z1b := (f1.other (B' := w.heap.size + 1 + 1) (by omega) (.slice (some ⟨g', 0, none⟩) (pre.length + 1) cap')).other (B' := w1.heap.size) (by omega) (.int .i64 ((q : Int) + 1))
            have z2b := (f2.set (.slice (some ⟨g', 0, none⟩) (pre.length + 1) cap')).other (B' := w1.heap.size) (by omega) (.int .i64 ((q : Int) + 1))
            have zcb := (fc.other (B' := w.heap.size + 1 + 1) (by omega) (.slice (some ⟨g', 0, none⟩) (pre.length + 1) cap')).other (B' := w1.heap.size) (by omega) (.int .i64 ((q : Int) + 1))
            have z3 := z3b.cell
            have z0 := z0b.cell
            have z1 := z1b.cell
            have HB0 := Lib.hid z0b
            have HB1 := Lib.hid z1b
            have HB2 := Lib.hid z2b
            have HB3 := Lib.hid z3b
            have HBC := Lib.hid zcb
            have HROW := Lib.hid (show World.ownsRow ((w1'.setCell ⟨w.heap.size + 1 + 1, 0, none⟩ (.slice (some ⟨g', 0, none⟩) (pre.length + 1) cap')).setCell ⟨w1.heap.size, 0, none⟩ (.int .i64 ((q : Int) + 1))) w3.heap.size 48 18 (.slice (some ⟨g', 0, none⟩) (pre.length + 1) cap') (pre.length + 1) (nvs st (pre ++ [x])) by
              rw [nvs_snoc, HQ.out]
              exact (hown'.kept (grownBy_setCell' _ (w.heap.size + 1 + 1) _) (row_ne hown' (w.heap.size + 1 + 1) (by omega))).kept (grownBy_setCell' _ w1.heap.size _) (row_ne hown' w1.heap.size (by omega)))
            have HKO := Lib.hid ((hp.2.1.trans (KeepsOthers.setCell w1' ⟨w.heap.size + 1 + 1, 0, none⟩ (.slice (some ⟨g', 0, none⟩) (pre.length + 1) cap'))).trans (KeepsOthers.setCell _ ⟨w1.heap.size, 0, none⟩ (.int .i64 ((q : Int) + 1))))
            have HBE := Lib.hid (((HALL.out.2.2.2.2.2.1.trans (hp.2.2.1.mono (by omega))).setCell (p := ⟨w.heap.size + 1 + 1, 0, none⟩) (show w.heap.size ≤ w.heap.size + 1 + 1 by omega) (.slice (some ⟨g', 0, none⟩) (pre.length + 1) cap')).setCell (p := ⟨w1.heap.size, 0, none⟩) (show w.heap.size ≤ w1.heap.size by omega) (.int .i64 ((q : Int) + 1)))
            have HKB := Lib.hid (show KB w2.heap.size (w2.heap.size + 1) W ((w1'.setCell ⟨w.heap.size + 1 + 1, 0, none⟩ (.slice (some ⟨g', 0, none⟩) (pre.length + 1) cap')).setCell ⟨w1.heap.size, 0, none⟩ (.int .i64 ((q : Int) + 1))) from
              ⟨(Below.heap_setCell _ _ _ _ (show w2.heap.size ≠ w1.heap.size by omega)).trans ((Below.heap_setCell _ _ _ _ (show w2.heap.size ≠ w.heap.size + 1 + 1 by omega)).trans (hp.2.2.2 _ (by omega))),
               (Below.heap_setCell _ _ _ _ (show w2.heap.size + 1 ≠ w1.heap.size by omega)).trans ((Below.heap_setCell _ _ _ _ (show w2.heap.size + 1 ≠ w.heap.size + 1 + 1 by omega)).trans (hp.2.2.2 _ (by omega)))⟩)
            clear hp f0 f1 f2 f3 fc z0b z1b z2b z3b zcb hown' hgrow)
          have hend := HEND.out
          have hel := HEL.out
          exact ⟨HKO.out.from _, HKB.out, ⟨⟨⟨⟨⟨HB0.out, HB1.out⟩, by rw [List.length_append, show st + (pre.length + [x].length) = q + 1 by have := HQ.out; simp; omega]; exact HB3.out⟩, ⟨_, HB2.out, by rw [List.length_append]; exact HROW.out⟩⟩, by rw [List.length_append, show st + (pre.length + [x].length) = q + 1 by have := HQ.out; simp; omega]; omega⟩, HBC.out, HBE.out⟩⟩
      case done =>
        rintro D xs W hD ⟨hg, hm⟩ ⟨⟨⟨⟨⟨e0, e1⟩, e3⟩, ⟨v, e2, er⟩⟩, el⟩, _, eb⟩ hK
        have HR := Lib.hid (show NoteRes st (nn) last floor xs from ⟨hg, fun h => by omega, fun _ => ⟨by omega, .inr hm⟩⟩)
        obtain ⟨A2, len2, cap2, rfl⟩ := slice_form er
        have d2 := e2.cell
        have H := Lib.hid (And.intro er eb)
        clear hg hm e0 e1 e3 el er eb
        gi_wp2
        refine ⟨by simp, .inl ⟨_, _, rfl, run_takeDeferred hK, ?_⟩⟩
        exact ⟨_, results_tmp rfl _ _ _, _, _, HR.out, rfl, row_low (n₁ := w3.heap.size) (ownsRow_putObj H.out.1 _ hK rfl) (by omega), H.out.2.grown (grownBy_putObj' W D _) H.out.2.size (fun k e => by cases e; omega)⟩
      case stop =>
        rintro D c pre W hD hg ⟨⟨⟨rfl, hlim2⟩, ⟨v, e2, er⟩⟩, eb⟩ hK
        have HR := Lib.hid (show NoteRes st (nn) last floor pre from ⟨hg, fun h => by omega, fun _ => ⟨by omega, .inl (by omega)⟩⟩)
        obtain ⟨A2, len2, cap2, rfl⟩ := slice_form er
        have d2 := e2.cell
        have H := Lib.hid (And.intro er eb)
        clear hg er eb
        gi_wp2
        refine ⟨by simp, .inl ⟨_, _, rfl, run_takeDeferred hK, ?_⟩⟩
        exact ⟨_, results_tmp rfl _ _ _, _, _, HR.out, rfl, row_low (n₁ := w3.heap.size) (ownsRow_putObj H.out.1 _ hK rfl) (by omega), H.out.2.grown (grownBy_putObj' W D _) H.out.2.size (fun k e => by cases e; omega)⟩
end Go.Proofs.Ytboiilbeioaneaa
