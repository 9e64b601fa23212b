/- The walk of frame.All: a range over the iterator. -/
import Derived.Test.YtjjhbkmmkhkjnaaSt
import Derived.RangeFuncBox
import Derived.Maps.AppendAt
namespace Go.Proofs.Ytjjhbkmmkhkjnaa
open Go.RowKit Go.Shelf Crc Law
attribute [local go_sem] Oper.semAt_some

theorem row_low {W : World} {n n₁ : Nat} {e : TypeId} {size : Nat} {v : Value} {k : Nat} {xs : List Value} (h : W.ownsRow n₁ e size v k xs) (hn : n ≤ n₁) : W.ownsRow n e size v k xs :=
  ⟨h.1, h.2.imp id (fun ⟨g, cap, cur, e1, hb, r⟩ => ⟨g, cap, cur, e1, Nat.le_trans hn hb, r⟩)⟩
theorem slice_form {W : World} {n₁ : Nat} {e : TypeId} {size : Nat} {v : Value} {k : Nat} {xs : List Value} (h : W.ownsRow n₁ e size v k xs) : ∃ A len cap, v = .slice A len cap := by
  rcases h.2 with ⟨rfl, _⟩ | ⟨g, cap, cur, rfl, _⟩
  · exact ⟨_, _, _, rfl⟩
  · exact ⟨_, _, _, rfl⟩

/-- Append on a row of the walk's own, as one operation. -/
theorem op_push {F : Fence} {n : Nat} {P : Program} {w : World} {o : Oper} {a : Act} {K : Act → World → Prop} {Q : Exit → Act → World → Prop}
    (_hg : o.guard = none) (sl x : Operand) (t : TypeId) (hop : o.op = Op.call { callee := Callee.builtin Builtin.append, args := #[sl, x], argTypes := #[t, t] })
    (base : Nat) (e : TypeId) (i : TypeInfo) (z : Value) (size bytes : Nat) (h1 : P.underlying t = some (.slice e)) (h2 : P.info? e = some i) (h3 : i.zero = some z) (h4 : i.size = size) (h5 : i.bytes = bytes) (h6 : z.cells.size = size) (h7 : 0 < size)
    (v : Value) (k : Nat) (xs : List Value) (hs : a.eval sl = v) (hown : w.ownsRow base e size v k xs) (ad : Addr) (m c : Nat) (news : List Value) (hx : a.eval x = .slice (some ad) m c) (hn : news.length = m * size)
    (hc : ∀ j u, news[j]? = some u → w.cell? (ad.add j) = some u) (h1c : ∀ u ∈ news, u.oneCell' = true) (b1 : k + m ≤ maxLen) (b2 : (k + m) * bytes ≤ 140737488355328) (b3 : base ≤ w.heap.size)
    (hK : ∀ v' w', w'.ownsRow base e size v' (k + m) (xs ++ news) → w.grownBy w' v.ownBlock → K (a.put o.dst v') w') : Oper.wpIn F n P o a w K Q := by
  obtain ⟨v', w', hrun, r1, r2, _⟩ := run_append_own (P := P) w base t o.type e i z size bytes h1 h2 h3 h4 h5 h6 h7 v k xs hown ad m c news hn hc h1c b1 b2 b3
  refine ⟨by simp [Oper.about, hop, resolve, Target.leads, Sem.run_pure], ?_⟩
  have hd : ∀ c, o.op ≠ .defer c := fun c' hc' => by rw [hop] at hc'; cases hc'
  rw [Oper.semAt_plain F _ _ hd]
  simp [execOp, hop, resolve, invoke, builtin, hs, hx, hrun, Result.andThen]
  exact hK _ _ r1 r2

set_option maxRecDepth 100000 in
set_option maxHeartbeats 4000000 in
theorem all_in (n : Nat) (hn : 3 ≤ n) (s : ByteArray) (w : World) (hs : s.size ≤ 1099511627776) :
    CallsIn Fence.wide n Try.prog 12 #[.string s] w fun e W' => ∃ ts i er v, AllRes s ts i er ∧ e = .returned (.tuple #[v, .int .i64 i, .int .i64 er]) ∧ W'.ownsRow w.heap.size 9 1 v ts.length (ts.map .string) ∧ Below w.heap.size w W' := by
  have h1 : 1 ≤ n := by omega
  obtain ⟨i0, hi, hz0, hz1, hz2⟩ := info_parts Try.infoS
  refine callsIn_of_wp_marks Try.func12 rfl trivial ?_ rfl
  simp only [Try.ntmps12, List.size_toArray, List.length_cons, List.length_nil, Nat.reduceAdd, Nat.reduceSub, Array.replicate_succ, Array.replicate_zero, List.push_toArray, List.append_toArray, List.nil_append, List.cons_append]
  gi_wp2_with fail
  refine ⟨trivial, (callsIn_wide.2 (frames_any s _)).mono ?_⟩
  rintro e w' ⟨rfl, rfl⟩
  gi_wp2_with fail
  have b0 : Boxed ((((((w.alloc (.cells #[.slice none 0 0] 38)).alloc (.cells #[.int .i64 0] 3)).alloc (.cells #[.int .i64 0] 24)).alloc (.cells #[.slice none 0 0] 38)).alloc (.cells #[.int .i64 0] 3)).alloc (.cells #[.string s] 9)) (w.heap.size) 38 (.slice none 0 0) := (((((Boxed.new w 38 (.slice none 0 0)).alloc _).alloc _).alloc _).alloc _).alloc _
  have b1 : Boxed ((((((w.alloc (.cells #[.slice none 0 0] 38)).alloc (.cells #[.int .i64 0] 3)).alloc (.cells #[.int .i64 0] 24)).alloc (.cells #[.slice none 0 0] 38)).alloc (.cells #[.int .i64 0] 3)).alloc (.cells #[.string s] 9)) (w.heap.size + 1) 3 (.int .i64 0) := by
    have h := ((((Boxed.new (w.alloc (.cells #[.slice none 0 0] 38)) 3 (.int .i64 0)).alloc (.cells #[.int .i64 0] 24)).alloc (.cells #[.slice none 0 0] 38)).alloc (.cells #[.int .i64 0] 3)).alloc (.cells #[.string s] 9)
    simpa only [World.size_alloc] using h
  have b2 : Boxed ((((((w.alloc (.cells #[.slice none 0 0] 38)).alloc (.cells #[.int .i64 0] 3)).alloc (.cells #[.int .i64 0] 24)).alloc (.cells #[.slice none 0 0] 38)).alloc (.cells #[.int .i64 0] 3)).alloc (.cells #[.string s] 9)) (w.heap.size + 1 + 1) 24 (.int .i64 0) := by
    have h := (((Boxed.new ((w.alloc (.cells #[.slice none 0 0] 38)).alloc (.cells #[.int .i64 0] 3)) 24 (.int .i64 0)).alloc (.cells #[.slice none 0 0] 38)).alloc (.cells #[.int .i64 0] 3)).alloc (.cells #[.string s] 9)
    simpa only [World.size_alloc] using h
  have b3 : Boxed ((((((w.alloc (.cells #[.slice none 0 0] 38)).alloc (.cells #[.int .i64 0] 3)).alloc (.cells #[.int .i64 0] 24)).alloc (.cells #[.slice none 0 0] 38)).alloc (.cells #[.int .i64 0] 3)).alloc (.cells #[.string s] 9)) (w.heap.size + 1 + 1 + 1) 38 (.slice none 0 0) := by
    have h := ((Boxed.new (((w.alloc (.cells #[.slice none 0 0] 38)).alloc (.cells #[.int .i64 0] 3)).alloc (.cells #[.int .i64 0] 24)) 38 (.slice none 0 0)).alloc (.cells #[.int .i64 0] 3)).alloc (.cells #[.string s] 9)
    simpa only [World.size_alloc] using h
  have b4 : Boxed ((((((w.alloc (.cells #[.slice none 0 0] 38)).alloc (.cells #[.int .i64 0] 3)).alloc (.cells #[.int .i64 0] 24)).alloc (.cells #[.slice none 0 0] 38)).alloc (.cells #[.int .i64 0] 3)).alloc (.cells #[.string s] 9)) (w.heap.size + 1 + 1 + 1 + 1) 3 (.int .i64 0) := by
    have h := (Boxed.new ((((w.alloc (.cells #[.slice none 0 0] 38)).alloc (.cells #[.int .i64 0] 3)).alloc (.cells #[.int .i64 0] 24)).alloc (.cells #[.slice none 0 0] 38)) 3 (.int .i64 0)).alloc (.cells #[.string s] 9)
    simpa only [World.size_alloc] using h
  have b5 : Boxed ((((((w.alloc (.cells #[.slice none 0 0] 38)).alloc (.cells #[.int .i64 0] 3)).alloc (.cells #[.int .i64 0] 24)).alloc (.cells #[.slice none 0 0] 38)).alloc (.cells #[.int .i64 0] 3)).alloc (.cells #[.string s] 9)) (w.heap.size + 1 + 1 + 1 + 1 + 1) 9 (.string s) := by
    have h := Boxed.new (((((w.alloc (.cells #[.slice none 0 0] 38)).alloc (.cells #[.int .i64 0] 3)).alloc (.cells #[.int .i64 0] 24)).alloc (.cells #[.slice none 0 0] 38)).alloc (.cells #[.int .i64 0] 3)) 9 (.string s)
    simpa only [World.size_alloc] using h
  have hB0 : Below w.heap.size w ((((((w.alloc (.cells #[.slice none 0 0] 38)).alloc (.cells #[.int .i64 0] 3)).alloc (.cells #[.int .i64 0] 24)).alloc (.cells #[.slice none 0 0] 38)).alloc (.cells #[.int .i64 0] 3)).alloc (.cells #[.string s] 9)) := ((((((Below.refl _ w).alloc (Nat.le_refl _) _).alloc (by simp) _).alloc (by simp; omega) _).alloc (by simp; omega) _).alloc (by simp; omega) _).alloc (by simp; omega) _
  have hsz : ((((((w.alloc (.cells #[.slice none 0 0] 38)).alloc (.cells #[.int .i64 0] 3)).alloc (.cells #[.int .i64 0] 24)).alloc (.cells #[.slice none 0 0] 38)).alloc (.cells #[.int .i64 0] 3)).alloc (.cells #[.string s] 9)).heap.size = w.heap.size + 1 + 1 + 1 + 1 + 1 + 1 := by simp
  obtain ⟨W0, hW0⟩ : ∃ W0, ((((((w.alloc (.cells #[.slice none 0 0] 38)).alloc (.cells #[.int .i64 0] 3)).alloc (.cells #[.int .i64 0] 24)).alloc (.cells #[.slice none 0 0] 38)).alloc (.cells #[.int .i64 0] 3)).alloc (.cells #[.string s] 9)) = W0 := ⟨_, rfl⟩
  rw [hW0] at b0 b1 b2 b3 b4 b5 hB0 hsz ⊢
  clear hW0
  refine wpIn_rangeFunc_ownH rfl h1 (gf := 28) (lb := #[.pointer (some ⟨w.heap.size + 1 + 1 + 1 + 1 + 1, 0, none⟩)]) rfl trivial (enters_of Try.func28 (by kernel_rfl) rfl)
    (frames_stop (n - 1) (by omega) (w.heap.size + 1 + 1 + 1 + 1 + 1) s (by omega) W0 (by omega) b5.cell) KB.trans
    (fun W l o o' hl ho _ _ => ⟨by simp, World.putObj_heap_other (by omega)⟩) (Below.refl _ _) (fun _ => rfl)
    (fun pre W => (((((((∀ x ∈ pre, x.2.2 = 0) ∧ Boxed W (w.heap.size) 38 (.slice none 0 0)) ∧ Boxed W (w.heap.size + 1) 3 (.int .i64 0)) ∧ Boxed W (w.heap.size + 1 + 1) 24 (.int .i64 0)) ∧ (∃ v, Boxed W (w.heap.size + 1 + 1 + 1) 38 v ∧ W.ownsRow (w.heap.size + 1 + 1 + 1 + 1 + 1 + 1) 9 1 v (pre.map (fun x : Item => x.1)).length ((pre.map (fun x : Item => x.1)).map .string) ∧ True)) ∧ Boxed W (w.heap.size + 1 + 1 + 1 + 1) 3 (.int .i64 (lastTo pre))) ∧ Boxed W (w.heap.size + 1 + 1 + 1 + 1 + 1) 9 (.string s)) ∧ Below w.heap.size w W)
    (fun c pre W => ((((∃ (p : List Item) (x : Item), pre = p ++ [x] ∧ (∀ y ∈ p, y.2.2 = 0) ∧ x.2.2 ≠ 0 ∧ c = .ret) ∧ (∃ v, Boxed W (w.heap.size) 38 v ∧ W.ownsRow (w.heap.size + 1 + 1 + 1 + 1 + 1 + 1) 9 1 v (pre.dropLast.map (fun x : Item => x.1)).length ((pre.dropLast.map (fun x : Item => x.1)).map .string) ∧ True)) ∧ Boxed W (w.heap.size + 1) 3 (.int .i64 (lastTo pre.dropLast))) ∧ Boxed W (w.heap.size + 1 + 1) 24 (.int .i64 ((pre.getLast?.map fun x : Item => x.2.2).getD 0))) ∧ Below w.heap.size w W)
    (OwnFrom.and (OwnFrom.and (OwnFrom.and (OwnFrom.and (OwnFrom.and (OwnFrom.and (OwnFrom.and (ownFrom_pure _ _) (Own.from (boxed_own _ _ _) _)) (Own.from (boxed_own _ _ _) _)) (Own.from (boxed_own _ _ _) _)) (Own.from (holdsRow_own (w.heap.size + 1 + 1 + 1 + 1 + 1 + 1) (w.heap.size + 1 + 1 + 1) 38 9 1 (fun pre : List Item => (pre.map (fun x : Item => x.1)).length) (fun pre : List Item => (pre.map (fun x : Item => x.1)).map .string) (fun _ _ => True)) _)) (Own.from (boxed_own _ _ _) _)) (Own.from (boxed_own _ _ _) _)) (ownFrom_below (Nat.le_refl _) (by omega)))
    (fun c => OwnFrom.and (OwnFrom.and (OwnFrom.and (OwnFrom.and (ownFrom_pure _ _) (Own.from (holdsRow_own (w.heap.size + 1 + 1 + 1 + 1 + 1 + 1) (w.heap.size) 38 9 1 (fun pre : List Item => (pre.dropLast.map (fun x : Item => x.1)).length) (fun pre : List Item => (pre.dropLast.map (fun x : Item => x.1)).map .string) (fun _ _ => True)) _)) (Own.from (boxed_own _ _ _) _)) (Own.from (boxed_own _ _ _) _)) (ownFrom_below (Nat.le_refl _) (by omega)))
    ⟨⟨⟨⟨⟨⟨⟨by simp, b0⟩, b1⟩, b2⟩, ⟨_, b3, World.ownsRow_nil _ _ _ _, trivial⟩⟩, b4⟩, b5⟩, hB0⟩
    (fun x a' W => ∃ Bx, w.heap.size + 1 + 1 + 1 + 1 + 1 < Bx ∧ Bx < W.heap.size ∧ Blk3 W Bx x ∧ a' = { tmps := #[.string s, undef, .pointer (some ⟨w.heap.size, 0, none⟩), .pointer (some ⟨w.heap.size + 1, 0, none⟩), .pointer (some ⟨w.heap.size + 1 + 1, 0, none⟩), .pointer (some ⟨w.heap.size + 1 + 1 + 1, 0, none⟩), .pointer (some ⟨w.heap.size + 1 + 1 + 1 + 1, 0, none⟩), .pointer (some ⟨Bx, 0, none⟩), .string s, .func (.func 28) #[] #[.pointer (some ⟨w.heap.size + 1 + 1 + 1 + 1 + 1, 0, none⟩)], .agg #[.string x.1, .int .i64 x.2.1, .int .i64 x.2.2], undef, undef, undef, undef, undef, undef, undef, undef, undef, undef, undef, undef, undef, undef, undef, undef], defers := [] })
    (fun x a' _ X Y row hs hg hr => by
      obtain ⟨Bx, e1, e2, e3, e4⟩ := hs
      exact ⟨Bx, e1, Nat.lt_of_lt_of_le e2 hg.size, e3.own hg (fun r e => (hr r e).2), e4⟩)
    ?assign ?body ?done ?stop
  case assign =>
    rintro l pre x W K ⟨⟨⟨⟨⟨⟨⟨c0, c1⟩, c2⟩, c3⟩, ⟨v, c4, c5, _⟩⟩, c6⟩, c8⟩, c7⟩ hK
    have hsW := c7.size
    obtain ⟨t, to, er⟩ := x
    simp only [enc] at *
    gi_wp2_with fail
    exact hK _ _ ((KeepsOthers.alloc _ _).from _) ⟨by simp, Below.heap_alloc _ _ _ c8.lt⟩ ⟨⟨⟨⟨⟨⟨⟨c0, c1.alloc _⟩, c2.alloc _⟩, c3.alloc _⟩, ⟨v, c4.alloc _, c5.alloc _, trivial⟩⟩, c6.alloc _⟩, c8.alloc _⟩, c7.alloc hsW _⟩ ⟨W.heap.size, c8.lt, by simp, Blk.new W 59 _, rfl⟩
  case body =>
    rintro l pre x a' W hl _ ⟨⟨⟨⟨⟨⟨⟨c0, c1⟩, c2⟩, c3⟩, ⟨v, c4, c5, _⟩⟩, c6⟩, c8⟩, c7⟩ ⟨Bx, hBx, hBl, hx, rfl⟩ hlt
    have hro1 : 1 ≤ n - 1 - 1 := by omega
    have x0 : W.cell? ⟨Bx, 0, none⟩ = some (.string x.1) := Blk.cell hx 0
    have x1 : W.cell? ⟨Bx, 1, none⟩ = some (.int .i64 x.2.1) := Blk.cell hx 1
    have x2 : W.cell? ⟨Bx, 2, none⟩ = some (.int .i64 x.2.2) := Blk.cell hx 2
    have d0 := c1.cell
    have d0f := c1.frozen
    have d1 := c2.cell
    have d1f := c2.frozen
    have d2 := c3.cell
    have d2f := c3.frozen
    have d3 := c4.cell
    have d3f := c4.frozen
    have d4 := c6.cell
    have d4f := c6.frozen
    obtain ⟨t, to, er⟩ := x
    dsimp only at x0 x1 x2
    obtain ⟨A, len, cap, rfl⟩ : ∃ A len cap, v = .slice A len cap := by
      rcases c5.2 with ⟨rfl, _⟩ | ⟨g, cap, cur, rfl, _⟩
      · exact ⟨_, _, _, rfl⟩
      · exact ⟨_, _, _, rfl⟩
    obtain ⟨ts, hts⟩ : ∃ ts : List ByteArray, pre.map (fun x : Item => x.1) = ts := ⟨_, rfl⟩
    rw [hts] at c5
    have HLEN := Lib.hid (show ts.length = pre.length by rw [← hts, List.length_map])
    have hrl := row_from c5
    by_cases he : er = 0
    · subst he
      have hd1 : ((0 : Int) == 0) = true := rfl
      have hkb : ts.length + 1 ≤ 1099511627776 := by
        have h1 := items_length s (s.size + 1) 0
        have h2 : pre.length < (items s (s.size + 1) 0).length := hlt
        have h3 := HLEN.out
        omega
      gi_wp2_with fail
      refine wpIn_region_any (by kernel_rfl) ?_
      change wpAnyIn _ _ _ _ _ _ _ _ _ W.drew
      refine any_states (fun listed a' w' => ∃ (L0 L1 L2 L3 L4 L5 L6 L7 L8 : Bool) (s18 s19 s20 s21 s22 s23 s24 : Value) (gv capv blk : Nat), listed = #[L0, L1, L2, L3, L4, L5, L6, L7, L8] ∧ a' = { tmps := #[.string s, undef, .pointer (some ⟨w.heap.size, 0, none⟩), .pointer (some ⟨w.heap.size + 1, 0, none⟩), .pointer (some ⟨w.heap.size + 1 + 1, 0, none⟩), .pointer (some ⟨w.heap.size + 1 + 1 + 1, 0, none⟩), .pointer (some ⟨w.heap.size + 1 + 1 + 1 + 1, 0, none⟩), .pointer (some ⟨Bx, 0, none⟩), .string s, .func (.func 28) #[] #[.pointer (some ⟨w.heap.size + 1 + 1 + 1 + 1 + 1, 0, none⟩)], .agg #[.string t, .int .i64 to, .int .i64 0], .pointer (some ⟨Bx, 2, none⟩), .int .i64 0, .bool false, undef, undef, undef, undef, s18, s19, s20, s21, s22, s23, s24, undef, undef], defers := [] } ∧ StP w W s (.slice A len cap) (ts.length) (ts.map .string) Bx (t, to, 0) (lastTo pre) L0 L1 L2 L3 L4 L5 L6 L7 L8 s18 s19 s20 s21 s22 s23 s24 gv capv blk w') ?step ?fin _ _ _ _ ?start ?cnt
      case start => exact ⟨false, false, false, false, false, false, false, false, false, undef, undef, undef, undef, undef, undef, undef, 0, 0, 0, rfl, rfl, { c3 := nofun, c40 := nofun, c43 := nofun, c7 := nofun, c8 := nofun, f18 := nofun, f19 := nofun, f20 := nofun, f21 := nofun, f22 := nofun, f23 := nofun, f24 := nofun, bx := hx, b0 := c1, b1 := c2, b2 := c3, b5 := c8, b3f := fun _ => c4, b3t := nofun, b4f := fun _ => c6, b4t := nofun, rf := fun _ => c5, rt := nofun, tm := nofun, ko := KeepsOthers.drew W, bl := c7.drew, sz := Nat.le_refl _ }⟩
      case cnt => decide
      case step =>
        rintro listed a' w' ⟨L0, L1, L2, L3, L4, L5, L6, L7, L8, s18, s19, s20, s21, s22, s23, s24, gv, capv, blk, rfl, rfl, h⟩ i hir
        obtain ⟨hun, o, ho, hall⟩ := mem_ready.1 hir
        have hi9 : i < 9 := by
          rcases Nat.lt_or_ge i 9 with h | h
          · exact h
          · rw [Array.getD_eq_getD_getElem?, Array.getElem?_eq_none (by simpa using h)] at hun
            cases hun
        obtain rfl | rfl | rfl | rfl | rfl | rfl | rfl | rfl | rfl : i = 0 ∨ i = 1 ∨ i = 2 ∨ i = 3 ∨ i = 4 ∨ i = 5 ∨ i = 6 ∨ i = 7 ∨ i = 8 := by omega
        all_goals
          simp only [List.getElem?_toArray, List.getElem?_cons_zero, List.getElem?_cons_succ, Option.some.injEq] at ho
          subst ho
          simp [Region.binds] at hall hun
        · obtain rfl := hun
          have h7 : L7 = false := by
            cases L7 with
            | false => rfl
            | true => cases h.c40 (h.c7 rfl)
          have hc := (h.b3f h7).cell
          subst h7
          refine wpOpIn_step rfl (fun K' hK' => ?_)
          go_simp
          refine hK' _ _ ?_
          exact ⟨true, L1, L2, L3, L4, L5, L6, false, L8, _, s19, s20, s21, s22, s23, s24, gv, capv, blk, rfl, rfl, h.op0⟩
        · obtain rfl := hun
          refine wpOpIn_step rfl (fun K' hK' => ?_)
          go_simp
          refine hK' _ _ ?_
          exact ⟨L0, true, L2, L3, L4, L5, L6, L7, L8, s18, _, s20, s21, s22, s23, s24, gv, capv, blk, rfl, rfl, h.op1⟩
        · obtain rfl := hun
          obtain rfl := hall
          obtain rfl := h.f19 rfl
          have hc : w'.cell? ⟨Bx, 0, none⟩ = some (.string t) := Blk.cell h.bx 0
          refine wpOpIn_step rfl (fun K' hK' => ?_)
          go_simp
          refine hK' _ _ ?_
          exact ⟨L0, true, true, L3, L4, L5, L6, L7, L8, s18, _, _, s21, s22, s23, s24, gv, capv, blk, rfl, rfl, h.op2⟩
        · obtain rfl := hun
          obtain rfl := hall
          obtain rfl := h.f20 rfl
          have h4 : L4 = false := by
            cases L4 with
            | false => rfl
            | true => cases h.c43 rfl
          subst h4
          have h7 : L7 = false := by
            cases L7 with
            | false => rfl
            | true => cases h.c7 rfl
          subst h7
          have h8 : L8 = false := by
            cases L8 with
            | false => rfl
            | true => cases h.c8 rfl
          subst h8
          refine wpOpIn_step rfl (fun K' hK' => ?_)
          go_simp
          refine hK' _ _ ?_
          exact ⟨L0, L1, true, true, false, L5, L6, false, false, s18, s19, _, _, s22, s23, s24, gv, capv, _, rfl, rfl, h.op3⟩
        · obtain rfl := hun
          obtain ⟨rfl, rfl⟩ := hall
          obtain rfl := h.f18 rfl
          obtain rfl := h.f21 rfl
          obtain rfl := h.c3 rfl
          have h7 : L7 = false := by
            cases L7 with
            | false => rfl
            | true => cases h.c7 rfl
          subst h7
          have h8 : L8 = false := by
            cases L8 with
            | false => rfl
            | true => cases h.c8 rfl
          subst h8
          refine wpOpIn_step rfl (fun K' hK' => ?_)
          rw [if_pos (show Region.wanted _ _ = true from rfl)]
          refine op_push rfl (.tmp 18) (.tmp 21) 38 rfl (w.heap.size + 1 + 1 + 1 + 1 + 1 + 1) 9 i0 (.string ByteArray.empty) 1 16 Try.underlying38 hi hz0 hz1 hz2 rfl (by decide) _ _ _ rfl (h.rf rfl) ⟨blk, 0, none⟩ 1 1 [.string t] rfl rfl ?_ (by simp [Value.oneCell']) (by have : maxLen = 9223372036854775807 := rfl; omega) (by omega) (by have h1 := h.sz; have h2 := c8.lt; omega) ?_
          · intro j u hj
            cases j with
            | zero => simp at hj; subst hj; exact h.tm rfl rfl
            | succ j => simp at hj
          · intro v' w1 hown hgrow
            obtain ⟨g', c', rfl⟩ := ownsRow_succ hown
            refine hK' _ _ ?_
            exact ⟨true, L1, true, true, true, L5, L6, false, false, _, s19, s20, _, _, s23, s24, g', c', blk, rfl, rfl, h.op4 hgrow hown⟩
        · obtain rfl := hun
          refine wpOpIn_step rfl (fun K' hK' => ?_)
          go_simp
          refine hK' _ _ ?_
          exact ⟨L0, L1, L2, L3, L4, true, L6, L7, L8, s18, s19, s20, s21, s22, _, s24, gv, capv, blk, rfl, rfl, h.op5⟩
        · obtain rfl := hun
          obtain rfl := hall
          obtain rfl := h.f23 rfl
          have hc : w'.cell? ⟨Bx, 1, none⟩ = some (.int .i64 to) := Blk.cell h.bx 1
          refine wpOpIn_step rfl (fun K' hK' => ?_)
          go_simp
          refine hK' _ _ ?_
          exact ⟨L0, L1, L2, L3, L4, true, true, L7, L8, s18, s19, s20, s21, s22, _, _, gv, capv, blk, rfl, rfl, h.op6⟩
        · obtain rfl := hun
          obtain ⟨rfl, rfl, rfl, rfl, rfl, _⟩ := hall
          obtain rfl := h.f22 rfl
          have h8 : L8 = false := by
            cases L8 with
            | false => rfl
            | true => cases h.c8 rfl
          subst h8
          have hc := (h.b3f rfl).cell
          have hcf := (h.b3f rfl).frozen
          refine wpOpIn_step rfl (fun K' hK' => ?_)
          go_simp
          refine hK' _ _ ?_
          exact ⟨true, true, true, true, true, L5, L6, true, false, s18, s19, s20, s21, _, s23, s24, gv, capv, blk, rfl, rfl, h.op7 hBx⟩
        · obtain rfl := hun
          obtain ⟨rfl, rfl, rfl, rfl, rfl, rfl, rfl, rfl, _⟩ := hall
          obtain rfl := h.f24 rfl
          have hc := (h.b4f rfl).cell
          have hcf := (h.b4f rfl).frozen
          refine wpOpIn_step rfl (fun K' hK' => ?_)
          go_simp
          refine hK' _ _ ?_
          exact ⟨true, true, true, true, true, true, true, true, true, s18, s19, s20, s21, s22, s23, _, gv, capv, blk, rfl, rfl, h.op8 hBx⟩
      case fin =>
        rintro listed a' w' ⟨L0, L1, L2, L3, L4, L5, L6, L7, L8, s18, s19, s20, s21, s22, s23, s24, gv, capv, blk, rfl, rfl, h⟩ hr
        obtain rfl : L0 = true := by
          cases L0 with
          | true => rfl
          | false =>
            refine absurd (mem_ready.2 ⟨rfl, _, rfl, ?_⟩ : 0 ∈ _) (by rw [hr]; simp)
            simp [Region.binds]
        obtain rfl : L1 = true := by
          cases L1 with
          | true => rfl
          | false =>
            refine absurd (mem_ready.2 ⟨rfl, _, rfl, ?_⟩ : 1 ∈ _) (by rw [hr]; simp)
            simp [Region.binds]
        obtain rfl : L2 = true := by
          cases L2 with
          | true => rfl
          | false =>
            refine absurd (mem_ready.2 ⟨rfl, _, rfl, ?_⟩ : 2 ∈ _) (by rw [hr]; simp)
            simp [Region.binds]
        obtain rfl : L3 = true := by
          cases L3 with
          | true => rfl
          | false =>
            refine absurd (mem_ready.2 ⟨rfl, _, rfl, ?_⟩ : 3 ∈ _) (by rw [hr]; simp)
            simp [Region.binds]
        obtain rfl : L5 = true := by
          cases L5 with
          | true => rfl
          | false =>
            refine absurd (mem_ready.2 ⟨rfl, _, rfl, ?_⟩ : 5 ∈ _) (by rw [hr]; simp)
            simp [Region.binds]
        obtain rfl : L6 = true := by
          cases L6 with
          | true => rfl
          | false =>
            refine absurd (mem_ready.2 ⟨rfl, _, rfl, ?_⟩ : 6 ∈ _) (by rw [hr]; simp)
            simp [Region.binds]
        obtain rfl : L4 = true := by
          cases L4 with
          | true => rfl
          | false =>
            refine absurd (mem_ready.2 ⟨rfl, _, rfl, ?_⟩ : 4 ∈ _) (by rw [hr]; simp)
            simp [Region.binds]
        obtain rfl : L7 = true := by
          cases L7 with
          | true => rfl
          | false =>
            refine absurd (mem_ready.2 ⟨rfl, _, rfl, ?_⟩ : 7 ∈ _) (by rw [hr]; simp)
            simp [Region.binds]
        obtain rfl : L8 = true := by
          cases L8 with
          | true => rfl
          | false =>
            refine absurd (mem_ready.2 ⟨rfl, _, rfl, ?_⟩ : 8 ∈ _) (by rw [hr]; simp)
            simp [Region.binds]
        exact ⟨h.ko.from _, ⟨h.sz, (show _ = _ from h.b5).trans (show _ = _ from c8).symm⟩,
          ⟨⟨⟨⟨⟨⟨⟨fun y hy => (List.mem_append.1 hy).elim (c0 y) (fun e => by simp at e; subst e; rfl), h.b0⟩, h.b1⟩, h.b2⟩, ⟨_, h.b3t rfl, by rw [List.map_append, hts]; simpa using h.rt rfl, trivial⟩⟩, by rw [lastTo_snoc]; exact h.b4t rfl⟩, h.b5⟩, h.bl⟩⟩
    · have hd1 : (er == 0) = false := by simpa using he
      have hd2 : (er != 0) = true := by simpa using he
      have F1 : Boxed (((W.setCell ⟨w.heap.size, 0, none⟩ (.slice A len cap)).setCell ⟨w.heap.size + 1, 0, none⟩ (.int .i64 (lastTo pre))).setCell ⟨w.heap.size + 1 + 1, 0, none⟩ (.int .i64 er)) (w.heap.size) 38 (.slice A len cap) := ((c1.set _).other (by omega) _).other (by omega) _
      have F2 : Boxed (((W.setCell ⟨w.heap.size, 0, none⟩ (.slice A len cap)).setCell ⟨w.heap.size + 1, 0, none⟩ (.int .i64 (lastTo pre))).setCell ⟨w.heap.size + 1 + 1, 0, none⟩ (.int .i64 er)) (w.heap.size + 1) 3 (.int .i64 (lastTo pre)) := ((c2.other (by omega) _).set _).other (by omega) _
      have F3 : Boxed (((W.setCell ⟨w.heap.size, 0, none⟩ (.slice A len cap)).setCell ⟨w.heap.size + 1, 0, none⟩ (.int .i64 (lastTo pre))).setCell ⟨w.heap.size + 1 + 1, 0, none⟩ (.int .i64 er)) (w.heap.size + 1 + 1) 24 (.int .i64 er) := ((c3.other (by omega) _).other (by omega) _).set _
      have F4 : (((W.setCell ⟨w.heap.size, 0, none⟩ (.slice A len cap)).setCell ⟨w.heap.size + 1, 0, none⟩ (.int .i64 (lastTo pre))).setCell ⟨w.heap.size + 1 + 1, 0, none⟩ (.int .i64 er)).ownsRow (w.heap.size + 1 + 1 + 1 + 1 + 1 + 1) 9 1 (.slice A len cap) ts.length (ts.map .string) :=
        ((c5.kept (grownBy_setCell' W (w.heap.size) _) (row_ne c5 _ (by omega))).kept (grownBy_setCell' _ (w.heap.size + 1) _) (row_ne c5 _ (by omega))).kept (grownBy_setCell' _ (w.heap.size + 1 + 1) _) (row_ne c5 _ (by omega))
      have F5 : KeepsOthers W (((W.setCell ⟨w.heap.size, 0, none⟩ (.slice A len cap)).setCell ⟨w.heap.size + 1, 0, none⟩ (.int .i64 (lastTo pre))).setCell ⟨w.heap.size + 1 + 1, 0, none⟩ (.int .i64 er)) := ((KeepsOthers.setCell _ _ _).trans (KeepsOthers.setCell _ _ _)).trans (KeepsOthers.setCell _ _ _)
      have F6 : Below w.heap.size w (((W.setCell ⟨w.heap.size, 0, none⟩ (.slice A len cap)).setCell ⟨w.heap.size + 1, 0, none⟩ (.int .i64 (lastTo pre))).setCell ⟨w.heap.size + 1 + 1, 0, none⟩ (.int .i64 er)) :=
        ((c7.setCell (p := ⟨w.heap.size, 0, none⟩) (show w.heap.size ≤ w.heap.size by omega) _).setCell (p := ⟨w.heap.size + 1, 0, none⟩) (show w.heap.size ≤ w.heap.size + 1 by omega) _).setCell (p := ⟨w.heap.size + 1 + 1, 0, none⟩) (show w.heap.size ≤ w.heap.size + 1 + 1 by omega) _
      have F7 := Lib.hid F1
      have F8 := Lib.hid F2
      have F9 := Lib.hid F3
      have F10 := Lib.hid F4
      have F11 := Lib.hid (F5.trans (KeepsOthers.drew _))
      have F12 := Lib.hid F6.drew
      clear F1 F2 F3 F4 F5 F6
      gi_wp2_with fail
      gi_region
      all_goals gi_wp2
      all_goals
        refine ⟨F11.out.from _, ⟨⟨⟨⟨⟨pre, (t, to, er), rfl, c0, he, rfl⟩, ⟨_, F7.out, ?_, trivial⟩⟩, ?_⟩, ?_⟩, F12.out⟩⟩
        · rw [List.dropLast_concat, hts]; exact F10.out
        · rw [List.dropLast_concat]; exact F8.out
        · rw [List.getLast?_concat]; exact F9.out
  case done =>
    rintro D ys W hD rfl ⟨⟨⟨⟨⟨⟨⟨c0, c1⟩, c2⟩, c3⟩, ⟨v, c4, c5, _⟩⟩, c6⟩, c8⟩, c7⟩ hK
    obtain ⟨A, len, cap, rfl⟩ := slice_form c5
    have d0 := c1.cell
    have d0f := c1.frozen
    have d1 := c2.cell
    have d1f := c2.frozen
    have d2 := c3.cell
    have d2f := c3.frozen
    have d3 := c4.cell
    have d4 := c6.cell
    have F1 := Lib.hid (show Boxed ((((W.setCell ⟨w.heap.size, 0, none⟩ (.slice A len cap)).setCell ⟨w.heap.size + 1, 0, none⟩ (.int .i64 (lastTo (all s)))).setCell ⟨w.heap.size + 1 + 1, 0, none⟩ (.int .i64 0)).drew) (w.heap.size) 38 (.slice A len cap) from ((c1.set _).other (by omega) _).other (by omega) _)
    have F2 := Lib.hid (show Boxed ((((W.setCell ⟨w.heap.size, 0, none⟩ (.slice A len cap)).setCell ⟨w.heap.size + 1, 0, none⟩ (.int .i64 (lastTo (all s)))).setCell ⟨w.heap.size + 1 + 1, 0, none⟩ (.int .i64 0)).drew) (w.heap.size + 1) 3 (.int .i64 (lastTo (all s))) from ((c2.other (by omega) _).set _).other (by omega) _)
    have F3 := Lib.hid (show Boxed ((((W.setCell ⟨w.heap.size, 0, none⟩ (.slice A len cap)).setCell ⟨w.heap.size + 1, 0, none⟩ (.int .i64 (lastTo (all s)))).setCell ⟨w.heap.size + 1 + 1, 0, none⟩ (.int .i64 0)).drew) (w.heap.size + 1 + 1) 24 (.int .i64 0) from ((c3.other (by omega) _).other (by omega) _).set _)
    have F4a : ((((W.setCell ⟨w.heap.size, 0, none⟩ (.slice A len cap)).setCell ⟨w.heap.size + 1, 0, none⟩ (.int .i64 (lastTo (all s)))).setCell ⟨w.heap.size + 1 + 1, 0, none⟩ (.int .i64 0))).ownsRow (w.heap.size + 1 + 1 + 1 + 1 + 1 + 1) 9 1 (.slice A len cap) ((all s).map (fun x : Item => x.1)).length (((all s).map (fun x : Item => x.1)).map .string) := ((c5.kept (grownBy_setCell' W (w.heap.size) _) (row_ne c5 (w.heap.size) (by omega))).kept (grownBy_setCell' _ (w.heap.size + 1) _) (row_ne c5 (w.heap.size + 1) (by omega))).kept (grownBy_setCell' _ (w.heap.size + 1 + 1) _) (row_ne c5 (w.heap.size + 1 + 1) (by omega))
    have F4 := Lib.hid (show ((((W.setCell ⟨w.heap.size, 0, none⟩ (.slice A len cap)).setCell ⟨w.heap.size + 1, 0, none⟩ (.int .i64 (lastTo (all s)))).setCell ⟨w.heap.size + 1 + 1, 0, none⟩ (.int .i64 0)).drew).ownsRow (w.heap.size + 1 + 1 + 1 + 1 + 1 + 1) 9 1 (.slice A len cap) ((all s).map (fun x : Item => x.1)).length (((all s).map (fun x : Item => x.1)).map .string) from F4a)
    clear F4a
    have F5 := Lib.hid (((((KeepsOthers.setCell W ⟨w.heap.size, 0, none⟩ (.slice A len cap)).trans (KeepsOthers.setCell _ ⟨w.heap.size + 1, 0, none⟩ (.int .i64 (lastTo (all s))))).trans (KeepsOthers.setCell _ ⟨w.heap.size + 1 + 1, 0, none⟩ (.int .i64 0))).trans (KeepsOthers.drew _)).same D _ hK rfl)
    have F6 := Lib.hid (((c7.setCell (p := ⟨w.heap.size, 0, none⟩) (show w.heap.size ≤ w.heap.size by omega) (.slice A len cap)).setCell (p := ⟨w.heap.size + 1, 0, none⟩) (show w.heap.size ≤ w.heap.size + 1 by omega) (.int .i64 (lastTo (all s)))).setCell (p := ⟨w.heap.size + 1 + 1, 0, none⟩) (show w.heap.size ≤ w.heap.size + 1 + 1 by omega) (.int .i64 0)).drew
    have HR := Lib.hid (show AllRes s ((all s).map (fun x : Item => x.1)) (lastTo (all s)) 0 from ⟨all s, c0, rfl, rfl, .inl ⟨rfl, rfl⟩⟩)
    gi_wp2_with fail
    gi_region
    all_goals gi_wp2
    all_goals
      refine ⟨by simp, .inl ⟨_, _, rfl, run_takeDeferred F5.out, ?_⟩⟩
      have k0 := cell_kept F1.out.cell (grownBy_putObj' _ D (.deferred none)) (fun r e => by cases e; exact ⟨_, F5.out, rfl⟩)
      have k1 := cell_kept F2.out.cell (grownBy_putObj' _ D (.deferred none)) (fun r e => by cases e; exact ⟨_, F5.out, rfl⟩)
      have k2 := cell_kept F3.out.cell (grownBy_putObj' _ D (.deferred none)) (fun r e => by cases e; exact ⟨_, F5.out, rfl⟩)
      refine ⟨.tuple #[.slice A len cap, .int .i64 (lastTo (all s)), .int .i64 0], ?_, _, _, _, _, HR.out, rfl, row_low (n₁ := w.heap.size + 1 + 1 + 1 + 1 + 1 + 1) (ownsRow_putObj F4.out _ F5.out rfl) (by omega), F6.out.trans (belowK_b (w := w) (Nat.le_refl _) _ D _ _ (by omega) F5.out rfl rfl)⟩
      simp [results, Try.f12, go_sem, k0, k1, k2]
  case stop =>
    rintro D c pre W hD ⟨rest, hpre⟩ ⟨⟨⟨⟨⟨p, x, rfl, hp, hx, rfl⟩, ⟨v, b0', row, _⟩⟩, b1'⟩, b2'⟩, bl'⟩ hK
    rw [List.dropLast_concat] at row b1'
    rw [List.getLast?_concat] at b2'
    obtain ⟨A, len, cap, rfl⟩ := slice_form row
    have hr0 : rest = [] := items_last s (s.size + 1) 0 p x rest (by rw [show items s (s.size + 1) 0 = all s from rfl, hpre, List.append_assoc]; rfl) hx
    subst hr0
    rw [List.append_nil] at hpre
    have HR := Lib.hid (show AllRes s (p.map (fun x : Item => x.1)) (lastTo p) x.2.2 from ⟨p, hp, rfl, rfl, .inr ⟨x, hpre, rfl, hx⟩⟩)
    gi_wp2
    refine ⟨by simp, .inl ⟨_, _, rfl, run_takeDeferred hK, ?_⟩⟩
    have k0 := cell_kept b0'.cell (grownBy_putObj' _ D (.deferred none)) (fun r e => by cases e; exact ⟨_, hK, rfl⟩)
    have k1 := cell_kept b1'.cell (grownBy_putObj' _ D (.deferred none)) (fun r e => by cases e; exact ⟨_, hK, rfl⟩)
    have k2 := cell_kept b2'.cell (grownBy_putObj' _ D (.deferred none)) (fun r e => by cases e; exact ⟨_, hK, rfl⟩)
    refine ⟨.tuple #[.slice A len cap, .int .i64 (lastTo p), .int .i64 x.2.2], ?_, _, _, _, _, HR.out, rfl, row_low (n₁ := w.heap.size + 1 + 1 + 1 + 1 + 1 + 1) (ownsRow_putObj row _ hK rfl) (by omega), bl'.trans (belowK_b (w := w) (Nat.le_refl _) _ D _ _ (by omega) hK rfl rfl)⟩
    simp [results, Try.f12, go_sem, k0, k1, k2]

/-- frame.All. -/
theorem all_any (s : ByteArray) (w : World) (hs : s.size ≤ 1099511627776) :
    Calls Try.prog 12 #[.string s] w fun e W' => ∃ ts i er v, AllRes s ts i er ∧ e = .returned (.tuple #[v, .int .i64 i, .int .i64 er]) ∧ W'.ownsRow w.heap.size 9 1 v ts.length (ts.map .string) ∧ Below w.heap.size w W' :=
  (callsIn_wide (n := 3)).1 (all_in 3 (Nat.le_refl _) s w hs)
end Go.Proofs.Ytjjhbkmmkhkjnaa
