/- The walk of catenaref17.Copy: the entries again, in memory of their own. -/
import Derived.Test.YtboiilbeioaneaaPlays
import Derived.Test.YtboiilbeioaneaaRight3
import Derived.Lib.BufferWrite
import Derived.Deep.AppendLies
namespace Go.Proofs.Ytboiilbeioaneaa
open Go.RowKit Law

/-- A block of cells. -/
def Blk (w : World) (g : Nat) (t : TypeId) (cs : Array Value) : Prop := w.heap[g]? = some (.cells cs t (0, 0))
section
variable {w w' : World} {g : Nat} {t : TypeId} {cs : Array Value}
theorem Blk.lt (h : Blk w g t cs) : g < w.heap.size := by
  by_cases hge : g < w.heap.size
  · exact hge
  · unfold Blk at h; rw [Array.getElem?_eq_none (by omega)] at h; cases h
theorem Blk.cell (h : Blk w g t cs) (i : Nat) : w.cell? ⟨g, i, none⟩ = cs[i]? := cell_of_row w g i cs t (0, 0) h
theorem Blk.frozen (h : Blk w g t cs) (i : Nat) : w.frozen? ⟨g, i, none⟩ = false := by
  unfold Blk at h
  simp [World.frozen?, h]
theorem Blk.new (w : World) (t : TypeId) (cs : Array Value) : Blk (w.alloc (.cells cs t)) w.heap.size t cs := heap_alloc_new w _
theorem Blk.set_ (h : Blk w g t cs) (i : Nat) (u : Value) : Blk (w.setCell ⟨g, i, none⟩ u) g t (cs.setIfInBounds i u) := by
  unfold Blk at h ⊢
  have hl := Blk.lt h
  simp only [World.setCell]
  rw [Array.getElem?_modify, if_pos rfl, h]
  simp
theorem Blk.grown {row : Option Nat} (h : Blk w g t cs) (hb : w.grownBy w' row) (hg : some g ≠ row) : Blk w' g t cs := (hb.block g h.lt hg).trans h
theorem Blk.alloc (h : Blk w g t cs) (o : Obj) : Blk (w.alloc o) g t cs := h.grown (World.grownBy_alloc w o none) (by simp)
end

/-- The cells of entries, and of operations. -/
def ec (e : Ent) : List Value := [.int .i64 e.client, .int .i64 e.req, .slice e.oa e.ops.length e.oc, .int .u64 e.ts]
def ecs (es : List Ent) : List Value := es.flatMap ec
def oc (p : Opn) : List Value := [.string p.key, .string p.val, .bool p.del]
def ocs (ps : List Opn) : List Value := ps.flatMap oc
theorem flat_length {α : Type} (f : α → List Value) (d : Nat) (hf : ∀ x, (f x).length = d) (l : List α) : (l.flatMap f).length = l.length * d := by
  induction l with
  | nil => simp
  | cons x r ih => rw [List.flatMap_cons, List.length_append, hf, ih, List.length_cons, Nat.succ_mul]; omega
theorem flat_get {α : Type} (f : α → List Value) (d : Nat) (hf : ∀ x, (f x).length = d) (l : List α) (k j : Nat) (hk : k < l.length) (hj : j < d) : (l.flatMap f)[k * d + j]? = (f l[k])[j]? := by
  induction l generalizing k with
  | nil => simp at hk
  | cons x r ih =>
    rw [List.flatMap_cons]
    cases k with
    | zero => rw [Nat.zero_mul, Nat.zero_add, List.getElem?_append_left (by rw [hf]; exact hj)]; rfl
    | succ k =>
      have e : (k + 1) * d + j = d + (k * d + j) := by rw [Nat.succ_mul]; omega
      rw [List.getElem?_append_right (by rw [hf, e]; omega), hf, e, Nat.add_sub_cancel_left, ih k (by simpa using hk)]
      rfl
theorem ecs_get (es : List Ent) (k j : Nat) (hk : k < es.length) (hj : j < 4) : (ecs es)[k * 4 + j]? = (ec es[k])[j]? := flat_get ec 4 (fun _ => rfl) es k j hk hj
theorem ocs_get (ps : List Opn) (k j : Nat) (hk : k < ps.length) (hj : j < 3) : (ocs ps)[k * 3 + j]? = (oc ps[k])[j]? := flat_get oc 3 (fun _ => rfl) ps k j hk hj
theorem ecs_snoc (es : List Ent) (e : Ent) : ecs (es ++ [e]) = ecs es ++ ec e := by simp [ecs]
theorem ocs_length (ps : List Opn) : (ocs ps).length = ps.length * 3 := flat_length oc 3 (fun _ => rfl) ps

/-- An entry, whatever its operations' place. -/
def sh (e : Ent) : Ent := { e with oa := none, oc := 0 }

/-- The operations of entries lie elsewhere than a slice's own row, above a place. -/
def Far (W : World) (base : Nat) (v : Value) (es : List Ent) : Prop :=
  ∀ e ∈ es, Opns W e.oa e.ops ∧ ∃ b, e.oa = some ⟨b, 0, none⟩ ∧ base ≤ b ∧ b < W.heap.size ∧ v.ownBlock ≠ some b

theorem Opns.far {W W' : World} {a : Option Addr} {ps : List Opn} (h : Opns W a ps) {row : Option Nat} (hg : W.grownBy W' row) (hne : ∀ b, a = some ⟨b, 0, none⟩ → some b ≠ row) (h0 : ∃ b, a = some ⟨b, 0, none⟩) : Opns W' a ps := by
  intro hp
  obtain ⟨b, off, rfl, hb, hc⟩ := h hp
  obtain ⟨b', h0⟩ := h0
  cases h0
  have := hne b rfl
  refine ⟨b, 0, rfl, Nat.lt_of_lt_of_le hb hg.size, fun i hi => ?_⟩
  obtain ⟨c0, c1, c2⟩ := hc i hi
  exact ⟨hg.cell c0 this, hg.cell c1 this, hg.cell c2 this⟩
theorem Far.grown {W W' : World} {base : Nat} {v v' : Value} {es : List Ent} (h : Far W base v es) {row : Option Nat} (hg : W.grownBy W' row) (hne : ∀ b, base ≤ b → b < W.heap.size → v.ownBlock ≠ some b → some b ≠ row)
    (hv : ∀ b, b < W.heap.size → v.ownBlock ≠ some b → v'.ownBlock ≠ some b) : Far W' base v' es := by
  intro e he
  obtain ⟨h1, b, hb, hb1, hb2, hb3⟩ := h e he
  refine ⟨h1.far hg (fun b' e' => ?_) ⟨b, hb⟩, b, hb, hb1, Nat.lt_of_lt_of_le hb2 hg.size, hv b hb2 hb3⟩
  rw [hb] at e'
  cases e'
  exact hne b hb1 hb2 hb3

theorem Try.infoO : (Try.prog.info? 65).map (fun i => (i.zero, i.size, i.bytes)) = some (some (.agg #[.string ByteArray.empty, .string ByteArray.empty, .bool false]), 3, 40) := by kernel_rfl
theorem Try.infoE : (Try.prog.info? 42).map (fun i => (i.zero, i.size, i.bytes)) = some (some (.agg #[.int .i64 0, .int .i64 0, .slice none 0 0, .int .u64 0]), 4, 48) := by kernel_rfl

theorem own_opns {W : World} {base n : Nat} {v : Value} {ps : List Opn} (h : W.ownsRow base 65 3 v n (ocs ps)) {b c : Nat} (hv : v = .slice (some ⟨b, 0, none⟩) n c) : Opns W (some ⟨b, 0, none⟩) ps := by
  intro hne
  subst hv
  have hc := fun j u hj => h.cells (g := b) rfl j u hj
  refine ⟨b, 0, rfl, (h.lt b rfl).2, fun i hi => ?_⟩
  rw [List.getElem?_eq_getElem hi]
  refine ⟨?_, ?_, ?_⟩
  · have := hc (i * 3 + 0) _ (by rw [ocs_get ps i 0 hi (by omega)]; rfl)
    simpa [Addr.add_lit] using this
  · have := hc (i * 3 + 1) _ (by rw [ocs_get ps i 1 hi (by omega)]; rfl)
    simpa [Addr.add_lit] using this
  · have := hc (i * 3 + 2) _ (by rw [ocs_get ps i 2 hi (by omega)]; rfl)
    simpa [Addr.add_lit] using this
/-- The cells behind an address of operations. -/
theorem opns_cells {W : World} {ad : Addr} {ps : List Opn} (h : Opns W (some ad) ps) : ∀ j u, (ocs ps)[j]? = some u → W.cell? (ad.add j) = some u := by
  intro j u hj
  have hlt : j < ps.length * 3 := by
    have := (List.getElem?_eq_some_iff.1 hj).1
    rwa [ocs_length] at this
  have hd : j / 3 < ps.length := by omega
  obtain ⟨b, off, e, hb, hc⟩ := h (by rintro rfl; simp at hd)
  cases e
  have e3 : j = (j / 3) * 3 + j % 3 := by omega
  obtain ⟨c0, c1, c2⟩ := hc (j / 3) hd
  rw [List.getElem?_eq_getElem hd] at c0 c1 c2
  rw [e3, ocs_get ps (j / 3) (j % 3) hd (by omega)] at hj
  rw [Addr.add_lit]
  have hm : j % 3 = 0 ∨ j % 3 = 1 ∨ j % 3 = 2 := by omega
  rcases hm with hm | hm | hm
  · rw [hm] at hj
    cases hj
    rw [show off + j = off + j / 3 * 3 by omega]
    exact c0
  · rw [hm] at hj
    cases hj
    rw [show off + j = off + j / 3 * 3 + 1 by omega]
    exact c1
  · rw [hm] at hj
    cases hj
    rw [show off + j = off + j / 3 * 3 + 2 by omega]
    exact c2

theorem copy_step {W4 W6 w : World} {base k : Nat} {v v' : Value} {pre : List Ent} {q : Ent} {tmp : Obj} (hown' : W6.ownsRow base 42 4 v' (k + 1) (ecs pre ++ ec q)) (hg : (W4.alloc tmp).grownBy W6 v.ownBlock)
    (hv : v'.ownBlock = v.ownBlock ∨ v'.ownBlock = some (W4.alloc tmp).heap.size) (hfar : Far W4 base v pre) (hq : Opns W4 q.oa q.ops ∧ ∃ b, q.oa = some ⟨b, 0, none⟩ ∧ base ≤ b ∧ b < W4.heap.size ∧ v.ownBlock ≠ some b)
    (hB : Below base w W4) (hbase : base ≤ W4.heap.size) (hlow : ∀ j, v.ownBlock = some j → base ≤ j) :
    W6.ownsRow base 42 4 v' (k + 1) (ecs (pre ++ [q])) ∧ Far W6 base v' (pre ++ [q]) ∧ Below base w W6 := by
  refine ⟨by rw [ecs_snoc]; exact hown', ?_, (hB.alloc hbase tmp).grown hg (by simp; omega) hlow⟩
  have h4 : Far W4 base v (pre ++ [q]) := by
    intro e he
    rcases List.mem_append.1 he with he | he
    · exact hfar e he
    · obtain rfl : e = q := by simpa using he
      exact hq
  have h5 : Far (W4.alloc tmp) base v (pre ++ [q]) := h4.grown (World.grownBy_alloc W4 tmp none) (fun b _ _ _ => by simp) (fun b _ hb => hb)
  intro e he
  obtain ⟨h1, b, hb, hb1, hb2, hb3⟩ := h5 e he
  obtain ⟨_, b', hb', _, hb2', _⟩ := h4 e he
  rw [hb] at hb'
  cases hb'
  refine ⟨h1.far hg (fun b' e' => ?_) ⟨b, hb⟩, b, hb, hb1, Nat.lt_of_lt_of_le hb2 hg.size, ?_⟩
  · rw [hb] at e'
    cases e'
    exact fun e => hb3 e.symm
  · rcases hv with hv | hv
    · rw [hv]; exact hb3
    · rw [hv]
      intro e
      simp at e
      omega

theorem made0 (w : World) (o : Obj) : ((w.alloc o).alloc (.cells #[] 65)).ownsRow w.heap.size 65 3 (.slice (some ⟨w.heap.size + 1, 0, none⟩) 0 0) 0 [] := by
  have := World.ownsRow_made (base := w.heap.size) (e := 65) (size := 3) (w.alloc o) #[] 0 (by simp) (by simp [maxLen]) (by simp)
  rwa [World.size_alloc] at this

set_option maxHeartbeats 2000000 in
set_option maxRecDepth 100000 in
theorem copy_any (A : Option Addr) (len cap : Nat) (es : List Ent) (w : World) (h : Ents w A es) (hl : es.length = len) (hm : len ≤ 80) (hops : ∀ e ∈ es, e.ops.length ≤ 4) (hnone : ∀ e ∈ es, e.oa = none → e.oc = 0) :
    Calls Try.prog 14 #[.slice A len cap] w fun e W' => ∃ v es', e = .returned v ∧ es'.map sh = es.map sh ∧ W'.ownsRow w.heap.size 42 4 v len (ecs es') ∧ Far W' w.heap.size v es' ∧ Below w.heap.size w W' := by
  subst hl
  obtain ⟨i0, hi, hz0, hz1, hz2⟩ := info_parts Try.infoE
  obtain ⟨i1, hj, hy0, hy1, hy2⟩ := info_parts Try.infoO
  have hops' : ∀ k, (hk : k < es.length) → es[k].ops.length ≤ 4 := fun k hk => hops _ (List.getElem_mem hk)
  have hnone' : ∀ k, (hk : k < es.length) → es[k].oa = none → es[k].oc = 0 := fun k hk => hnone _ (List.getElem_mem hk)
  have HO := Lib.hid hops'
  have HNO := Lib.hid hnone'
  clear hops hnone hops' hnone'
  go_enter Try.func14, Try.ntmps14
  go_wp2
  go_loopw [3, 4] (fun v i wr => ∃ (k : Nat) (pre : List Ent), k ≤ es.length ∧ i = .int .i64 (k : Int) ∧ pre.map sh = (es.take k).map sh ∧ wr.ownsRow w.heap.size 42 4 v k (ecs pre) ∧ Far wr w.heap.size v pre ∧ Below w.heap.size w wr) (fun _ i _ => es.length - (intOf i).toNat)
  case atStart => exact ⟨0, [], Nat.zero_le _, rfl, by simp, World.ownsRow_nil _ _ _ _, fun e he => by simp at he, Below.refl _ _⟩
  case round =>
    obtain ⟨k, pre, hk, rfl, hpre, hown, hfar, hB⟩ := hrel
    have HP := Lib.hid hpre
    have HF := Lib.hid hfar
    have HB := Lib.hid hB
    have HW := Lib.hid hown
    have hBs := hB.size
    clear hpre hfar
    by_cases hlt : k < es.length
    · obtain ⟨b, off, rfl, hb, hc⟩ := (h.below hB) (by rintro rfl; simp at hlt)
      obtain ⟨⟨c0, c1, c2, c3⟩, hop⟩ := hc k hlt
      rw [List.getElem?_eq_getElem hlt] at c0 c1 c2 c3 hop
      have hop4 := HO.out k hlt
      have hoc := HNO.out k hlt
      have HE := Lib.hid (show es[k]? = some es[k] from List.getElem?_eq_getElem hlt)
      generalize es[k] = q at *
      obtain ⟨qc, qr, qa, qo, qp, qt⟩ := q
      have HOP := Lib.hid hop
      clear hc h hop hown hB
      dsimp only [Option.getD_some] at c0 c1 c2 c3 hop4 hoc
      have HC := Lib.hid (And.intro c0 (And.intro c1 (And.intro c2 c3)))
      rcases qa with _ | ad
      · have hqo : qo = 0 := hoc rfl
        have hqp : qp = [] := by
          by_cases hq : qp = []
          · exact hq
          · obtain ⟨b', off', e, _⟩ := HOP.out hq
            cases e
        subst hqo hqp
        have hrow2 := HW.out
        have hsz2 := hBs
        go_wp2_with (first | (at_builtin; refine wpList_append_own_at _ rfl _ _ 22 rfl w.heap.size 42 i0 (.agg #[.int .i64 0, .int .i64 0, .slice none 0 0, .int .u64 0]) 4 48 Try.underlying22 hi hz0 hz1 hz2 rfl (by decide) _ _ _ rfl (((hrow2.alloc _).alloc _).alloc _) ⟨wr.heap.size + 1 + 1, 0, none⟩ 1 1 (ec ⟨qc, qr, some ⟨wr.heap.size + 1, 0, none⟩, 0, [], qt⟩) rfl rfl ?c1 ?c2 ?c3 ?c4 ?c5 ?_))
        case c1 => exact fun j u h => h
        case c2 => simp [ec, Value.oneCell']
        case c3 => simp [maxLen]; omega
        case c4 => omega
        case c5 => first | omega | (simp; omega)
        intro v1 w1 hv1 hg1 _ hv2
        have hrow := HW.out
        have hst := copy_step (w := w) (W4 := (wr.alloc _).alloc _) (q := ⟨qc, qr, some ⟨wr.heap.size + 1, 0, none⟩, 0, [], qt⟩) hv1 hg1 (by simpa using hv2)
          ((HF.out.grown (World.grownBy_alloc wr _ none) (fun b _ _ _ => by simp) (fun b _ hb => hb)).grown (World.grownBy_alloc _ _ none) (fun b _ _ _ => by simp) (fun b _ hb => hb))
          ⟨fun hne => absurd rfl hne, _, rfl, by omega, by simp, fun e => by have := (hrow.lt _ e).2; omega⟩ ((HB.out.alloc (by omega) _).alloc (by simp; omega) _) (by simp; omega) (fun j hj => (hrow.lt j hj).1)
        have HST := Lib.hid hst
        have HPN := Lib.hid (show (pre ++ [(⟨qc, qr, some ⟨wr.heap.size + 1, 0, none⟩, 0, [], qt⟩ : Ent)]).map sh = (es.take (k + 1)).map sh by
          rw [List.take_add_one, HE.out, List.map_append, List.map_append, HP.out]
          rfl)
        clear hv1 hg1 hv2 hst hrow hrow2
        go_wp2
        go_roundw
        case rel => exact ⟨k + 1, _, by omega, by go_num, HPN.out, HST.out.1, HST.out.2.1, HST.out.2.2⟩
        case measure => simp [intOf]; omega
      · go_wp2_with (first | (at_builtin; go_must (refine wpList_append_own_at _ rfl _ _ 38 rfl wr.heap.size 65 i1 (.agg #[.string ByteArray.empty, .string ByteArray.empty, .bool false]) 3 40 Try.underlying38 hj hy0 hy1 hy2 rfl (by decide) _ _ _ rfl (made0 wr _) ad qp.length qo (ocs qp) rfl (ocs_length qp) ?c1 ?c2 ?c3 ?c4 ?c5 ?_)))
        case c1 => exact opns_cells (HOP.out.below (((Below.refl _ wr).alloc (Nat.le_refl _) _).alloc (by simp) _))
        case c2 =>
          intro u hu
          obtain ⟨p, _, hp⟩ := List.mem_flatMap.1 hu
          simp [oc] at hp
          rcases hp with rfl | rfl | rfl <;> rfl
        case c3 => simp [maxLen]; omega
        case c4 => omega
        case c5 => simp; omega
        intro v3 w3 hv3 hg3 hn3 hb3
        have hv3' : ∃ g3 c3, v3 = .slice (some ⟨g3, 0, none⟩) qp.length c3 := by
          rcases hv3.2 with ⟨e, _⟩ | ⟨g, c, _, e, _⟩
          · exact absurd e (by simpa using hn3)
          · exact ⟨g, c, by simpa using e⟩
        obtain ⟨g3, c3', rfl⟩ := hv3'
        have hg3' : g3 = wr.heap.size + 1 ∨ g3 = wr.heap.size + 1 + 1 := by simpa [Value.ownBlock] using hb3
        have hfr : ∀ j, u3.ownBlock = some j → j < wr.heap.size := fun j hj => (HW.out.lt j hj).2
        have HBX : Blk w3 wr.heap.size 42 #[.int .i64 qc, .int .i64 qr, .slice (some ad) qp.length qo, .int .u64 qt] := ((Blk.new wr 42 _).alloc _).grown hg3 (by simp [Value.ownBlock])
        have x2 := HBX.cell 2
        have x2f := HBX.frozen 2
        have HB4 := HBX.set_ 2 (.slice (some ⟨g3, 0, none⟩) qp.length c3')
        have y0 := HB4.cell 0
        have y1 := HB4.cell 1
        have y2 := HB4.cell 2
        have y3 := HB4.cell 3
        simp at x2 y0 y1 y2 y3
        have gA := World.grownBy_alloc wr (.cells #[.int .i64 qc, .int .i64 qr, .slice (some ad) qp.length qo, .int .u64 qt] 42) none
        have gB := World.grownBy_alloc (wr.alloc (.cells #[.int .i64 qc, .int .i64 qr, .slice (some ad) qp.length qo, .int .u64 qt] 42)) (.cells #[] 65) none
        have gS := Go.Lib.grownBy_setCell w3 wr.heap.size 2 (.slice (some ⟨g3, 0, none⟩) qp.length c3')
        have hsz3 : wr.heap.size + 1 + 1 ≤ w3.heap.size := by have := hg3.size; simpa using this
        have hrow4 : (w3.setCell ⟨wr.heap.size, 2, none⟩ (.slice (some ⟨g3, 0, none⟩) qp.length c3')).ownsRow w.heap.size 42 4 u3 k (ecs pre) := by
          refine (((HW.out.alloc _).alloc _).kept hg3 (.inr fun e => ?_)).kept gS (.inr fun e => ?_)
          · have : wr.heap.size + 1 < wr.heap.size := hfr _ e
            omega
          · have := hfr _ e; omega
        have HR4 := Lib.hid hrow4
        have hfar4 : Far (w3.setCell ⟨wr.heap.size, 2, none⟩ (.slice (some ⟨g3, 0, none⟩) qp.length c3')) w.heap.size u3 pre := by
          have f0 : Far wr w.heap.size u3 pre := HF.out
          intro e he
          obtain ⟨k1, b', kb, kb1, kb2, kb3⟩ := f0 e he
          have n1 : ∀ b'', e.oa = some ⟨b'', 0, none⟩ → b'' < wr.heap.size := fun b'' e' => by rw [kb] at e'; cases e'; exact kb2
          refine ⟨(((k1.far gA (fun _ _ => by simp) ⟨_, kb⟩).far gB (fun _ _ => by simp) ⟨_, kb⟩).far hg3 (fun b'' e' => by have := n1 b'' e'; simp [Value.ownBlock]; omega) ⟨_, kb⟩).far gS (fun b'' e' => by have := n1 b'' e'; simp; omega) ⟨_, kb⟩, b', kb, kb1, ?_, kb3⟩
          have := gS.size
          omega
        have HF4 := Lib.hid hfar4
        have hops4 : Opns (w3.setCell ⟨wr.heap.size, 2, none⟩ (.slice (some ⟨g3, 0, none⟩) qp.length c3')) (some ⟨g3, 0, none⟩) qp :=
          (own_opns (n := qp.length) (by simpa using hv3) rfl).far gS (fun b'' e' => by cases e'; simp; omega) ⟨_, rfl⟩
        have HO4 := Lib.hid hops4
        have hlt3 := (hv3.lt g3 rfl).2
        have hB4 : Below w.heap.size w (w3.setCell ⟨wr.heap.size, 2, none⟩ (.slice (some ⟨g3, 0, none⟩) qp.length c3')) :=
          (((HB.out.alloc (by omega) _).alloc (by simp; omega) _).grown hg3 (by simp; omega) (fun j hj => by simp [Value.ownBlock] at hj; omega)).grown gS (by omega) (fun j hj => by cases hj; omega)
        have HBB4 := Lib.hid hB4
        have hsz4 : w3.heap.size ≤ (w3.setCell ⟨wr.heap.size, 2, none⟩ (.slice (some ⟨g3, 0, none⟩) qp.length c3')).heap.size := gS.size
        have H4 := Lib.hid (show w.heap.size ≤ (w3.setCell ⟨wr.heap.size, 2, none⟩ (.slice (some ⟨g3, 0, none⟩) qp.length c3')).heap.size ∧ g3 < (w3.setCell ⟨wr.heap.size, 2, none⟩ (.slice (some ⟨g3, 0, none⟩) qp.length c3')).heap.size from ⟨by omega, by omega⟩)
        clear hv3 hg3 hb3 HBX HB4 gA gB gS hfar4 hops4 hlt3 hB4 hsz4 hsz3
        go_wp2_with (first | (at_builtin; refine wpList_append_own_at _ rfl _ _ 22 rfl w.heap.size 42 i0 (.agg #[.int .i64 0, .int .i64 0, .slice none 0 0, .int .u64 0]) 4 48 Try.underlying22 hi hz0 hz1 hz2 rfl (by decide) _ _ _ rfl (hrow4.alloc _) ⟨w3.heap.size, 0, none⟩ 1 1 (ec ⟨qc, qr, some ⟨g3, 0, none⟩, c3', qp, qt⟩) rfl rfl ?c1 ?c2 ?c3 ?c4 ?c5 ?_))
        case c1 =>
          first
            | exact fun j u h => h
            | (have hnew := news_new (w3.setCell ⟨wr.heap.size, 2, none⟩ (.slice (some ⟨g3, 0, none⟩) qp.length c3')) (ec ⟨qc, qr, some ⟨g3, 0, none⟩, c3', qp, qt⟩) 42
               rw [World.size_setCell] at hnew
               exact hnew)
        case c2 => simp [ec, Value.oneCell']
        case c3 => simp [maxLen]; omega
        case c4 => omega
        case c5 => (have := H4.out.1; rw [World.size_setCell] at this; simp; omega)
        intro v1 w1 hv1 hg1 _ hv2
        have hst := copy_step (w := w) (W4 := w3.setCell ⟨wr.heap.size, 2, none⟩ (.slice (some ⟨g3, 0, none⟩) qp.length c3')) (q := ⟨qc, qr, some ⟨g3, 0, none⟩, c3', qp, qt⟩) hv1 hg1 (by simpa using hv2) HF4.out
          ⟨HO4.out, _, rfl, by omega, H4.out.2, fun e => by
            have : g3 < wr.heap.size := hfr _ e
            omega⟩ HBB4.out H4.out.1 (fun j hj => (HW.out.lt j hj).1)
        have HST := Lib.hid hst
        have HPN := Lib.hid (show (pre ++ [(⟨qc, qr, some ⟨g3, 0, none⟩, c3', qp, qt⟩ : Ent)]).map sh = (es.take (k + 1)).map sh by
          rw [List.take_add_one, HE.out, List.map_append, List.map_append, HP.out]
          rfl)
        clear hv1 hg1 hv2 hst hrow4
        go_wp2
        go_roundw
        case rel => exact ⟨k + 1, _, by omega, by go_num, HPN.out, HST.out.1, HST.out.2.1, HST.out.2.2⟩
        case measure => simp [intOf]; omega
    · have hke : k = es.length := by omega
      have K := Lib.hid (show pre.map sh = es.map sh by rw [HP.out, hke, List.take_length])
      subst hke
      clear hown hB
      go_wp2
      go_ret
      exact ⟨_, _, rfl, K.out, HW.out, HF.out, HB.out⟩
end Go.Proofs.Ytboiilbeioaneaa
