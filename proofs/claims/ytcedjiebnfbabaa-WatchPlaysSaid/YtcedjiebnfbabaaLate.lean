/- The walk of WatchLate. -/
import Derived.Test.YtcedjiebnfbabaaAwake
namespace Go.Proofs.Ytcedjiebnfbabaa
open Go.RowKit

/-- A slice's address leads to these bytes. -/
def Bytes8 (w : World) (A : Option Addr) (zs : List Int) : Prop :=
  zs ≠ [] → ∃ b off, A = some ⟨b, off, none⟩ ∧ b < w.heap.size ∧ ∀ i, i < zs.length → w.cell? ⟨b, off + i, none⟩ = some (.int .u8 (zs[i]?.getD 0))

theorem st_zero_n (s : St) (k : Nat) (h : k < 4) : (s.zero k).n k = 0 := by
  rcases four k h with rfl | rfl | rfl | rfl <;> rfl
theorem st_tk_n (s : St) (k : Nat) (h : k < 4) : s.tk.n k = up (s.n k) := by
  rcases four k h with rfl | rfl | rfl | rfl <;> rfl
theorem mem_late (s : St) (k : Nat) (h : k < 4) : decide (k ∈ lateL s 4) = decide (6 ≤ s.n k) := by
  unfold lateL
  rw [decide_eq_decide, List.mem_filter]
  simp [h]
/-- Is it among the first? -/
def memB (k : Nat) (l : List Nat) (q : Nat) : Bool := decide (k ∈ l.take q)
theorem memB_step (l : List Nat) (j k : Nat) (hj : j < l.length) : memB k l (j + 1) = (memB k l j || ((l[j] : Int) == (k : Int))) := by
  unfold memB
  rw [List.take_succ_eq_append_getElem hj, Bool.eq_iff_iff]
  simp only [decide_eq_true_eq, List.mem_append, List.mem_singleton, Bool.or_eq_true, beq_iff_eq]
  constructor
  · rintro (h | h)
    · exact .inl h
    · exact .inr (by omega)
  · rintro (h | h)
    · exact .inl h
    · exact .inr (by omega)
theorem memB_all (l : List Nat) (k : Nat) : memB k l l.length = decide (k ∈ l) := by unfold memB; rw [List.take_length]

/-- A slice's address leads to these numbers. -/
def Ints (w : World) (A : Option Addr) (l : List Nat) : Prop :=
  l ≠ [] → ∃ b off, A = some ⟨b, off, none⟩ ∧ b < w.heap.size ∧ ∀ i, (h : i < l.length) → w.cell? ⟨b, off + i, none⟩ = some (.int .i64 (l[i] : Int))
theorem own_ints {w : World} {base n : Nat} {v : Value} {l : List Nat} (h : w.ownsRow base 3 1 v n (l.map fun i : Nat => .int .i64 (i : Int))) : ∃ A cap, v = .slice A n cap ∧ l.length = n ∧ Ints w A l := by
  have hb := h.lt
  have hc := fun g => h.cells (g := g)
  have hl : l.length = n := by simpa using h.1
  rcases h.2 with ⟨rfl, h0⟩ | ⟨g, cap, cur, rfl, h1, _, h3, h4, _⟩
  · refine ⟨none, 0, by rw [h0], hl, fun hne => absurd ?_ hne⟩
    exact List.eq_nil_of_length_eq_zero (by omega)
  · refine ⟨some ⟨g, 0, none⟩, cap, rfl, hl, fun _ => ⟨g, 0, rfl, (hb g rfl).2, fun i hi => ?_⟩⟩
    have := hc g rfl i (.int .i64 (l[i] : Int)) (by simp [hi])
    simpa [Addr.add_lit, hi] using this

set_option maxHeartbeats 2000000 in
theorem late_law (id : Int) (A : Option Addr) (m cap : Nat) (zs : List Int) (w : World) (hz : Bytes8 w A zs) (hn : zs.length = m) (hm : m ≤ 9223372036854775807) (hid0 : 0 ≤ id) (hid1 : id ≤ 255) (hzb : ∀ x ∈ zs, 0 ≤ x ∧ x ≤ 255) :
    Calls Try.prog 4 #[.int .u8 id, .slice A m cap] w fun e w' => e = .returned (.bool true) ∧ Below w.heap.size w w' := by
  subst hn
  have hzb' : ∀ k, (h : k < zs.length) → 0 ≤ zs[k] ∧ zs[k] ≤ 255 := fun k h => hzb _ (List.getElem_mem h)
  have HZB := Lib.hid hzb'
  clear hzb hzb'
  go_enter Try.func4, Try.ntmps4
  go_wp2_with fail
  refine (new_any _).mono ?_
  rintro e w1 ⟨rfl, hw1⟩
  have hb0 : Blk w1 w.heap.size 45 (wcs ⟨0, 0, 0, 0, 0⟩) := by rw [hw1]; exact Blk.new _ _ _
  have hB0 : Below w.heap.size w w1 := by rw [hw1]; exact (Below.refl _ _).alloc (Nat.le_refl _) _
  clear hw1
  have H0 := Lib.hid hb0
  have H1 := Lib.hid hB0
  clear hb0 hB0
  go_wp2
  generalize hK : id % 4 = K at *
  obtain ⟨k, rfl⟩ := Int.eq_ofNat_of_zero_le (show 0 ≤ K by omega)
  have hk4 : k < 4 := by omega
  clear hK hid0 hid1
  go_loopw [7] (fun i wr => ∃ (j : Nat) (s : St), j ≤ zs.length ∧ i = .int .i64 (j : Int) ∧ Blk wr w.heap.size 45 (wcs s) ∧ s.Ok ∧ s.n k = 0 ∧ Below w.heap.size w wr) (fun i _ => zs.length - (intOf i).toNat)
  case atStart => exact ⟨0, _, Nat.zero_le _, rfl, H0.out, ⟨by simp, by simp, by simp, by simp, by simp⟩, by unfold St.n; simp, H1.out⟩
  case round =>
    obtain ⟨j, s, hj, rfl, hblk, hok, hsn, hB⟩ := hrel
    have H2 := Lib.hid hblk
    have H3 := Lib.hid hB
    have H4 := Lib.hid hok
    have H5 := Lib.hid hsn
    clear hblk hB hok hsn
    by_cases hlt : j < zs.length
    · by_cases h30 : j < 30
      · obtain ⟨b, off, rfl, hb, hc⟩ := hz (by rintro rfl; simp at hlt)
        have hcz : wr.cell? ⟨b, off + j, none⟩ = some (.int .u8 (zs[j]?.getD 0)) := (H3.out.cell (p := ⟨b, off + j, none⟩) hb).trans (hc j hlt)
        obtain ⟨x0, x1⟩ := HZB.out j hlt
        clear hc
        have h30b : decide ((j : Int) < 30) = true := by simp; omega
        go_wp2
        generalize hN : zs[j] % 20 = N at *
        obtain ⟨n, rfl⟩ := Int.eq_ofNat_of_zero_le (show 0 ≤ N by omega)
        have hn20 : n < 20 := by omega
        clear hN hcz x0 x1
        obtain ⟨w0, rfl⟩ : ∃ w0 : World, w0 = wr := ⟨_, rfl⟩
        go_loopw [9] (fun i wr => ∃ (t : Nat) (s : St), t ≤ n ∧ i = .int .i64 (t : Int) ∧ Blk wr w.heap.size 45 (wcs s) ∧ s.Ok ∧ s.n k = t ∧ Below w.heap.size w wr) (fun i _ => n - (intOf i).toNat)
        case atStart => exact ⟨0, s, Nat.zero_le _, rfl, H2.out, H4.out, H5.out, H3.out⟩
        case round =>
          obtain ⟨t, s2, ht, rfl, hblk, hok, hsn, hB⟩ := hrel
          have H6 := Lib.hid hblk
          have H7 := Lib.hid hB
          have H8 := Lib.hid hok
          have H9 := Lib.hid hsn
          clear hblk hB hok hsn
          by_cases htn : t < n
          · go_wp2_with fail
            refine (tick_any _ s2 _ H6.out H8.out).mono ?_
            rintro e w2 ⟨rfl, hb2, hg2⟩
            have H10 := Lib.hid hb2
            have H11 := Lib.hid (H7.out.grown hg2 H7.out.size (fun j hj => by cases hj; exact Nat.le_refl _))
            clear hb2 hg2
            go_wp2
            go_roundw
            case rel =>
              have hr : ∃ (t' : Nat) (s' : St), t' ≤ n ∧ Value.int .i64 ((t : Int) + 1) = .int .i64 (t' : Int) ∧ Blk w2 w.heap.size 45 (wcs s') ∧ s'.Ok ∧ s'.n k = t' ∧ Below w.heap.size w w2 :=
                ⟨t + 1, s2.tk, by omega, by go_num, H10.out, H8.out.tk, by rw [st_tk_n s2 k hk4, H9.out]; unfold up; omega, H11.out⟩
              first | exact hr | ((repeat apply Exists.intro); exact ⟨hr, rfl⟩)
            case measure => simp [intOf]; omega
          · obtain rfl : t = n := by omega
            go_wp2_with fail
            refine (late_any _ s2 _ H6.out).mono ?_
            rintro e w2 ⟨v, rfl, hown, hB2⟩
            obtain ⟨A2, cap2, rfl, hl2, hI⟩ := own_ints hown
            have hml := mem_late s2 k hk4
            rw [H9.out] at hml
            have hL4 := lateL_le s2 4
            generalize lateL s2 4 = l at *
            have HML := Lib.hid hml
            have H10 := Lib.hid (H6.out.below hB2 H6.out.lt)
            have H11 := Lib.hid (H7.out.trans (hB2.mono H7.out.size))
            clear hown hB2 hml hl2
            go_wp2
            obtain ⟨w3, rfl⟩ : ∃ w3 : World, w3 = w2 := ⟨_, rfl⟩
            go_loop [11, 12] (fun is i => ∃ q : Nat, q ≤ l.length ∧ i = .int .i64 (q : Int) ∧ is = .bool (memB k l q)) (fun _ i => l.length - (intOf i).toNat)
            case atStart => exact ⟨0, Nat.zero_le _, rfl, by simp [memB]⟩
            case round =>
              obtain ⟨q, hq, rfl, rfl⟩ := hrel
              by_cases hql : q < l.length
              · obtain ⟨b2, off2, rfl, hb2, hc2⟩ := hI (by rintro rfl; simp at hql)
                have hcq := hc2 q hql
                have HT := Lib.hid (memB_step l q k hql)
                clear hc2
                cases hm : memB k l q
                · go_wp2
                  go_round
                  case rel => exact ⟨q + 1, by omega, by go_num, by rw [HT.out, hm, Bool.false_or]⟩
                  case measure => simp [intOf]; omega
                · go_wp2
                  go_round
                  case rel => exact ⟨q + 1, by omega, by go_num, by rw [HT.out, hm, Bool.true_or]⟩
                  case measure => simp [intOf]; omega
              · obtain rfl : q = l.length := by omega
                have hmb := (memB_all l k).trans HML.out
                clear hI
                by_cases h6 : 6 ≤ t
                · have hb6 : memB k l l.length = true := by rw [hmb]; simp; omega
                  clear hmb
                  go_wp2_with fail
                  refine (count_yes _ k s2 _ H10.out hk4).mono ?_
                  rintro e w4 ⟨rfl, rfl⟩
                  rw [H9.out]
                  go_wp2_with fail
                  refine (heard_yes _ k s2 _ H10.out hk4).mono ?_
                  rintro e w4 ⟨rfl, hb4, hg4⟩
                  have H12 := Lib.hid hb4
                  have H13 := Lib.hid (H11.out.grown hg4 H11.out.size (fun j hj => by cases hj; exact Nat.le_refl _))
                  clear hb4 hg4
                  go_wp2
                  go_roundw
                  case rel =>
                    have hr : ∃ (j' : Nat) (s' : St), j' ≤ zs.length ∧ Value.int .i64 ((j : Int) + 1) = .int .i64 (j' : Int) ∧ Blk w4 w.heap.size 45 (wcs s') ∧ s'.Ok ∧ s'.n k = 0 ∧ Below w.heap.size w w4 :=
                      ⟨j + 1, s2.zero k, by omega, by go_num, H12.out, H8.out.zero k, st_zero_n s2 k hk4, H13.out⟩
                    first | exact hr | ((repeat apply Exists.intro); exact ⟨hr, rfl⟩)
                  case measure => simp [intOf]; omega
                · have hb6 : memB k l l.length = false := by rw [hmb]; simp; omega
                  clear hmb
                  go_wp2_with fail
                  refine (count_yes _ k s2 _ H10.out hk4).mono ?_
                  rintro e w4 ⟨rfl, rfl⟩
                  rw [H9.out]
                  go_wp2_with fail
                  refine (heard_yes _ k s2 _ H10.out hk4).mono ?_
                  rintro e w4 ⟨rfl, hb4, hg4⟩
                  have H12 := Lib.hid hb4
                  have H13 := Lib.hid (H11.out.grown hg4 H11.out.size (fun j hj => by cases hj; exact Nat.le_refl _))
                  clear hb4 hg4
                  go_wp2
                  go_roundw
                  case rel =>
                    have hr : ∃ (j' : Nat) (s' : St), j' ≤ zs.length ∧ Value.int .i64 ((j : Int) + 1) = .int .i64 (j' : Int) ∧ Blk w4 w.heap.size 45 (wcs s') ∧ s'.Ok ∧ s'.n k = 0 ∧ Below w.heap.size w w4 :=
                      ⟨j + 1, s2.zero k, by omega, by go_num, H12.out, H8.out.zero k, st_zero_n s2 k hk4, H13.out⟩
                    first | exact hr | ((repeat apply Exists.intro); exact ⟨hr, rfl⟩)
                  case measure => simp [intOf]; omega
      · have h30b : decide ((j : Int) < 30) = false := by simp; omega
        go_wp2_with (go_at_call 16; refine (awake_any _).mono ?_; rintro e w2 ⟨rfl, hB2⟩)
        go_ret
        exact ⟨rfl, H3.out.trans (hB2.mono H3.out.size)⟩
    · go_wp2_with (go_at_call 16; refine (awake_any _).mono ?_; rintro e w2 ⟨rfl, hB2⟩)
      go_ret
      exact ⟨rfl, H3.out.trans (hB2.mono H3.out.size)⟩
end Go.Proofs.Ytcedjiebnfbabaa
