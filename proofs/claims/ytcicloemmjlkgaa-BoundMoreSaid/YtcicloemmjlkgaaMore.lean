/- The walk of BoundMore. -/
import Derived.Test.YtcicloemmjlkgaaLaws
namespace Go.Proofs.Ytcicloemmjlkgaa
open Go.RowKit Law

theorem rising_of (es : List Ent) (h : rightE es = 0) : Rising (tss es) := by
  intro i h0 hi hne
  rw [tss_length] at hi
  have hr := firstE_zero _ _ h i hi
  rw [List.getElem?_eq_getElem (show i < (tss es).length by rw [tss_length]; exact hi)] at hne ⊢
  rw [List.getElem?_eq_getElem (show i - 1 < (tss es).length by rw [tss_length]; omega)]
  simp only [Option.getD_some] at hne ⊢
  rw [tss_get es i hi] at hne ⊢
  rw [tss_get es (i - 1) (by omega)]
  unfold rowE at hr
  rw [List.getElem?_eq_getElem hi, List.getElem?_eq_getElem (show i - 1 < es.length by omega)] at hr
  simp only [Option.getD_some] at hr
  split at hr
  · rename_i hc; exact absurd hr hc
  · split at hr
    · omega
    · split at hr
      · omega
      · rename_i hc
        simp only [not_and, not_or] at hc
        have := hc h0 hne
        omega

theorem chk_more (a b c x y : Int) (h : chkT a b c = 0) (hx : b ≤ x) (hy : y ≤ c) : chkT a x y = 0 := by
  unfold chkT at *
  split at h
  · omega
  · split at h
    · omega
    · rw [if_neg (by omega), if_neg (by omega)]
theorem check_zero (a b c x y : Int) (w : World) (h : (chkT a b c == 0) = true) (hx : b ≤ x) (hy : y ≤ c) : Calls Try.prog 5 #[.int .u64 a, .int .u64 x, .int .u64 y] w fun e w' => e = .returned (.int .i64 0) ∧ Below w.heap.size w w' := by
  have := check_any a x y w
  rwa [chk_more a b c x y (by simpa using h) hx hy] at this
theorem tss_nonneg (es : List Ent) (h : ∀ e ∈ es, 0 ≤ e.ts) : ∀ x ∈ tss es, 0 ≤ x := by
  intro x hx
  obtain ⟨e, he, rfl⟩ := List.mem_map.1 hx
  exact h e he

set_option maxHeartbeats 1000000 in
theorem more_any (n m a b c d e : Int) (A : Option Addr) (k cap : Nat) (es : List Ent) (w : World) (hE : Ents w A es) (hn : es.length = k) (hm : k ≤ 9223372036854775807) (hops : ∀ e ∈ es, e.ops.length ≤ 9223372036854775807)
    (hts : ∀ e ∈ es, 0 ≤ e.ts) (n0 : 0 ≤ n) (n1 : n ≤ 255) (m0 : 0 ≤ m) (m1 : m ≤ 255) :
    Calls Try.prog 3 #[.slice A k cap, .int .u8 n, .int .u8 m, .agg #[.int .u64 a, .int .u64 b, .int .u64 c, .int .u64 d, .int .u64 e]] w fun e w' => e = .returned (.bool true) ∧ Below w.heap.size w w' := by
  have HN := Lib.hid hn
  have HO := Lib.hid hops
  have HT := Lib.hid hts
  clear hn hops hts
  go_enter Try.func3, Try.ntmps3
  go_wp2_with fail
  refine (check_any a b c _).mono ?_
  rintro e1 w1 ⟨rfl, hB⟩
  have hA := (Below.refl w.heap.size w).alloc (Nat.le_refl _) (.cells #[.agg #[.int .u64 a, .int .u64 b, .int .u64 c, .int .u64 d, .int .u64 e]] 24)
  have hbx : ∀ o, w1.cell? ⟨w.heap.size, o, none⟩ = #[Value.int .u64 a, .int .u64 b, .int .u64 c, .int .u64 d, .int .u64 e][o]? := fun o =>
    (hB.cell (p := ⟨w.heap.size, o, none⟩) (by simp)).trans (World.cell?_alloc_at _ _ _ _ rfl)
  have x0 : w1.cell? ⟨w.heap.size, 0, none⟩ = some (.int .u64 a) := hbx 0
  have x1 : w1.cell? ⟨w.heap.size, 1, none⟩ = some (.int .u64 b) := hbx 1
  have x2 : w1.cell? ⟨w.heap.size, 2, none⟩ = some (.int .u64 c) := hbx 2
  have x3 : w1.cell? ⟨w.heap.size, 3, none⟩ = some (.int .u64 d) := hbx 3
  have x4 : w1.cell? ⟨w.heap.size, 4, none⟩ = some (.int .u64 e) := hbx 4
  have hB1 : Below w.heap.size w w1 := ((Below.refl _ _).alloc (Nat.le_refl _) _).trans (hB.mono (by simp))
  clear hB hbx hA
  cases hc : chkT a b c == 0
  · clear x0 x1 x2 x3 x4
    obtain ⟨w2, rfl⟩ : ∃ w2, w2 = w1 := ⟨_, rfl⟩
    have hB2 := hB1
    clear hB1
    go_wp2_with fail
    have HC := Lib.hid hc
    clear hc
    go_wp2_with fail
    refine (much_any A k cap es _ (hE.below hB2) HN.out hm).mono ?_
    rintro e1 w3 ⟨v, rfl, rfl⟩
    by_cases hv : 100 < v
    · go_wp2_with (go_at_call 8; refine (awake_any _).mono ?_; rintro e1 w3 ⟨rfl, hB⟩)
      go_ret
      exact ⟨rfl, hB2.trans (hB.mono hB2.size)⟩
    · go_wp2_with fail
      refine (refRight_any A k cap es _ (hE.below hB2) HN.out hm HO.out).mono ?_
      rintro e1 w3 ⟨rfl, hB⟩
      have hB3 := hB2.trans (hB.mono hB2.size)
      clear hB hB2
      cases hr : rightE es != 0
      · have hr0 : rightE es = 0 := by simpa using hr
        have hris := rising_of es hr0
        have hnn := tss_nonneg es HT.out
        have hle : ∀ x y, x ≤ y → markT (tss es) x ≤ markT (tss es) y := fun x y h => mark_more _ hris hnn x y h
        have hll : ∀ x, markT (tss es) x ≤ lastT (tss es) := fun x => mark_last _ hris hnn x
        have HL := Lib.hid hle
        have HLL := Lib.hid (hll n)
        have HR := Lib.hid hr0
        clear hr0 hris hnn hle hll
        rcases Int.lt_trichotomy m n with hmn | rfl | hmn
        case' inl => have l1 := HL.out m n (by omega)
        case' inr.inl => have l1 := HL.out m m (by omega)
        case' inr.inr => have l1 := HL.out n m (by omega)
        all_goals
          go_wp2_with fail
          refine (mark_any _ A k cap es _ (hE.below hB3) HN.out hm).mono ?_
          rintro e1 w4 ⟨rfl, hB⟩
          have hB4 := hB3.trans (hB.mono hB3.size)
          clear hB hB3
          go_wp2_with fail
          refine (mark_any _ A k cap es _ (hE.below hB4) HN.out hm).mono ?_
          rintro e1 w5 ⟨rfl, hB⟩
          have hB5 := hB4.trans (hB.mono hB4.size)
          have l3 := HLL.out
          clear hB hB4
          go_wp2_with fail
          refine (mark_any _ A k cap es _ (hE.below hB5) HN.out hm).mono ?_
          rintro e1 w6 ⟨rfl, hB⟩
          have hB6 := hB5.trans (hB.mono hB5.size)
          clear hB hB5
          go_wp2_with fail
          refine (refLast_any A k cap es _ (hE.below hB6) HN.out hm).mono ?_
          rintro e1 w7 ⟨rfl, rfl⟩
          go_wp2_with fail
          refine (awake_any _).mono ?_
          rintro e1 w7 ⟨rfl, hB⟩
          have hB7 := hB6.trans (hB.mono hB6.size)
          clear hB hB6
          go_wp2
          go_ret
          exact ⟨rfl, hB7⟩
      · go_wp2_with (go_at_call 8; refine (awake_any _).mono ?_; rintro e1 w4 ⟨rfl, hB⟩)
        go_ret
        exact ⟨rfl, hB3.trans (hB.mono hB3.size)⟩
  · go_wp2_with fail
    all_goals
      refine (check_zero a b c _ _ _ hc (by omega) (by omega)).mono ?_
      rintro e1 w2 ⟨rfl, hB⟩
      have hB2 := hB1.trans (hB.mono hB1.size)
      clear hB hB1 x0 x1 x2 x3 x4
      have HC := Lib.hid hc
      clear hc
      go_wp2_with fail
      refine (much_any A k cap es _ (hE.below hB2) HN.out hm).mono ?_
      rintro e1 w3 ⟨v, rfl, rfl⟩
      by_cases hv : 100 < v
      · go_wp2_with (go_at_call 8; refine (awake_any _).mono ?_; rintro e1 w3 ⟨rfl, hB⟩)
        go_ret
        exact ⟨rfl, hB2.trans (hB.mono hB2.size)⟩
      · go_wp2_with fail
        refine (refRight_any A k cap es _ (hE.below hB2) HN.out hm HO.out).mono ?_
        rintro e1 w3 ⟨rfl, hB⟩
        have hB3 := hB2.trans (hB.mono hB2.size)
        clear hB hB2
        cases hr : rightE es != 0
        · have hr0 : rightE es = 0 := by simpa using hr
          have hris := rising_of es hr0
          have hnn := tss_nonneg es HT.out
          have hle : ∀ x y, x ≤ y → markT (tss es) x ≤ markT (tss es) y := fun x y h => mark_more _ hris hnn x y h
          have hll : ∀ x, markT (tss es) x ≤ lastT (tss es) := fun x => mark_last _ hris hnn x
          have HL := Lib.hid hle
          have HLL := Lib.hid (hll n)
          have HR := Lib.hid hr0
          clear hr0 hris hnn hle hll
          rcases Int.lt_trichotomy m n with hmn | rfl | hmn
          case' inl => have l1 := HL.out m n (by omega)
          case' inr.inl => have l1 := HL.out m m (by omega)
          case' inr.inr => have l1 := HL.out n m (by omega)
          all_goals
            go_wp2_with fail
            refine (mark_any _ A k cap es _ (hE.below hB3) HN.out hm).mono ?_
            rintro e1 w4 ⟨rfl, hB⟩
            have hB4 := hB3.trans (hB.mono hB3.size)
            clear hB hB3
            go_wp2_with fail
            refine (mark_any _ A k cap es _ (hE.below hB4) HN.out hm).mono ?_
            rintro e1 w5 ⟨rfl, hB⟩
            have hB5 := hB4.trans (hB.mono hB4.size)
            have l3 := HLL.out
            clear hB hB4
            go_wp2_with fail
            refine (mark_any _ A k cap es _ (hE.below hB5) HN.out hm).mono ?_
            rintro e1 w6 ⟨rfl, hB⟩
            have hB6 := hB5.trans (hB.mono hB5.size)
            clear hB hB5
            go_wp2_with fail
            refine (refLast_any A k cap es _ (hE.below hB6) HN.out hm).mono ?_
            rintro e1 w7 ⟨rfl, rfl⟩
            go_wp2_with fail
            refine (awake_any _).mono ?_
            rintro e1 w7 ⟨rfl, hB⟩
            have hB7 := hB6.trans (hB.mono hB6.size)
            clear hB hB6
            go_wp2
            go_ret
            exact ⟨rfl, hB7⟩
        · go_wp2_with (go_at_call 8; refine (awake_any _).mono ?_; rintro e1 w4 ⟨rfl, hB⟩)
          go_ret
          exact ⟨rfl, hB3.trans (hB.mono hB3.size)⟩
end Go.Proofs.Ytcicloemmjlkgaa
