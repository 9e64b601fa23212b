/- The walk of VarnumList. -/
import Derived.Test.YtclbndfoljmakaaAll
import Derived.Laws.Concat
import Derived.BigQuiet
namespace Go.Proofs.Ytclbndfoljmakaa
open Go.RowKit Law

/-- A slice's address leads to these numbers. -/
def Nums64 (w : World) (A : Option Addr) (zs : List Nat) : Prop :=
  zs ≠ [] → ∃ b off, A = some ⟨b, off, none⟩ ∧ b < w.heap.size ∧ ∀ i, (h : i < zs.length) → w.cell? ⟨b, off + i, none⟩ = some (.int .u64 (zs[i] : Int))
theorem own_nums {w : World} {base n : Nat} {v : Value} {l : List Nat} (h : w.ownsRow base 22 1 v n (nv l)) : ∃ A cap, v = .slice A n cap ∧ l.length = n ∧ Nums64 w A l := by
  have hb := h.lt
  have hc := fun g => h.cells (g := g)
  have hl : l.length = n := by simpa [nv] using h.1
  rcases h.2 with ⟨rfl, h0⟩ | ⟨g, cap, cur, rfl, h1, _, h3, h4, _⟩
  · refine ⟨none, 0, by rw [h0], hl, fun hne => absurd ?_ hne⟩
    exact List.eq_nil_of_length_eq_zero (by omega)
  · refine ⟨some ⟨g, 0, none⟩, cap, rfl, hl, fun _ => ⟨g, 0, rfl, (hb g rfl).2, fun i hi => ?_⟩⟩
    have := hc g rfl i (.int .u64 (l[i] : Int)) (by simp [nv, hi])
    simpa [Addr.add_lit, hi] using this

theorem list_pack (s : ByteArray) (zs : List Nat) (j : Nat) (hs : bl s = catL (zs.take j)) (hj : j ≤ zs.length) (hj1 : j ≤ 100) (hzb : ∀ n ∈ zs, n < 18446744073709551616) :
    ∃ ys : List Nat, ys.length = j ∧ (∀ q, (h : q < ys.length) → (h2 : q < zs.length) → ys[q] = zs[q]) ∧
      ∀ w, Calls Try.prog 11 #[.string s] w fun e w' => ∃ v, e = .returned (.tuple #[v, .int .i64 0]) ∧ w'.ownsRow w.heap.size 22 1 v j (nv ys) ∧ Below w.heap.size w w' := by
  have hl : (zs.take j).length = j := by simp; omega
  refine ⟨zs.take j, hl, fun q h h2 => List.getElem_take, fun w => ?_⟩
  have := all_enc s (zs.take j) w (fun n hn => hzb n (List.mem_of_mem_take hn)) hs (by omega)
  rw [hl] at this
  exact this

set_option maxHeartbeats 2000000 in
set_option maxRecDepth 100000 in
theorem list_law (A : Option Addr) (m cap : Nat) (zs : List Nat) (w : World) (hz : Nums64 w A zs) (hn : zs.length = m) (hm : m ≤ 9223372036854775807) (hzb : ∀ n ∈ zs, n < 18446744073709551616) :
    Calls Try.prog 5 #[.slice A m cap] w fun e w' => e = .returned (.bool true) ∧ Below w.heap.size w w' := by
  subst hn
  have HZ := Lib.hid hz
  have HZB := Lib.hid hzb
  have h00 : bl ByteArray.empty = catL (zs.take 0) := rfl
  have H00 := Lib.hid h00
  clear hz hzb h00
  go_enter Try.func5, Try.ntmps5
  go_wp2
  go_loopw [3, 4] (fun t i wr => ∃ (j : Nat) (s : ByteArray), j ≤ zs.length ∧ j ≤ 100 ∧ i = .int .i64 (j : Int) ∧ t = .string s ∧ bl s = catL (zs.take j) ∧ Below w.heap.size w wr) (fun _ i _ => zs.length - (intOf i).toNat)
  case atStart => exact ⟨0, ByteArray.empty, by omega, by omega, rfl, rfl, H00.out, Below.refl _ _⟩
  case round =>
    obtain ⟨j, s, hj, hj1, rfl, rfl, hs, hB⟩ := hrel
    have HS := Lib.hid hs
    have HB := Lib.hid hB
    have hss : s.size ≤ 900 := by
      rw [← bl_length, hs]
      have := catL_le (zs.take j) (fun n hn => HZB.out n (List.mem_of_mem_take hn))
      have h2 : (zs.take j).length = j := by simp; omega
      omega
    clear hs hB
    by_cases hlt : j < zs.length
    · by_cases h100 : j < 100
      · obtain ⟨b, off, rfl, hb, hc⟩ := HZ.out (by rintro rfl; simp at hlt)
        have hcj : wr.cell? ⟨b, off + j, none⟩ = some (.int .u64 (zs[j] : Int)) := (HB.out.cell (p := ⟨b, off + j, none⟩) hb).trans (hc j hlt)
        have hd : decide ((j : Int) < 100) = true := by simp; omega
        have hzj : zs[j] < 18446744073709551616 := HZB.out _ (List.getElem_mem hlt)
        have HP := Lib.hid (fun w => put_any zs[j] w hzj)
        have hadd : ∀ w, (Op.stringOp .add s (putS zs[j])).run Try.prog w = .ok (.string (s ++ putS zs[j])) w := fun w => run_string_add_sum w _ _ (by rw [putS_size]; have := putL_le zs[j] hzj; omega)
        have HT := Lib.hid (show bl (s ++ putS zs[j]) = catL (zs.take (j + 1)) by rw [bl_append, bl_put _ hzj, HS.out, catL_take zs j hlt])
        clear hc hzj hss
        generalize putS zs[j] = ps at *
        generalize zs[j] = z at *
        go_wp2_with fail
        refine (HP.out _).mono ?_
        rintro e w1 ⟨rfl, hB1⟩
        have HB2 := Lib.hid (HB.out.trans (hB1.mono HB.out.size))
        clear hB1
        go_wp2
        go_roundw
        case rel =>
          have hr : ∃ (j' : Nat) (s' : ByteArray), j' ≤ zs.length ∧ j' ≤ 100 ∧ Value.int .i64 ((j : Int) + 1) = .int .i64 (j' : Int) ∧ Value.string (s ++ ps) = .string s' ∧ bl s' = catL (zs.take j') ∧ Below w.heap.size w w1 :=
            ⟨j + 1, s ++ ps, by omega, by omega, by go_num, rfl, HT.out, HB2.out⟩
          first | exact hr | ((repeat apply Exists.intro); exact ⟨hr, rfl⟩)
        case measure => simp [intOf]; omega
      · have hd : decide ((j : Int) < 100) = false := by simp; omega
        have hmin : (if (100 : Int) < (zs.length : Int) then (100 : Int) else (zs.length : Int)) = (j : Int) := by split <;> omega
        obtain ⟨ys, hyl, hyg, hya⟩ := list_pack s zs j HS.out hj hj1 HZB.out
        have HYG := Lib.hid hyg
        have HA := Lib.hid hya
        clear hyg hya HS hss
        go_wp2_with fail
        refine (HA.out _).mono ?_
        rintro e w1 ⟨v, rfl, hown, hB1⟩
        obtain ⟨A2, cap2, rfl, hl2, hN2⟩ := own_nums hown
        have HN2 := Lib.hid hN2
        have HB2 := Lib.hid (HB.out.trans (hB1.mono HB.out.size))
        clear hown hB1 hN2 hl2
        go_wp2
        go_loopw [7] (fun i wr => ∃ q : Nat, q ≤ j ∧ i = .int .i64 (q : Int) ∧ ∃ k, wr = w1.drewN k) (fun i _ => j - (intOf i).toNat)
        case atStart => exact ⟨0, by omega, rfl, 0, rfl⟩
        case round =>
          obtain ⟨q, hq, rfl, k, rfl⟩ := hrel
          by_cases hqj : q < j
          · obtain ⟨b2, off2, rfl, hb2, hc2⟩ := HN2.out (by rintro rfl; simp at hyl; omega)
            obtain ⟨b3, off3, rfl, hb3, hc3⟩ := HZ.out (by rintro rfl; simp at hj; omega)
            have e2 : w1.cell? ⟨b2, off2 + q, none⟩ = some (.int .u64 (zs[q] : Int)) := by rw [← HYG.out q (by omega) (by omega)]; exact hc2 q (by omega)
            have e3 : w1.cell? ⟨b3, off3 + q, none⟩ = some (.int .u64 (zs[q] : Int)) := (HB2.out.cell (p := ⟨b3, off3 + q, none⟩) hb3).trans (hc3 q (by omega))
            have q0 : (0 : Int) ≤ (q : Int) := Int.natCast_nonneg _
            have q1 : (q : Int) < (j : Int) := by omega
            have q2 : (q : Int) < (zs.length : Int) := by omega
            clear hc2 hc3
            generalize zs[q] = z at *
            go_wp2
            go_quiet (fail)
            go_wp2
            go_roundw
            case rel =>
              first | exact ⟨q + 1, by omega, by go_num, _, rfl⟩ | ((repeat apply Exists.intro); exact ⟨⟨q + 1, by omega, by go_num, _, rfl⟩, rfl⟩)
            case measure => simp [intOf]; omega
          · obtain rfl : q = j := by omega
            have HB3 := Lib.hid (below_drewN HB2.out k)
            generalize w1.drewN k = w2 at *
            go_wp2_with fail
            refine (awake_any _).mono ?_
            rintro e w3 ⟨rfl, hB3⟩
            have HB4 := Lib.hid (HB3.out.trans (hB3.mono HB3.out.size))
            clear hB3
            go_wp2
            go_ret
            exact ⟨rfl, HB4.out⟩
    · have hd : j = zs.length := by omega
      have hmin : (if (100 : Int) < (zs.length : Int) then (100 : Int) else (zs.length : Int)) = (j : Int) := by split <;> omega
      obtain ⟨ys, hyl, hyg, hya⟩ := list_pack s zs j HS.out hj hj1 HZB.out
      have HYG := Lib.hid hyg
      have HA := Lib.hid hya
      clear hyg hya HS hss
      go_wp2_with fail
      refine (HA.out _).mono ?_
      rintro e w1 ⟨v, rfl, hown, hB1⟩
      obtain ⟨A2, cap2, rfl, hl2, hN2⟩ := own_nums hown
      have HN2 := Lib.hid hN2
      have HB2 := Lib.hid (HB.out.trans (hB1.mono HB.out.size))
      clear hown hB1 hN2 hl2
      go_wp2
      go_loopw [7] (fun i wr => ∃ q : Nat, q ≤ j ∧ i = .int .i64 (q : Int) ∧ ∃ k, wr = w1.drewN k) (fun i _ => j - (intOf i).toNat)
      case atStart => exact ⟨0, by omega, rfl, 0, rfl⟩
      case round =>
        obtain ⟨q, hq, rfl, k, rfl⟩ := hrel
        by_cases hqj : q < j
        · obtain ⟨b2, off2, rfl, hb2, hc2⟩ := HN2.out (by rintro rfl; simp at hyl; omega)
          obtain ⟨b3, off3, rfl, hb3, hc3⟩ := HZ.out (by rintro rfl; simp at hj; omega)
          have e2 : w1.cell? ⟨b2, off2 + q, none⟩ = some (.int .u64 (zs[q] : Int)) := by rw [← HYG.out q (by omega) (by omega)]; exact hc2 q (by omega)
          have e3 : w1.cell? ⟨b3, off3 + q, none⟩ = some (.int .u64 (zs[q] : Int)) := (HB2.out.cell (p := ⟨b3, off3 + q, none⟩) hb3).trans (hc3 q (by omega))
          have q0 : (0 : Int) ≤ (q : Int) := Int.natCast_nonneg _
          have q1 : (q : Int) < (j : Int) := by omega
          have q2 : (q : Int) < (zs.length : Int) := by omega
          clear hc2 hc3
          generalize zs[q] = z at *
          go_wp2
          go_quiet (fail)
          go_wp2
          go_roundw
          case rel =>
            first | exact ⟨q + 1, by omega, by go_num, _, rfl⟩ | ((repeat apply Exists.intro); exact ⟨⟨q + 1, by omega, by go_num, _, rfl⟩, rfl⟩)
          case measure => simp [intOf]; omega
        · obtain rfl : q = j := by omega
          have HB3 := Lib.hid (below_drewN HB2.out k)
          generalize w1.drewN k = w2 at *
          go_wp2_with fail
          refine (awake_any _).mono ?_
          rintro e w3 ⟨rfl, hB3⟩
          have HB4 := Lib.hid (HB3.out.trans (hB3.mono HB3.out.size))
          clear hB3
          go_wp2
          go_ret
          exact ⟨rfl, HB4.out⟩
end Go.Proofs.Ytclbndfoljmakaa
