/- The walk of FrameTorn: frames one behind the other, cut off anywhere. -/
import Derived.Test.YtjjhbkmmkhkjnaaTornLaw
import Derived.Test.YtjjhbkmmkhkjnaaPlays
import Derived.Deep.Cut
namespace Go.Proofs.Ytjjhbkmmkhkjnaa
open Go.RowKit Crc Law

theorem Try.infoI : (Try.prog.info? 3).map (fun i => (i.zero, i.size, i.bytes)) = some (some (.int .i64 0), 1, 8) := by kernel_rfl
/-- The places where they end, as values. -/
def ev (ss : List ByteArray) (k : Nat) : List Value := (List.range k).map fun j => .int .i64 ((endAt ss (j + 1) : Nat) : Int)
theorem ev_snoc (ss : List ByteArray) (k : Nat) : ev ss (k + 1) = ev ss k ++ [.int .i64 ((endAt ss (k + 1) : Nat) : Int)] := by simp [ev, List.range_succ]
theorem own_ends {w : World} {base n : Nat} {v : Value} {ss : List ByteArray} (h : w.ownsRow base 3 1 v n (ev ss n)) : ∃ A cap, v = .slice A n cap ∧ (0 < n → ∃ b off, A = some ⟨b, off, none⟩ ∧ ∀ i, i < n → w.cell? ⟨b, off + i, none⟩ = some (.int .i64 ((endAt ss (i + 1) : Nat) : Int))) := by
  have hc := fun g => h.cells (g := g)
  rcases h.2 with ⟨rfl, h0⟩ | ⟨g, cap, cur, rfl, h1, _, h3, h4, _⟩
  · exact ⟨none, 0, by rw [h0], fun hp => by omega⟩
  · refine ⟨some ⟨g, 0, none⟩, cap, rfl, fun _ => ⟨g, 0, rfl, fun i hi => ?_⟩⟩
    have := hc g rfl i (.int .i64 ((endAt ss (i + 1) : Nat) : Int)) (by simp [ev, hi])
    simpa [Addr.add_lit, hi] using this
theorem endAt_take (ss : List ByteArray) (K j : Nat) (h : j ≤ K) : endAt (ss.take K) j = endAt ss j := by unfold endAt; rw [List.take_take, Nat.min_eq_left h]
theorem endAt_bound (ss : List ByteArray) (k : Nat) (hk : k ≤ ss.length) (h : ∀ s ∈ ss.take k, s.size ≤ 500) : endAt ss k ≤ 513 * k := by
  induction k with
  | zero => exact Nat.le_refl _
  | succ k ih =>
    have h1 := ih (by omega) (fun s hs => h s (List.mem_of_mem_take (i := k) (by rw [List.take_take, Nat.min_eq_left (by omega : k ≤ k + 1)]; exact hs)))
    have h2 := frame_le ss[k] (h _ (by rw [List.take_succ_eq_append_getElem (by omega)]; exact List.mem_append.2 (.inr (List.mem_singleton.2 rfl))))
    rw [endAt_succ ss k (by omega)]
    omega
theorem take_more (ss : List ByteArray) (k : Nat) (hk : k < ss.length) (h : ∀ s ∈ ss.take k, s.size ≤ 500) (hx : ss[k].size ≤ 500) : ∀ s ∈ ss.take (k + 1), s.size ≤ 500 := by
  intro s hs
  rw [List.take_succ_eq_append_getElem hk] at hs
  rcases List.mem_append.1 hs with hs | hs
  · exact h s hs
  · simp at hs; subst hs; exact hx

set_option maxHeartbeats 2000000 in
set_option maxRecDepth 100000 in
theorem torn_any (A : Option Addr) (len cap : Nat) (ss : List ByteArray) (a : Nat) (w : World) (hS : Strs w A ss) (hn : ss.length = len) (hm : len ≤ 9223372036854775807) (hcap : len ≤ cap) (hcap2 : cap ≤ 9223372036854775807) (hA : A = none → cap = 0) (hz : ∀ s ∈ ss, s.size ≤ 9223372036854775807) (ha : a < 65536) :
    Calls Try.prog 6 #[.slice A len cap, .int .u16 a] w fun e w' => e = .returned (.bool true) ∧ Below w.heap.size w w' := by
  obtain ⟨i0, hi, hz0, hz1, hz2⟩ := info_parts Try.infoI
  have HS := Lib.hid hS
  have HN := Lib.hid hn
  have HZ := Lib.hid hz
  have HA := Lib.hid hA
  clear hS hn hz hA
  go_enter Try.func6, Try.ntmps6
  go_wp2
  go_loopw [5, 6, 7] (fun t v i wr => ∃ k : Nat, k ≤ len ∧ k ≤ 20 ∧ (∀ s ∈ ss.take k, s.size ≤ 500) ∧ i = .int .i64 (k : Int) ∧ t = .string (catF (ss.take k)) ∧ wr.ownsRow w.heap.size 3 1 v k (ev ss k) ∧ Below w.heap.size w wr) (fun _ _ i _ => 20 - (intOf i).toNat)
  case atStart => exact ⟨0, by omega, by omega, by simp, rfl, rfl, World.ownsRow_nil _ _ _ _, Below.refl _ _⟩
  case round =>
    obtain ⟨k, hk, hk20, h500, rfl, rfl, hown, hB⟩ := hrel
    have H5 := Lib.hid h500
    have HO := Lib.hid hown
    have K := Lib.hid hB
    clear h500 hown hB
    by_cases hkl : k < len
    · by_cases hk2 : k < 20
      · have hlt : k < ss.length := by rw [HN.out]; exact hkl
        obtain ⟨b, off, rfl, hbl, hcell⟩ := HS.out (by rintro rfl; simp at hlt)
        have hc := (K.out.cell (p := ⟨b, off + k, none⟩) hbl).trans (hcell k hlt)
        have hsz := HZ.out _ (List.getElem_mem hlt)
        have HC := Lib.hid hcell
        clear hcell
        by_cases hlong : 500 < ss[k].size
        · have hd : decide ((500 : Int) < (ss[k].size : Int)) = true := decide_eq_true (by omega)
          go_wp2_with fail
          refine (awake_any _).mono ?_
          rintro e w5 ⟨rfl, hB⟩
          have K5 := Lib.hid (K.out.trans (hB.mono K.out.size))
          clear hB
          go_wp2
          go_ret
          exact ⟨rfl, K5.out⟩
        · have hd : decide ((500 : Int) < (ss[k].size : Int)) = false := decide_eq_false (by omega)
          have H6 := Lib.hid (take_more ss k hlt H5.out (by omega))
          have HP := Lib.hid (fun w => framePut_any ss[k] w (by omega))
          rw [show putR ss[k] = (frameS ss[k], 0) by unfold putR; rw [if_neg (by omega)]] at HP
          simp only [Puts] at HP
          have hb1 := endAt_bound ss k (by omega) H5.out
          have hb2 := endAt_bound ss (k + 1) (by omega) H6.out
          have hcat : catF (ss.take k) ++ frameS ss[k] = catF (ss.take (k + 1)) := by rw [List.take_succ_eq_append_getElem hlt, catF_snoc]
          have hcs : (catF (ss.take (k + 1))).size = endAt ss (k + 1) := rfl
          have hsum : (catF (ss.take k)).size + (frameS ss[k]).size ≤ 9223372036854775807 := by
            rw [← ByteArray.size_append, hcat, hcs]; omega
          have hadd := fun w => run_string_add_sum (P := Try.prog) w (catF (ss.take k)) (frameS ss[k]) hsum
          rw [hcat] at hadd
          obtain ⟨c1, hc1⟩ : ∃ c1, catF (ss.take (k + 1)) = c1 := ⟨_, rfl⟩
          rw [hc1] at hadd hcs
          have HC1 := Lib.hid hc1
          clear hcat hsum hc1
          generalize catF (ss.take k) = c0 at *
          generalize frameS ss[k] = fr at *
          go_wp2_with fail
          refine (HP.out _).mono ?_
          rintro e w2 ⟨rfl, hBG⟩
          have hown2 := HO.out.kept (below_none hBG) (own_ne _)
          have hB2 := K.out.trans (hBG.mono K.out.size)
          have hBs2 := hB2.size
          clear hBG
          go_wp2_with (first | (at_builtin; go_must (refine wpList_append_own_at _ rfl _ _ 45 rfl w.heap.size 3 i0 (.int .i64 0) 1 8 Try.underlying45 hi hz0 hz1 hz2 rfl (by decide) _ _ _ rfl (hown2.alloc _) ⟨w2.heap.size, 0, none⟩ 1 1 [.int .i64 ((endAt ss (k + 1) : Nat) : Int)] rfl rfl ?c1 ?c2 ?c3 ?c4 ?c5 ?_)))
          case c1 => exact cell_one_new _ _ _
          case c2 => simp [Value.oneCell']
          case c3 => simp [maxLen]; omega
          case c4 => omega
          case c5 => simp; omega
          intro v1 w1 hv1 hg1 _ _
          have hv2 : w1.ownsRow w.heap.size 3 1 v1 (k + 1) (ev ss (k + 1)) := by
            rw [ev_snoc]
            exact hv1
          have hB1 : Below w.heap.size w w1 := (hB2.alloc hBs2 _).grown hg1 (by simp; omega) (fun j hj => (hown2.lt j hj).1)
          clear hv1 hg1 hown2 hB2
          go_wp2
          go_roundw
          case rel =>
            have hr : ∃ k' : Nat, k' ≤ len ∧ k' ≤ 20 ∧ (∀ s ∈ ss.take k', s.size ≤ 500) ∧ Value.int .i64 ((k : Int) + 1) = .int .i64 (k' : Int) ∧ Value.string c1 = .string (catF (ss.take k')) ∧ w1.ownsRow w.heap.size 3 1 v1 k' (ev ss k') ∧ Below w.heap.size w w1 :=
              ⟨k + 1, by omega, by omega, H6.out, by go_num, by rw [HC1.out], hv2, hB1⟩
            first | exact hr | ((repeat apply Exists.intro); exact ⟨hr, rfl⟩)
          case measure => simp [intOf]; omega
      · obtain rfl : k = 20 := by omega
        have hkl2 : 20 ≤ ss.length := by rw [HN.out]; omega
        have hbnd := endAt_bound ss 20 hkl2 H5.out
        have hSz : (catF (ss.take 20)).size = endAt ss 20 := rfl
        obtain ⟨S, hSd⟩ : ∃ S, catF (ss.take 20) = S := ⟨_, rfl⟩
        obtain ⟨B, capB, rfl, hcells⟩ := own_ends HO.out
        have HCE := Lib.hid hcells
        rw [hSd] at hSz ⊢
        have hmod : (a : Int) % ((S.size : Int) + 1) = ((a % (S.size + 1) : Nat) : Int) := by rw [Int.natCast_emod]; rfl
        have hnS : a % (S.size + 1) ≤ S.size := Nat.le_of_lt_succ (Nat.mod_lt _ (by omega))
        have hSb : S.size ≤ 10260 := by omega
        have HSD := Lib.hid hSd
        have HSZ := Lib.hid hSz
        clear hcells hSd hSz hbnd
        generalize a % (S.size + 1) = n at *
        go_upto_region 17 with fail
        simp only [hmod]
        clear hmod
        go_loop [11, 12, 13] (fun wh at_ i => ∃ q m : Nat, q ≤ 20 ∧ m ≤ q ∧ i = .int .i64 (q : Int) ∧ wh = .int .i64 (m : Int) ∧ at_ = .int .i64 ((endAt ss m : Nat) : Int) ∧ endAt ss m ≤ n ∧ (∀ j, j < q → endAt ss (j + 1) ≤ n → j + 1 ≤ m)) (fun _ _ i => 20 - (intOf i).toNat)
        case atStart => exact ⟨0, 0, by omega, Nat.le_refl _, rfl, rfl, rfl, by rw [endAt_zero]; exact Nat.zero_le _, fun j hj => by omega⟩
        case round =>
          obtain ⟨q, m, hq, hmq, rfl, rfl, rfl, hmn, hmax⟩ := hrel
          have HM := Lib.hid hmax
          clear hmax
          by_cases hqk : q < 20
          · obtain ⟨b', off', rfl, hcc⟩ := HCE.out (by omega)
            have hc1 := hcc q hqk
            clear hcc
            by_cases hle : endAt ss (q + 1) ≤ n
            · have hd : decide (endAt ss (q + 1) ≤ n) = true := decide_eq_true hle
              have HLE := Lib.hid hle
              clear hle
              obtain ⟨E1, hE1⟩ : ∃ E1, endAt ss (q + 1) = E1 := ⟨_, rfl⟩
              rw [hE1] at hd hc1
              have HE1 := Lib.hid hE1
              clear hE1
              go_wp2
              go_round
              case rel => exact ⟨q + 1, q + 1, by omega, Nat.le_refl _, by go_num, by go_num, by rw [HE1.out], HLE.out, fun j hj _ => by omega⟩
              case measure => simp [intOf]; omega
            · have hd : decide (endAt ss (q + 1) ≤ n) = false := decide_eq_false hle
              have HLE := Lib.hid hle
              clear hle
              obtain ⟨E1, hE1⟩ : ∃ E1, endAt ss (q + 1) = E1 := ⟨_, rfl⟩
              rw [hE1] at hd hc1
              have HE1 := Lib.hid hE1
              clear hE1
              go_wp2
              go_round
              case rel => exact ⟨q + 1, m, by omega, by omega, by go_num, rfl, rfl, hmn, fun j hj hjn => by
                by_cases hjq : j = q
                · subst hjq; exact absurd hjn HLE.out
                · exact HM.out j (by omega) hjn⟩
              case measure => simp [intOf]; omega
          · obtain rfl : 20 = q := by omega
            have hlt2 : (ss.take 20).length = 20 := by rw [List.length_take]; omega
            have hlen : ((ss.take 20).take m).length = m := by rw [List.length_take, hlt2]; omega
            have hres := torn (ss.take 20) H5.out n m (by omega) (by rw [endAt_take ss 20 m (by omega)]; exact hmn)
              (fun hml => by
                rw [hlt2] at hml
                rw [endAt_take ss 20 (m + 1) (by omega)]
                rcases Nat.lt_or_ge n (endAt ss (m + 1)) with h | h
                · exact h
                · have := HM.out m hml h; omega)
              (by rw [hlt2, endAt_take ss 20 20 (Nat.le_refl _), ← HSZ.out]; exact hnS)
            rw [HSD.out, endAt_take ss 20 m (by omega)] at hres
            have HALL := Lib.hid (fun w => all_any (S.extract 0 n) w (by rw [ByteArray.size_extract]; omega))
            have hS3' : ∀ w2 : World, Below w.heap.size w w2 → Strs w2 A ((ss.take 20).take m) := fun w2 hb hne => by
              obtain ⟨b, off, h1, h2, h3⟩ := HS.out.below hb (by rintro rfl; simp at hne)
              exact ⟨b, off, h1, h2, fun i hi => by rw [h3 i (by rw [hlen] at hi; omega), List.getElem_take, List.getElem_take]⟩
            have hmap : ∀ k, Option.map (fun x : Addr => x.add (0 * k)) A = A := fun k => by cases A <;> simp [Addr.add_zero']
            clear hlt2
            generalize endAt ss m = E at *
            by_cases heq : E = n
            · rw [if_pos heq] at hres
              subst heq
              go_wp2_with fail
              refine (HALL.out _).mono ?_
              rintro e w2 ⟨ts, i', er, v, hR, rfl, hown, hBA⟩
              obtain ⟨e1, e2, e3⟩ := hres.one hR
              subst e1 e2 e3
              rw [hlen] at hown
              obtain ⟨A2, cap2, rfl, _, hS2⟩ := own_strs hown
              have hK2 := K.out.trans (hBA.mono K.out.size)
              have HTX := Lib.hid (texts_any A2 A m cap2 cap ((ss.take 20).take m) w2 hS2 (hS3' w2 hK2) hlen (by omega))
              have K2 := Lib.hid hK2
              clear hS2 hown hR hBA hres hK2
              go_wp2_with fail
              refine HTX.out.mono ?_
              rintro e w3 ⟨rfl, x, rfl⟩
              go_wp2_with fail
              refine (awake_any _).mono ?_
              rintro e w4 ⟨rfl, hBW⟩
              have K3 := Lib.hid ((below_drewN K2.out x).trans (hBW.mono K2.out.size))
              clear hBW
              go_wp2
              go_ret
              exact ⟨rfl, K3.out⟩
            · rw [if_neg heq] at hres
              have hq1 : ((E : Int) == (n : Int)) = false := by simp; omega
              go_wp2_with fail
              refine (HALL.out _).mono ?_
              rintro e w2 ⟨ts, i', er, v, hR, rfl, hown, hBA⟩
              obtain ⟨e1, e2, e3⟩ := hres.one hR
              subst e1 e2 e3
              rw [hlen] at hown
              obtain ⟨A2, cap2, rfl, _, hS2⟩ := own_strs hown
              have hK2 := K.out.trans (hBA.mono K.out.size)
              have HTX := Lib.hid (texts_any A2 A m cap2 cap ((ss.take 20).take m) w2 hS2 (hS3' w2 hK2) hlen (by omega))
              have K2 := Lib.hid hK2
              clear hS2 hown hR hBA hres hK2
              go_wp2_with fail
              refine HTX.out.mono ?_
              rintro e w3 ⟨rfl, x, rfl⟩
              go_wp2_with fail
              refine (awake_any _).mono ?_
              rintro e w4 ⟨rfl, hBW⟩
              have K3 := Lib.hid ((below_drewN K2.out x).trans (hBW.mono K2.out.size))
              clear hBW
              go_wp2
              go_ret
              exact ⟨rfl, K3.out⟩
    · obtain rfl : k = len := by omega
      have hkl2 : k ≤ ss.length := by rw [HN.out]; omega
      have hbnd := endAt_bound ss k hkl2 H5.out
      have hSz : (catF (ss.take k)).size = endAt ss k := rfl
      obtain ⟨S, hSd⟩ : ∃ S, catF (ss.take k) = S := ⟨_, rfl⟩
      obtain ⟨B, capB, rfl, hcells⟩ := own_ends HO.out
      have HCE := Lib.hid hcells
      rw [hSd] at hSz ⊢
      have hmod : (a : Int) % ((S.size : Int) + 1) = ((a % (S.size + 1) : Nat) : Int) := by rw [Int.natCast_emod]; rfl
      have hnS : a % (S.size + 1) ≤ S.size := Nat.le_of_lt_succ (Nat.mod_lt _ (by omega))
      have hSb : S.size ≤ 10260 := by omega
      have HSD := Lib.hid hSd
      have HSZ := Lib.hid hSz
      clear hcells hSd hSz hbnd
      generalize a % (S.size + 1) = n at *
      go_upto_region 17 with fail
      simp only [hmod]
      clear hmod
      go_loop [11, 12, 13] (fun wh at_ i => ∃ q m : Nat, q ≤ k ∧ m ≤ q ∧ i = .int .i64 (q : Int) ∧ wh = .int .i64 (m : Int) ∧ at_ = .int .i64 ((endAt ss m : Nat) : Int) ∧ endAt ss m ≤ n ∧ (∀ j, j < q → endAt ss (j + 1) ≤ n → j + 1 ≤ m)) (fun _ _ i => k - (intOf i).toNat)
      case atStart => exact ⟨0, 0, by omega, Nat.le_refl _, rfl, rfl, rfl, by rw [endAt_zero]; exact Nat.zero_le _, fun j hj => by omega⟩
      case round =>
        obtain ⟨q, m, hq, hmq, rfl, rfl, rfl, hmn, hmax⟩ := hrel
        have HM := Lib.hid hmax
        clear hmax
        by_cases hqk : q < k
        · obtain ⟨b', off', rfl, hcc⟩ := HCE.out (by omega)
          have hc1 := hcc q hqk
          clear hcc
          by_cases hle : endAt ss (q + 1) ≤ n
          · have hd : decide (endAt ss (q + 1) ≤ n) = true := decide_eq_true hle
            have HLE := Lib.hid hle
            clear hle
            obtain ⟨E1, hE1⟩ : ∃ E1, endAt ss (q + 1) = E1 := ⟨_, rfl⟩
            rw [hE1] at hd hc1
            have HE1 := Lib.hid hE1
            clear hE1
            go_wp2
            go_round
            case rel => exact ⟨q + 1, q + 1, by omega, Nat.le_refl _, by go_num, by go_num, by rw [HE1.out], HLE.out, fun j hj _ => by omega⟩
            case measure => simp [intOf]; omega
          · have hd : decide (endAt ss (q + 1) ≤ n) = false := decide_eq_false hle
            have HLE := Lib.hid hle
            clear hle
            obtain ⟨E1, hE1⟩ : ∃ E1, endAt ss (q + 1) = E1 := ⟨_, rfl⟩
            rw [hE1] at hd hc1
            have HE1 := Lib.hid hE1
            clear hE1
            go_wp2
            go_round
            case rel => exact ⟨q + 1, m, by omega, by omega, by go_num, rfl, rfl, hmn, fun j hj hjn => by
              by_cases hjq : j = q
              · subst hjq; exact absurd hjn HLE.out
              · exact HM.out j (by omega) hjn⟩
            case measure => simp [intOf]; omega
        · obtain rfl : k = q := by omega
          have hlt2 : (ss.take k).length = k := by rw [List.length_take]; omega
          have hlen : ((ss.take k).take m).length = m := by rw [List.length_take, hlt2]; omega
          have hres := torn (ss.take k) H5.out n m (by omega) (by rw [endAt_take ss k m (by omega)]; exact hmn)
            (fun hml => by
              rw [hlt2] at hml
              rw [endAt_take ss k (m + 1) (by omega)]
              rcases Nat.lt_or_ge n (endAt ss (m + 1)) with h | h
              · exact h
              · have := HM.out m hml h; omega)
            (by rw [hlt2, endAt_take ss k k (Nat.le_refl _), ← HSZ.out]; exact hnS)
          rw [HSD.out, endAt_take ss k m (by omega)] at hres
          have HALL := Lib.hid (fun w => all_any (S.extract 0 n) w (by rw [ByteArray.size_extract]; omega))
          have hS3' : ∀ w2 : World, Below w.heap.size w w2 → Strs w2 A ((ss.take k).take m) := fun w2 hb hne => by
            obtain ⟨b, off, h1, h2, h3⟩ := HS.out.below hb (by rintro rfl; simp at hne)
            exact ⟨b, off, h1, h2, fun i hi => by rw [h3 i (by rw [hlen] at hi; omega), List.getElem_take, List.getElem_take]⟩
          have hmap : ∀ k, Option.map (fun x : Addr => x.add (0 * k)) A = A := fun k => by cases A <;> simp [Addr.add_zero']
          clear hlt2
          generalize endAt ss m = E at *
          by_cases heq : E = n
          · rw [if_pos heq] at hres
            subst heq
            go_wp2_with fail
            refine (HALL.out _).mono ?_
            rintro e w2 ⟨ts, i', er, v, hR, rfl, hown, hBA⟩
            obtain ⟨e1, e2, e3⟩ := hres.one hR
            subst e1 e2 e3
            rw [hlen] at hown
            obtain ⟨A2, cap2, rfl, _, hS2⟩ := own_strs hown
            have hK2 := K.out.trans (hBA.mono K.out.size)
            have HTX := Lib.hid (texts_any A2 A m cap2 cap ((ss.take k).take m) w2 hS2 (hS3' w2 hK2) hlen (by omega))
            have K2 := Lib.hid hK2
            clear hS2 hown hR hBA hres hK2
            go_wp2_with fail
            refine HTX.out.mono ?_
            rintro e w3 ⟨rfl, x, rfl⟩
            go_wp2_with fail
            refine (awake_any _).mono ?_
            rintro e w4 ⟨rfl, hBW⟩
            have K3 := Lib.hid ((below_drewN K2.out x).trans (hBW.mono K2.out.size))
            clear hBW
            go_wp2
            go_ret
            exact ⟨rfl, K3.out⟩
          · rw [if_neg heq] at hres
            have hq1 : ((E : Int) == (n : Int)) = false := by simp; omega
            go_wp2_with fail
            refine (HALL.out _).mono ?_
            rintro e w2 ⟨ts, i', er, v, hR, rfl, hown, hBA⟩
            obtain ⟨e1, e2, e3⟩ := hres.one hR
            subst e1 e2 e3
            rw [hlen] at hown
            obtain ⟨A2, cap2, rfl, _, hS2⟩ := own_strs hown
            have hK2 := K.out.trans (hBA.mono K.out.size)
            have HTX := Lib.hid (texts_any A2 A m cap2 cap ((ss.take k).take m) w2 hS2 (hS3' w2 hK2) hlen (by omega))
            have K2 := Lib.hid hK2
            clear hS2 hown hR hBA hres hK2
            go_wp2_with fail
            refine HTX.out.mono ?_
            rintro e w3 ⟨rfl, x, rfl⟩
            go_wp2_with fail
            refine (awake_any _).mono ?_
            rintro e w4 ⟨rfl, hBW⟩
            have K3 := Lib.hid ((below_drewN K2.out x).trans (hBW.mono K2.out.size))
            clear hBW
            go_wp2
            go_ret
            exact ⟨rfl, K3.out⟩
end Go.Proofs.Ytjjhbkmmkhkjnaa
