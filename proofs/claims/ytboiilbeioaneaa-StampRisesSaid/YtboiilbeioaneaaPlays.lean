/- The walks of awake and StampPlays. -/
import Derived.Test.YtboiilbeioaneaaRefAll
import Derived.Test.YtboiilbeioaneaaEnded
namespace Go.Proofs.Ytboiilbeioaneaa
open Go.RowKit Law

theorem nc_length (i : Int) (t : Nat) : (nc i t).length = 18 := rfl
theorem nvs_get (i0 : Nat) (ts : List Nat) (k j : Nat) (hk : k < ts.length) (hj : j < 18) : (nvs i0 ts)[k * 18 + j]? = (nc ((i0 + k : Nat) : Int) ts[k])[j]? := by
  induction ts generalizing i0 k with
  | nil => simp at hk
  | cons t r ih =>
    cases k with
    | zero =>
      rw [Nat.zero_mul, Nat.zero_add]
      simp only [nvs]
      rw [List.getElem?_append_left (by rw [nc_length]; exact hj)]
      rfl
    | succ k =>
      simp only [nvs]
      rw [List.getElem?_append_right (by rw [nc_length]; omega), nc_length, show (k + 1) * 18 + j - 18 = k * 18 + j by omega, ih (i0 + 1) k (by simpa using hk)]
      simp only [List.getElem_cons_succ]
      rw [show i0 + 1 + k = i0 + (k + 1) by omega]
/-- The notes of a slice. -/
def Notes (w : World) (a : Option Addr) (i0 : Nat) (ts : List Nat) : Prop :=
  ts ≠ [] → ∃ b off, a = some ⟨b, off, none⟩ ∧ b < w.heap.size ∧ ∀ k (h : k < ts.length), w.cell? ⟨b, off + k * 18, none⟩ = some (.int .i64 3) ∧ w.cell? ⟨b, off + k * 18 + 1, none⟩ = some (.int .i64 ((i0 + k : Nat) : Int)) ∧ w.cell? ⟨b, off + k * 18 + 2, none⟩ = some (.int .u64 (ts[k] : Int))
theorem Notes.below {w w' : World} {a : Option Addr} {i0 : Nat} {ts : List Nat} (h : Notes w a i0 ts) (hb : Below w.heap.size w w') : Notes w' a i0 ts := fun hne => by
  obtain ⟨b, off, rfl, hlt, hc⟩ := h hne
  exact ⟨b, off, rfl, Nat.lt_of_lt_of_le hlt hb.size, fun i hi => ⟨(hb.cell (p := ⟨b, off + i * 18, none⟩) hlt).trans (hc i hi).1, (hb.cell (p := ⟨b, off + i * 18 + 1, none⟩) hlt).trans (hc i hi).2.1, (hb.cell (p := ⟨b, off + i * 18 + 2, none⟩) hlt).trans (hc i hi).2.2⟩⟩
theorem own_notes {w : World} {base n i0 : Nat} {v : Value} {ts : List Nat} (hn : ts.length = n) (h : w.ownsRow base 48 18 v n (nvs i0 ts)) : ∃ A cap, v = .slice A n cap ∧ Notes w A i0 ts := by
  have hb := h.lt
  have hc := fun g => h.cells (g := g)
  rcases h.2 with ⟨rfl, h0⟩ | ⟨g, cap, cur, rfl, h1, _, h3, h4, _⟩
  · refine ⟨none, 0, by rw [h0], fun hne => absurd ?_ hne⟩
    exact List.eq_nil_of_length_eq_zero (by omega)
  · refine ⟨some ⟨g, 0, none⟩, cap, rfl, fun _ => ⟨g, 0, rfl, (hb g rfl).2, fun k hk => ⟨?_, ?_, ?_⟩⟩⟩
    · have := hc g rfl (k * 18 + 0) (.int .i64 3) (by rw [nvs_get i0 ts k 0 hk (by omega)]; rfl)
      simpa [Addr.add_lit] using this
    · have := hc g rfl (k * 18 + 1) (.int .i64 ((i0 + k : Nat) : Int)) (by rw [nvs_get i0 ts k 1 hk (by omega)]; rfl)
      simpa [Addr.add_lit] using this
    · have := hc g rfl (k * 18 + 2) (.int .u64 (ts[k] : Int)) (by rw [nvs_get i0 ts k 2 hk (by omega)]; rfl)
      simpa [Addr.add_lit] using this

set_option maxRecDepth 100000 in
theorem awake_any (w : World) : Calls Try.prog 6 #[] w fun e w' => e = .returned (.bool true) ∧ w = w' := by
  have H1 := Lib.hid (fun w => next_any 5 3 w (by omega) (by omega))
  have H2 := Lib.hid (fun w => next_any 5 9 w (by omega) (by omega))
  have H3 := Lib.hid (fun w => next_any 18446744073709551615 0 w (by omega) (by omega))
  rw [show nxE 5 3 = .returned (.tuple #[.int .u64 6, .int .i64 0]) by simp [nxE, nx]] at H1
  rw [show nxE 5 9 = .returned (.tuple #[.int .u64 9, .int .i64 0]) by simp [nxE, nx]] at H2
  rw [show nxE 18446744073709551615 0 = .returned (.tuple #[.int .u64 0, .int .i64 16]) by simp [nxE]] at H3
  go_enter Try.func6, Try.ntmps6
  go_wp2_with fail
  refine (H1.out _).mono ?_
  rintro e w1 ⟨rfl, rfl⟩
  go_wp2_with fail
  refine (H2.out _).mono ?_
  rintro e w1 ⟨rfl, rfl⟩
  go_wp2_with fail
  refine (H3.out _).mono ?_
  rintro e w1 ⟨rfl, rfl⟩
  go_wp2
  go_ret
  exact ⟨rfl, rfl⟩

theorem nxE_two (last floor : Nat) : ∃ a e : Int, nxE last floor = .returned (.tuple #[.int .u64 a, .int .i64 e]) := by
  unfold nxE
  split
  · exact ⟨_, _, rfl⟩
  · exact ⟨_, _, rfl⟩

set_option maxHeartbeats 2000000 in
set_option maxRecDepth 100000 in
theorem plays_any (A : Option Addr) (len cap : Nat) (es : List Ent) (nn : Int) (floor last : Nat) (w : World) (h : Ents w A es) (hl : es.length = len) (hm : len ≤ 140737488351232) (hnn : -9223372036854775808 ≤ nn ∧ nn ≤ 9223372036854775807)
    (hf : floor < 18446744073709551616) (hla : last < 18446744073709551616) (hts : ∀ e ∈ es, 0 ≤ e.ts ∧ e.ts < 18446744073709551616) (ho : ∀ e ∈ es, e.ops.length ≤ 140737488351232) :
    Calls Try.prog 3 #[.slice A len cap, .int .i64 nn, .int .u64 floor, .int .u64 last] w fun e w' => e = .returned (.bool true) ∧ Below w.heap.size w w' := by
  have H5 := Lib.hid (much_real A len cap es w h hl hm ho)
  have H1 := Lib.hid (fun w => next_any last floor w hla hf)
  have H2 := Lib.hid (fun w => refNext_any last floor w hla hf)
  have HA := Lib.hid (fun w h h80 => (callsIn_wide (n := 3)).1 (all_in 3 (Nat.le_refl _) A len cap es nn floor w h hl h80 hnn hf hts))
  have HR := Lib.hid (fun w h h80 => refAll_any A len cap es nn floor w h hl h80 hnn hf hts)
  have HE := Lib.hid (fun w h => ended_any A len cap es nn w h hl (by omega) hnn)
  have HF := Lib.hid (fun w h => refEnded_any A len cap es nn w h hl (by omega) hnn)
  have HH := Lib.hid h
  obtain ⟨a, e0, hae⟩ := nxE_two last floor
  rw [hae] at H1 H2
  generalize stp (tss es) = st at *
  generalize (lastT (tss es)).toNat = lst at *
  generalize endB es nn = eb at *
  clear hae h hts ho hl
  have q1 : (a == a) = true := by simp
  have q2 : (e0 == e0) = true := by simp
  have q3 : (eb == eb) = true := by simp
  go_enter Try.func3, Try.ntmps3
  go_wp2_with fail
  refine H5.out.mono ?_
  rintro e w1 ⟨m, rfl, hmn, rfl⟩
  by_cases h80 : m ≤ 80
  · have hlen : len ≤ 80 := by omega
    go_wp2_with fail
    refine (H1.out _).mono ?_
    rintro e w1 ⟨rfl, rfl⟩
    go_wp2_with fail
    refine (H2.out _).mono ?_
    rintro e w1 ⟨rfl, rfl⟩
    go_wp2_with fail
    refine (HA.out _ HH.out hlen).mono ?_
    rintro e w2 ⟨ts, v, hN, rfl, hown, hB⟩
    obtain ⟨A1, cap1, rfl, hS1⟩ := own_notes rfl hown
    have HN := Lib.hid hN
    have HS1 := Lib.hid hS1
    have K2 := Lib.hid hB
    clear hown hN hS1 hB
    go_wp2_with fail
    refine (HR.out _ (HH.out.below K2.out) hlen).mono ?_
    rintro e w3 ⟨us, v2, hN2, rfl, hown2, hB⟩
    obtain rfl := HN.out.one hN2
    obtain ⟨A2, cap2, rfl, hS2⟩ := own_notes rfl hown2
    have HS2 := Lib.hid hS2
    have K3 := Lib.hid (K2.out.trans (hB.mono K2.out.size))
    have HS1' := Lib.hid (HS1.out.below hB)
    clear hown2 hN2 hS2 hB
    have hfew : ts.length ≤ 80 := by
      obtain ⟨n1, n2, n3⟩ := HN.out
      by_cases c : min nn (len : Int) ≤ (st : Int)
      · rw [n2 c]; simp
      · have := (n3 (by omega)).1
        omega
    go_wp2_with fail
    refine (HE.out _ (HH.out.below K3.out)).mono ?_
    rintro e w4 ⟨rfl, rfl⟩
    go_wp2_with fail
    refine (HF.out _ (HH.out.below K3.out)).mono ?_
    rintro e w4 ⟨rfl, rfl⟩
    go_wp2
    obtain ⟨w0, rfl⟩ : ∃ w0 : World, w0 = w3 := ⟨_, rfl⟩
    go_loopw [15] (fun i wr => ∃ (k m : Nat), k ≤ ts.length ∧ i = .int .i64 (k : Int) ∧ wr = w0.drewN m) (fun i _ => ts.length - (intOf i).toNat)
    case atStart => exact ⟨0, 0, Nat.zero_le _, rfl, rfl⟩
    case round =>
      obtain ⟨k, m, hk, rfl, rfl⟩ := hrel
      by_cases hlt : k < ts.length
      · obtain ⟨b, off, rfl, hb, hc⟩ := HS1'.out (by rintro rfl; simp at hlt)
        obtain ⟨b', off', rfl, hb', hc'⟩ := HS2.out (by rintro rfl; simp at hlt)
        obtain ⟨c1, c2, c3⟩ := hc k hlt
        obtain ⟨d1, d2, d3⟩ := hc' k hlt
        have k0 : (0 : Int) ≤ (k : Int) := by omega
        have k1 : (k : Int) < (ts.length : Int) := by omega
        generalize ((st + k : Nat) : Int) = y at *
        generalize (ts[k] : Int) = x at *
        have x1 : (x == x) = true := by simp
        have y1 : (y == y) = true := by simp
        clear hc hc'
        go_wp2
        go_quiet (fail)
        go_wp2
        go_roundw
        case rel => exact ⟨k + 1, _, by omega, by go_num, rfl⟩
        case measure => simp [intOf]; omega
      · go_wp2_with fail
        refine (awake_any _).mono ?_
        rintro e w8 ⟨rfl, rfl⟩
        go_wp2
        go_ret
        exact ⟨rfl, below_drewN K3.out _⟩
  · go_wp2_with fail
    refine (awake_any _).mono ?_
    rintro e w8 ⟨rfl, rfl⟩
    go_wp2
    go_ret
    exact ⟨rfl, Below.refl _ _⟩
theorem plays_int (A : Option Addr) (len cap : Nat) (es : List Ent) (nn : Int) (floor last : Int) (w : World) (h : Ents w A es) (hl : es.length = len) (hm : len ≤ 140737488351232) (hnn : -9223372036854775808 ≤ nn ∧ nn ≤ 9223372036854775807)
    (hf : 0 ≤ floor ∧ floor < 18446744073709551616) (hla : 0 ≤ last ∧ last < 18446744073709551616) (hts : ∀ e ∈ es, 0 ≤ e.ts ∧ e.ts < 18446744073709551616) (ho : ∀ e ∈ es, e.ops.length ≤ 140737488351232) :
    Calls Try.prog 3 #[.slice A len cap, .int .i64 nn, .int .u64 floor, .int .u64 last] w fun e w' => e = .returned (.bool true) ∧ Below w.heap.size w w' := by
  obtain ⟨f, rfl⟩ := Int.eq_ofNat_of_zero_le hf.1
  obtain ⟨l, rfl⟩ := Int.eq_ofNat_of_zero_le hla.1
  exact plays_any A len cap es nn f l w h hl hm hnn (by omega) (by omega) hts ho
end Go.Proofs.Ytboiilbeioaneaa
