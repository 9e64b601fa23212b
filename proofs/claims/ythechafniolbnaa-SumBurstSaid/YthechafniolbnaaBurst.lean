/- The walk of SumBurst: a row of bits turned. -/
import Derived.Test.YthechafniolbnaaThree
namespace Go.Proofs.Ythechafniolbnaa
open Go.RowKit Crc

/-- A row of bytes that may be written. -/
structure Row (w : World) (g : Nat) (l : List Nat) : Prop where
  lt : g < w.heap.size
  cell : ∀ i, (h : i < l.length) → w.cell? ⟨g, i, none⟩ = some (.int .u8 (l[i] : Nat))
  free : ∀ i, i < l.length → w.frozen? ⟨g, i, none⟩ = false
theorem Row.below {w w' : World} {g : Nat} {l : List Nat} (h : Row w g l) (hb : Below w.heap.size w w') : Row w' g l :=
  ⟨Nat.lt_of_lt_of_le h.lt hb.size, fun i hi => (hb.cell (p := ⟨g, i, none⟩) h.lt).trans (h.cell i hi), fun i hi => (hb.frozen (p := ⟨g, i, none⟩) h.lt).trans (h.free i hi)⟩
theorem Row.drew {w : World} {g : Nat} {l : List Nat} (h : Row w g l) : Row w.drew g l := ⟨h.lt, h.cell, h.free⟩
theorem Row.set_ {w : World} {g : Nat} {l : List Nat} (h : Row w g l) (k v : Nat) (hk : k < l.length) : Row (w.setCell ⟨g, k, none⟩ (.int .u8 (v : Int))) g (l.set k v) := by
  refine ⟨by simpa [World.setCell] using h.lt, fun i hi => ?_, fun i hi => ?_⟩
  · have hi' : i < l.length := by simpa using hi
    by_cases hik : k = i
    · subst hik
      rw [World.cell?_setCell_same w _ _ (h.cell k hk)]
      simp
    · rw [World.cell?_setCell_other w _ _ _ (by intro e; injection e with _ e2 _; exact hik e2), h.cell i hi', List.getElem_set_ne hik]
  · rw [World.frozen?_setCell]
    exact h.free i (by simpa using hi)
theorem row_of (W : World) (g : Nat) (cs : Array Value) (lo hi : Nat) (l : List Nat) (h : W.heap[g]? = some (.cells cs 5 (lo, hi))) (hl : l.length ≤ lo) (hc : ∀ i, (hi : i < l.length) → cs[i]? = some (.int .u8 (l[i] : Nat))) : Row W g l := by
  refine ⟨?_, fun i hi => (cell_of_row W g i cs 5 _ h).trans (hc i hi), fun i hi => ?_⟩
  · rcases Nat.lt_or_ge g W.heap.size with hlt | hge
    · exact hlt
    · rw [Array.getElem?_eq_none hge] at h; cases h
  · simp [World.frozen?, h]
    omega
theorem bytes_conv (s : ByteArray) (w : World) : ∃ cap w', (convert 9 25 (.string s)).run Try.prog w = .ok (.slice (some ⟨w.heap.size, 0, none⟩) s.size cap) w' ∧ Row w' w.heap.size (bl s) ∧ Below w.heap.size w w' := by
  have e : s.data.size = s.size := rfl
  refine ⟨_, _, run_bytes_of_string w 9 25 5 s Try.underlying9 Try.underlying25 Try.underlying5, row_of _ _ _ _ _ _ (heap_alloc_new w.drew _) ?_ (fun i hi => ?_), (Below.refl _ _).drew.alloc (Nat.le_refl _) _⟩
  · rw [bl_length]; simp only [bytesRow, Array.size_append, Array.size_map, e]; omega
  · have hi' : i < s.data.size := by rw [bl_length] at hi; exact hi
    rw [bytesRow_at s _ i hi', bl_get s i hi']
    rfl
theorem row_conv {w : World} {g n cap : Nat} {l : List Nat} (h : Row w g l) (hl : l.length = n) : (convert 25 9 (.slice (some ⟨g, 0, none⟩) n cap)).run Try.prog w = .ok (.string (ofL l)) w :=
  conv_row w g n cap l hl h.cell

/-- The row as far as its bits are turned. -/
structure Turned (s : ByteArray) (f i : Nat) (l : List Nat) (q : Nat) : Prop where
  len : l.length = s.size
  low : ∀ b ∈ l, b < 256
  val : val l = val (bl s) ^^^ (2 ^ f * q)
  lt : q < 2 ^ i
  odd : 0 < i → q % 2 = 1

theorem turn_none {s : ByteArray} {f k q : Nat} {l : List Nat} (h : Turned s f k l q) (h0 : ¬ k = 0) : Turned s f (k + 1) l q :=
  ⟨h.len, h.low, h.val, Nat.lt_trans h.lt (Nat.pow_lt_pow_right (by omega) (by omega)), fun _ => h.odd (by omega)⟩
theorem flip_lt (b k : Nat) (hb : b < 256) : b ^^^ 2 ^ (k % 8) < 256 := Nat.xor_lt_two_pow (n := 8) hb (Nat.pow_lt_pow_right (by omega) (by omega))
theorem turn_one {s : ByteArray} {f k q : Nat} {l : List Nat} (h : Turned s f k l q) (b : Nat) (hj : (f + k) / 8 < l.length) (hb : l[(f + k) / 8] = b) :
    Turned s f (k + 1) (l.set ((f + k) / 8) (b ^^^ 2 ^ ((f + k) % 8))) (q ^^^ 2 ^ k) := by
  have hbl : b < 256 := hb ▸ h.low _ (List.getElem_mem hj)
  refine ⟨by rw [List.length_set]; exact h.len, fun x hx => ?_, ?_, ?_, fun _ => ?_⟩
  · rcases List.mem_or_eq_of_mem_set hx with hx | rfl
    · exact h.low x hx
    · exact flip_lt b _ hbl
  · have := val_flip l h.low (f + k) hj
    rw [List.getElem?_eq_getElem hj, hb, Option.getD_some] at this
    rw [this, h.val, Nat.xor_assoc, pow_more]
  · exact Nat.xor_lt_two_pow (Nat.lt_trans h.lt (Nat.pow_lt_pow_right (by omega) (by omega))) (Nat.pow_lt_pow_right (by omega) (by omega))
  · have hx : (q ^^^ 2 ^ k) % 2 = (q % 2 ^^^ 2 ^ k % 2) := Nat.xor_mod_two_pow (n := 1)
    rw [hx]
    by_cases h0 : k = 0
    · subst h0
      have hq : q = 0 := by have := h.lt; omega
      subst hq
      rfl
    · rw [h.odd (by omega), show 2 ^ k % 2 = 0 by rw [show k = (k - 1) + 1 by omega, Nat.pow_succ]; omega]
      rfl
theorem turned_sum {s : ByteArray} {f k q : Nat} {l : List Nat} (h : Turned s f k l q) (h0 : 0 < k) (h32 : k ≤ 32) (hf : f < 8 * s.size) : sum l ≠ sum (bl s) := by
  intro he
  have hq : 0 < q := by have := h.odd h0; omega
  have hq2 : q < 2 ^ 32 := Nat.lt_of_lt_of_le h.lt (Nat.pow_le_pow_right (by omega) h32)
  have hb := burst (bl s) l (bl_lt s) h.low (by rw [h.len, bl_length]) 4294967295 f q (by rw [bl_length]; exact hf) hq hq2 h.val
  apply hb
  unfold sum at he
  have e : ∀ y : Nat, 4294967295 ^^^ (4294967295 ^^^ y) = y := fun y => by rw [← Nat.xor_assoc, Nat.xor_self, Nat.zero_xor]
  rw [← e (crc 4294967295 l), he, e]
theorem flip_bits (b m : Nat) (hb : b < 256) : bits .xor .u8 (b : Int) (2 ^ (m % 8) % 256) = ((b ^^^ 2 ^ (m % 8) : Nat) : Int) := by
  have hlt : 2 ^ (m % 8) < 256 := Nat.pow_lt_pow_right (a := 2) (n := 8) (m := m % 8) (by omega) (Nat.mod_lt _ (by omega))
  have e : ((2 : Int) ^ (m % 8) % 256) = ((2 ^ (m % 8) : Nat) : Int) := by
    rw [show ((2 : Int) ^ (m % 8)) = ((2 ^ (m % 8) : Nat) : Int) from (Int.natCast_pow 2 _).symm]
    generalize 2 ^ (m % 8) = t at *
    omega
  rw [e]
  exact u8_xor_nat b _ hb hlt

set_option maxHeartbeats 1000000 in
set_option maxRecDepth 100000 in
theorem burst_any (s : ByteArray) (a p : Nat) (w : World) (hs : s.size ≤ 140737488351232) (ha : a < 65536) (hp : p < 4294967296) :
    Calls Try.prog 3 #[.string s, .int .u16 a, .int .u32 p] w fun e w' => e = .returned (.bool true) ∧ Below w.heap.size w w' := by
  obtain ⟨cap, w1, hconv, hrow, hbel⟩ := bytes_conv s w
  have HR := Lib.hid hrow
  have HB := Lib.hid hbel
  clear hrow hbel
  cases hem : s.toList.isEmpty
  case true =>
    go_enter Try.func3, Try.ntmps3
    go_wp2_with fail
    refine (awake_any _).mono ?_
    rintro e w5 ⟨rfl, hB⟩
    have K := Lib.hid hB
    clear hB
    go_wp2
    go_ret
    exact ⟨rfl, K.out⟩
  case false =>
    have h0 : ¬ s.size = 0 := by
      intro h0
      have : s = ByteArray.empty := ByteArray.ext (Array.eq_empty_of_size_eq_zero h0)
      subst this
      unfold ByteArray.toList ByteArray.toList.loop at hem
      simp at hem
    have hm : IntKind.wrap .i64 (8 * (s.size : Int)) = ((8 * s.size : Nat) : Int) := by rw [IntWalk.i64_in _ (by omega)]; omega
    have hmod : (a : Int) % (8 * (s.size : Int)) = ((a % (8 * s.size) : Nat) : Int) := by rw [Int.natCast_emod]; rfl
    have hf : a % (8 * s.size) < 8 * s.size := Nat.mod_lt _ (by omega)
    generalize a % (8 * s.size) = f at *
    go_enter Try.func3, Try.ntmps3
    go_upto_region 6 with fail
    simp only [hmod]
    go_loopw [9, 10] (fun i _ wr => ∃ (k q : Nat) (l : List Nat), k ≤ 32 ∧ k + f ≤ 8 * s.size ∧ i = .int .i64 (k : Int) ∧ Turned s f k l q ∧ Row wr w.heap.size l ∧ Below w.heap.size w wr) (fun i _ _ => 32 - (intOf i).toNat)
    case atStart => exact ⟨0, 0, bl s, by omega, by omega, rfl, ⟨bl_length s, bl_lt s, by rw [Nat.mul_zero, Nat.xor_zero], by decide, fun h => absurd h (by decide)⟩, HR.out, HB.out⟩
    case round =>
      obtain ⟨k, q, l, hk, hkf, rfl, hT, hR, hB⟩ := hrel
      have HT := Lib.hid hT
      have HRR := Lib.hid hR
      have HBB := Lib.hid hB
      clear hT hR hB
      by_cases h32 : k < 32
      · by_cases h8 : k + f < 8 * s.size
        · by_cases hk0 : k = 0
          · have hd : ((k : Int) == 0) = true := by simpa using hk0
            have HK0 := Lib.hid hk0
            clear hk0
            have hjs : (f + k) / 8 < s.size := by omega
            have hjl : (f + k) / 8 < l.length := by rw [HT.out.len]; exact hjs
            have hc := HRR.out.cell ((f + k) / 8) hjl
            have hz := HRR.out.free ((f + k) / 8) hjl
            have hbl := HT.out.low _ (List.getElem_mem hjl)
            obtain ⟨b, hb⟩ : ∃ b, l[(f + k) / 8] = b := ⟨_, rfl⟩
            have HT2 := Lib.hid (turn_one HT.out b hjl hb)
            rw [hb] at hc hbl
            have HR2 := Lib.hid (HRR.out.set_ ((f + k) / 8) (b ^^^ 2 ^ ((f + k) % 8)) hjl)
            have HB2 := Lib.hid (HBB.out.setCell (p := ⟨w.heap.size, (f + k) / 8, none⟩) (Nat.le_refl _) (.int .u8 ((b ^^^ 2 ^ ((f + k) % 8) : Nat) : Int)))
            have hfl := flip_bits b (f + k) hbl
            clear hb
            generalize b ^^^ 2 ^ ((f + k) % 8) = v at *
            go_wp2
            go_roundw
            case rel => exact ⟨k + 1, _, _, by omega, by omega, by go_num, HT2.out, HR2.out, HB2.out⟩
            case measure => simp [intOf]; omega
          · have hd : ((k : Int) == 0) = false := by simpa using hk0
            have hand : bits .and .u32 ((p : Int) / 2 ^ k) 1 = ((p / 2 ^ k % 2 : Nat) : Int) := by
              have e : ((p : Int) / 2 ^ k) = ((p / 2 ^ k : Nat) : Int) := by rw [Int.natCast_ediv, Int.natCast_pow]; rfl
              rw [e]
              exact and_one _ (Nat.lt_of_le_of_lt (Nat.div_le_self _ _) hp)
            by_cases hbit : p / 2 ^ k % 2 = 1
            · rw [hbit] at hand
              have hjs : (f + k) / 8 < s.size := by omega
              have hjl : (f + k) / 8 < l.length := by rw [HT.out.len]; exact hjs
              have hc := HRR.out.cell ((f + k) / 8) hjl
              have hz := HRR.out.free ((f + k) / 8) hjl
              have hbl := HT.out.low _ (List.getElem_mem hjl)
              obtain ⟨b, hb⟩ : ∃ b, l[(f + k) / 8] = b := ⟨_, rfl⟩
              have HT2 := Lib.hid (turn_one HT.out b hjl hb)
              rw [hb] at hc hbl
              have HR2 := Lib.hid (HRR.out.set_ ((f + k) / 8) (b ^^^ 2 ^ ((f + k) % 8)) hjl)
              have HB2 := Lib.hid (HBB.out.setCell (p := ⟨w.heap.size, (f + k) / 8, none⟩) (Nat.le_refl _) (.int .u8 ((b ^^^ 2 ^ ((f + k) % 8) : Nat) : Int)))
              have hfl := flip_bits b (f + k) hbl
              clear hb
              generalize b ^^^ 2 ^ ((f + k) % 8) = v at *
              go_wp2
              go_roundw
              case rel => exact ⟨k + 1, _, _, by omega, by omega, by go_num, HT2.out, HR2.out, HB2.out⟩
              case measure => simp [intOf]; omega
            · rw [show p / 2 ^ k % 2 = 0 by omega] at hand
              have HT2 := Lib.hid (turn_none HT.out hk0)
              go_wp2
              go_roundw
              case rel => exact ⟨k + 1, _, _, by omega, by omega, by go_num, HT2.out, HRR.out, HBB.out⟩
              case measure => simp [intOf]; omega
        · have hsn : ((sum (bl (ofL l)) : Nat) : Int) ≠ ((sum (bl s) : Nat) : Int) := by
            rw [bl_ofL l HT.out.low]
            exact fun he => turned_sum HT.out (by omega) hk hf (by omega)
          have hsb : (((sum (bl (ofL l)) : Nat) : Int) == ((sum (bl s) : Nat) : Int)) = false := by simpa using hsn
          have hsc : (((sum (bl (ofL l)) : Nat) : Int) != ((sum (bl s) : Nat) : Int)) = true := by simpa using hsn
          have HX := Lib.hid (fun w => sum_any (ofL l) w (by rw [ofL_size, HT.out.len]; omega))
          have HS := Lib.hid (fun w => sum_any s w (by omega))
          have hcv := row_conv (cap := cap) HRR.out HT.out.len
          clear hsn
          generalize sum (bl (ofL l)) = x1 at *
          generalize sum (bl s) = x2 at *
          go_wp2_with fail
          refine (HX.out _).mono ?_
          rintro e w2 ⟨rfl, hB2⟩
          have K2 := Lib.hid (HBB.out.trans (hB2.mono HBB.out.size))
          clear hB2
          go_wp2_with fail
          refine (HS.out _).mono ?_
          rintro e w3 ⟨rfl, hB3⟩
          have K3 := Lib.hid (K2.out.trans (hB3.mono K2.out.size))
          clear hB3
          go_wp2_with fail
          refine (awake_any _).mono ?_
          rintro e w4 ⟨rfl, hB4⟩
          have K4 := Lib.hid (K3.out.trans (hB4.mono K3.out.size))
          clear hB4
          go_wp2
          go_ret
          exact ⟨rfl, K4.out⟩
      · have hsn : ((sum (bl (ofL l)) : Nat) : Int) ≠ ((sum (bl s) : Nat) : Int) := by
          rw [bl_ofL l HT.out.low]
          exact fun he => turned_sum HT.out (by omega) hk hf (by omega)
        have hsb : (((sum (bl (ofL l)) : Nat) : Int) == ((sum (bl s) : Nat) : Int)) = false := by simpa using hsn
        have hsc : (((sum (bl (ofL l)) : Nat) : Int) != ((sum (bl s) : Nat) : Int)) = true := by simpa using hsn
        have HX := Lib.hid (fun w => sum_any (ofL l) w (by rw [ofL_size, HT.out.len]; omega))
        have HS := Lib.hid (fun w => sum_any s w (by omega))
        have hcv := row_conv (cap := cap) HRR.out HT.out.len
        clear hsn
        generalize sum (bl (ofL l)) = x1 at *
        generalize sum (bl s) = x2 at *
        go_wp2_with fail
        refine (HX.out _).mono ?_
        rintro e w2 ⟨rfl, hB2⟩
        have K2 := Lib.hid (HBB.out.trans (hB2.mono HBB.out.size))
        clear hB2
        go_wp2_with fail
        refine (HS.out _).mono ?_
        rintro e w3 ⟨rfl, hB3⟩
        have K3 := Lib.hid (K2.out.trans (hB3.mono K2.out.size))
        clear hB3
        go_wp2_with fail
        refine (awake_any _).mono ?_
        rintro e w4 ⟨rfl, hB4⟩
        have K4 := Lib.hid (K3.out.trans (hB4.mono K3.out.size))
        clear hB4
        go_wp2
        go_ret
        exact ⟨rfl, K4.out⟩
theorem burst_law (s : ByteArray) (a p : Int) (w : World) (hs : s.size ≤ 140737488351232) (ha : 0 ≤ a ∧ a < 65536) (hp : 0 ≤ p ∧ p < 4294967296) :
    Calls Try.prog 3 #[.string s, .int .u16 a, .int .u32 p] w fun e w' => e = .returned (.bool true) ∧ Below w.heap.size w w' := by
  obtain ⟨k, rfl⟩ := Int.eq_ofNat_of_zero_le ha.1
  obtain ⟨m, rfl⟩ := Int.eq_ofNat_of_zero_le hp.1
  exact burst_any s k m w hs (by omega) (by omega)
end Go.Proofs.Ythechafniolbnaa
