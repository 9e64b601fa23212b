/- The walk of SumPieces: in any pieces a text's sum is that of the whole. -/
import Derived.Test.YthechafniolbnaaPlays
import Derived.SliceStrings
import Derived.SizedLaws
import Derived.ProofKit
import Derived.OpenShut
import Derived.Laws.Concat
namespace Go.Proofs.Ythechafniolbnaa
open Go.RowKit Crc Go.ChangeShapes Go.WideShapes Go.ChangeAt

/-- The texts, one behind the other. -/
def cat (l : List ByteArray) : ByteArray := l.foldl (· ++ ·) ByteArray.empty
theorem cat_nil : cat [] = ByteArray.empty := rfl
theorem cat_snoc (l : List ByteArray) (x : ByteArray) : cat (l ++ [x]) = cat l ++ x := by unfold cat; rw [List.foldl_append]; rfl
theorem bl_append (a b : ByteArray) : bl (a ++ b) = bl a ++ bl b := by
  unfold bl
  rw [ByteArray.data_append, Array.toList_append, List.map_append]
theorem sum_snoc (a x : ByteArray) : 4294967295 ^^^ crc (4294967295 ^^^ sum (bl a)) (bl x) = sum (bl (a ++ x)) := by
  have e : ∀ y : Nat, 4294967295 ^^^ (4294967295 ^^^ y) = y := fun y => by rw [← Nat.xor_assoc, Nat.xor_self, Nat.zero_xor]
  rw [bl_append]
  unfold sum
  rw [e, crc_append]
theorem sum_lt (a : ByteArray) : sum (bl a) < 4294967296 := by
  unfold sum
  exact Nat.xor_lt_two_pow (n := 32) (by omega) (crc_lt _ (bl_lt a) _ (by omega))

/-- The strings of a slice. -/
def Strs (w : World) (a : Option Addr) (ss : List ByteArray) : Prop :=
  ss ≠ [] → ∃ b off, a = some ⟨b, off, none⟩ ∧ b < w.heap.size ∧ ∀ i (h : i < ss.length), w.cell? ⟨b, off + i, none⟩ = some (.string ss[i])

section
variable {H : Type} {enc : TypeId × Value → H} {W : World}
theorem sized_strs {P : Program} {ts : List TypeId} {ds : List (DataW H)} (h : (DataW.weightsEach P ts ds).all (· ≤ reachBytes) = true) {j : Nat} {t e : TypeId} {zs : List ByteArray} {spare : List (DataW H)}
    (ht : ts[j]? = some t) (hd : ds[j]? = some (.slice (strs zs) spare)) (hu : P.underlying t = some (.slice e)) : ∀ s ∈ zs, s.size ≤ 140737488351232 := by
  intro s hs
  have hall : ∀ (zs : List ByteArray), s ∈ zs → s.data.toList.length ∈ DataW.weightsAll P e (strs (H := H) zs) := by
    intro zs
    induction zs with
    | nil => intro hs; cases hs
    | cons z r ih =>
      intro hs
      simp only [strs, List.map_cons, DataW.weightsAll, List.mem_append]
      rcases List.mem_cons.1 hs with rfl | hs
      · exact Or.inl (by simp [DataW.weights])
      · exact Or.inr (ih hs)
  have := List.all_eq_true.1 h _ (DataW.weights_mem_each ht hd s.data.toList.length (by simp only [DataW.weights, hu, List.mem_cons, List.mem_append]; exact .inr (.inl (hall zs hs))))
  have h2 : s.data.toList.length ≤ reachBytes := by simpa using this
  have h3 : s.data.toList.length = s.size := rfl
  rw [h3] at h2
  exact h2
theorem open_strs {ts : List TypeId} {d : DataW H} {ds : List (DataW H)} (hsz : (DataW.weightsEach Try.prog (35 :: ts) (d :: ds)).all (· ≤ reachBytes) = true)
    {a : Option Addr} {len cap : Nat} {p : List MemPlace} (h : DataW.Trod enc Try.prog W 0 (fun _ => true) true 35 (.slice a len cap) d p) :
    ∃ ss : List ByteArray, Strs W a ss ∧ ss.length = len ∧ len ≤ 9223372036854775807 ∧ ∀ s ∈ ss, s.size ≤ 140737488351232 := by
  obtain ⟨fuel, hf⟩ := h
  rcases open_strings Try.underlying35 Try.underlying9 (by kernel_rfl) hf with ⟨hcs, _⟩ | ⟨x, l, c, zs, hcs, _, hl, hm, hz, hx, hcell, hwz⟩
  · simp [Value.cells] at hcs
    obtain ⟨rfl, rfl, rfl⟩ := hcs
    exact ⟨[], fun h => absurd rfl h, rfl, by omega, by simp⟩
  · simp [Value.cells] at hcs
    obtain ⟨rfl, rfl, rfl⟩ := hcs
    simp only [if_true] at hz
    injection hx with hx1 hx2
    subst hx1
    refine ⟨zs.take len, fun hne => ?_, by simp; omega, by have : maxLen = 9223372036854775807 := rfl; omega, sized_strs hsz (j := 0) rfl rfl Try.underlying35⟩
    have hpos : 0 < len := by
      rcases Nat.eq_zero_or_pos len with h0 | h0
      · subst h0; exact absurd rfl hne
      · exact h0
    obtain ⟨b, off, spot⟩ := x
    have hc := hcell 0 (by omega)
    have hspot : spot = none := by simpa [Addr.add] using World.cell?_spot hc
    subst hspot
    refine ⟨b, off, rfl, World.block_lt_of_cell? W _ hc, fun i hi => ?_⟩
    have hi' : i < len ∧ i < zs.length := by simp at hi; omega
    have hci := hcell i hi'.2
    rw [Addr.add_lit] at hci
    rw [hci, List.getElem_take, List.getD_eq_getElem?_getD, List.getElem?_eq_getElem hi'.2]
    rfl
end

theorem cat_size (B : Nat) (ss : List ByteArray) (hb : ∀ s ∈ ss, s.size ≤ B) (k : Nat) : (cat (ss.take k)).size ≤ k * B := by
  induction k with
  | zero => rw [List.take_zero, cat_nil, ByteArray.size_empty]; exact Nat.zero_le _
  | succ k ih =>
    rw [Nat.succ_mul]
    by_cases hlt : k < ss.length
    · rw [List.take_succ_eq_append_getElem hlt, cat_snoc, ByteArray.size_append]
      have := hb _ (List.getElem_mem hlt)
      omega
    · rw [List.take_of_length_le (by omega)]
      rw [List.take_of_length_le (by omega)] at ih
      omega

set_option maxHeartbeats 1000000 in
set_option maxRecDepth 100000 in
theorem pieces_any (a : Option Addr) (len cap : Nat) (ss : List ByteArray) (w : World) (hs : Strs w a ss) (hn : ss.length = len) (hm : len ≤ 9223372036854775807) (hb : ∀ s ∈ ss, s.size ≤ 140737488351232) :
    Calls Try.prog 6 #[.slice a len cap] w fun e w' => e = .returned (.bool true) ∧ Below w.heap.size w w' := by
  have HS := Lib.hid hs
  have HN := Lib.hid hn
  have HZ := Lib.hid (fun k (hk : k ≤ 30) => cat_size _ ss hb k)
  have HL := Lib.hid hb
  clear hs hn hb
  go_enter Try.func6, Try.ntmps6
  go_wp2_with fail
  refine (new_made _).mono ?_
  rintro e w1 ⟨rfl, hM, hB⟩
  have K := Lib.hid hB
  have HM := Lib.hid hM
  clear hM hB
  go_wp2
  go_loopw [4, 5, 6] (fun c t i wr => ∃ k : Nat, k ≤ len ∧ k ≤ 30 ∧ i = .int .i64 (k : Int) ∧ c = .int .u32 ((sum (bl (cat (ss.take k))) : Nat) : Int) ∧ t = .string (cat (ss.take k)) ∧ Mk wr w.heap.size k ∧ Below w.heap.size w wr) (fun _ _ i _ => 30 - (intOf i).toNat)
  case atStart => exact ⟨0, by omega, by omega, rfl, by rw [List.take_zero, cat_nil]; rfl, by rw [List.take_zero, cat_nil]; rfl, HM.out, K.out⟩
  case round =>
    obtain ⟨k, hk, hk30, rfl, rfl, rfl, hM, hB⟩ := hrel
    have HM := Lib.hid hM
    have K := Lib.hid hB
    clear hM hB
    by_cases hkl : k < len
    · by_cases hk3 : k < 30
      · have hlt : k < ss.length := by rw [HN.out]; exact hkl
        obtain ⟨b, off, rfl, hbl, hcell⟩ := HS.out (by rintro rfl; simp at hlt)
        have hc := (K.out.cell (p := ⟨b, off + k, none⟩) hbl).trans (hcell k hlt)
        have hsz := HL.out _ (List.getElem_mem hlt)
        have hz1 := HZ.out k hk30
        have hcat : cat (ss.take k) ++ ss[k] = cat (ss.take (k + 1)) := by rw [List.take_succ_eq_append_getElem hlt, cat_snoc]
        have hu : IntKind.wrap .i64 ((k : Int) + 1) = (k : Int) + 1 := IntWalk.i64_in _ (by omega)
        have HU := Lib.hid hu
        have hcl := sum_lt (cat (ss.take k))
        have HA := Lib.hid (fun wr hm => add_any w.heap.size (k : Int) (sum (bl (cat (ss.take k)))) ss[k] wr hm HU.out hcl (by omega))
        rw [sum_snoc, hcat] at HA
        clear hu hcl
        have hsum : (cat (ss.take k)).size + ss[k].size ≤ 9223372036854775807 := by omega
        have hadd := fun w => run_string_add_sum (P := Try.prog) w (cat (ss.take k)) ss[k] hsum
        rw [hcat] at hadd
        have HC := Lib.hid hcell
        clear hcat hsum hz1 hsz hcell
        generalize hv1 : cat (ss.take (k + 1)) = s1 at *
        generalize hv0 : cat (ss.take k) = s0 at *
        have HV := Lib.hid hv1
        clear hv1 hv0
        generalize hx : ss[k] = x at *
        have HX := Lib.hid hx
        clear hx
        go_wp2_with fail
        refine (HA.out _ HM.out).mono ?_
        rintro e w2 ⟨rfl, hb2, hG⟩
        have K2 := Lib.hid (K.out.grown hG K.out.size (fun j hj => by cases hj; exact Nat.le_refl _))
        have HM2 := Lib.hid (blk_mk hb2)
        have hc2 := ((K2.out.cell (p := ⟨b, off + k, none⟩) hbl).trans (HC.out k hlt))
        rw [HX.out] at hc2
        clear hb2 hG hc
        go_wp2
        go_roundw
        case rel => exact ⟨k + 1, by omega, by omega, by go_num, by rw [HV.out], by rw [HV.out], HM2.out, K2.out⟩
        case measure => simp [intOf]; omega
      · have h30 : k = 30 := by omega
        subst h30
        have hd : decide ((30 : Int) < (len : Int)) = true := decide_eq_true (by omega)
        have HSUM := Lib.hid (fun w => sum_any (cat (ss.take 30)) w (by have := HZ.out 30 (by omega); omega))
        obtain ⟨d, t, _, hbk, ht⟩ := add_bump _ _ _ HM.out
        have HBK := Lib.hid hbk
        have HT := Lib.hid ht
        clear hbk ht
        generalize cat (ss.take 30) = s0 at *
        go_wp2_with fail
        refine (HSUM.out _).mono ?_
        rintro e w2 ⟨rfl, hB⟩
        have K2 := Lib.hid (K.out.trans (hB.mono K.out.size))
        have HB2 := Lib.hid (HBK.out.below hB HBK.out.lt)
        clear hB
        go_wp2_with fail
        refine (used_any _ d 0 t HT.out _ _ HB2.out).mono ?_
        rintro e w3 ⟨rfl, rfl⟩
        go_wp2_with fail
        refine (awake_any _).mono ?_
        rintro e w4 ⟨rfl, hB⟩
        have K3 := Lib.hid (K2.out.trans (hB.mono K2.out.size))
        clear hB
        go_wp2
        go_ret
        exact ⟨rfl, K3.out⟩
    · have h30 : k = len := by omega
      subst h30
      have hd : decide ((30 : Int) < (k : Int)) = false := decide_eq_false (by omega)
      have HSUM := Lib.hid (fun w => sum_any (cat (ss.take k)) w (by have := HZ.out k (by omega); omega))
      obtain ⟨d, t, _, hbk, ht⟩ := add_bump _ _ _ HM.out
      have HBK := Lib.hid hbk
      have HT := Lib.hid ht
      clear hbk ht
      generalize cat (ss.take k) = s0 at *
      go_wp2_with fail
      refine (HSUM.out _).mono ?_
      rintro e w2 ⟨rfl, hB⟩
      have K2 := Lib.hid (K.out.trans (hB.mono K.out.size))
      have HB2 := Lib.hid (HBK.out.below hB HBK.out.lt)
      clear hB
      go_wp2_with fail
      refine (used_any _ d 0 t HT.out _ _ HB2.out).mono ?_
      rintro e w3 ⟨rfl, rfl⟩
      go_wp2_with fail
      refine (awake_any _).mono ?_
      rintro e w4 ⟨rfl, hB⟩
      have K3 := Lib.hid (K2.out.trans (hB.mono K2.out.size))
      clear hB
      go_wp2
      go_ret
      exact ⟨rfl, K3.out⟩
end Go.Proofs.Ythechafniolbnaa
