/- The walk of SumPlays: every text's sum, one that goes on, and how often a maker was asked. -/
import Derived.Test.YthechafniolbnaaAwake
namespace Go.Proofs.Ythechafniolbnaa
open Go.RowKit Crc

theorem blk_mk {w : World} {g : Nat} {u : Int} (h : Blk w g 53 (mcs 1 0 (tbl 256) u true)) : Mk w g u := .inr h
theorem Mk.lt {w : World} {g : Nat} {u : Int} (h : Mk w g u) : g < w.heap.size := by rcases h with h | h <;> exact h.lt
theorem Mk.below {w w' : World} {g : Nat} {u : Int} (h : Mk w g u) (hb : Below w.heap.size w w') : Mk w' g u := by
  rcases h with h | h
  · exact .inl (h.below hb h.lt)
  · exact .inr (h.below hb h.lt)

set_option maxHeartbeats 1000000 in
set_option maxRecDepth 100000 in
theorem plays_true (c : Nat) (s t : ByteArray) (w : World) (hc : c < 4294967296) (hs : s.size ≤ 9223372036854775807) (ht : t.size ≤ 9223372036854775807) :
    Calls Try.prog 5 #[.int .u32 c, .string s, .string t] w fun e w' => e = .returned (.bool true) ∧ Below w.heap.size w w' := by
  have H1 := Lib.hid (fun w => sum_any s w hs)
  have H2 := Lib.hid (fun w => refSum_any s w hs)
  have H3 := Lib.hid (fun g w hm => add_any g 0 c s w hm (by decide) hc hs)
  have H4 := Lib.hid (fun w => refAdd_any c s w hc hs)
  have H5 := Lib.hid (fun g w hm => add_any g 1 0 t w hm (by decide) (by decide) ht)
  have H6 := Lib.hid (fun w => sum_any t w ht)
  rw [show (4294967295 ^^^ crc (4294967295 ^^^ 0) (bl t)) = sum (bl t) from rfl] at H5
  generalize sum (bl s) = x1 at *
  generalize (4294967295 ^^^ crc (4294967295 ^^^ c) (bl s)) = x2 at *
  generalize sum (bl t) = x3 at *
  go_enter Try.func5, Try.ntmps5
  go_wp2_with fail
  refine (new_made _).mono ?_
  rintro e w1 ⟨rfl, hM, hB⟩
  have K := Lib.hid hB
  have HM := Lib.hid hM
  clear hM hB
  go_wp2_with fail
  refine (H1.out _).mono ?_
  rintro e w2 ⟨rfl, hB⟩
  have K2 := Lib.hid (K.out.trans (hB.mono K.out.size))
  have HM2 := Lib.hid (HM.out.below hB)
  clear hB
  go_wp2_with fail
  refine (H2.out _).mono ?_
  rintro e w3 ⟨rfl, rfl⟩
  go_wp2_with fail
  refine (H3.out _ _ HM2.out).mono ?_
  rintro e w3 ⟨rfl, hb, hG⟩
  have K3 := Lib.hid (K2.out.grown hG K2.out.size (fun k hk => by cases hk; exact Nat.le_refl _))
  have HM3 := Lib.hid (blk_mk hb)
  clear hb hG
  go_wp2_with fail
  refine (H4.out _).mono ?_
  rintro e w4 ⟨rfl, rfl⟩
  go_wp2_with fail
  refine (H5.out _ _ HM3.out).mono ?_
  rintro e w4 ⟨rfl, hb, hG⟩
  have K4 := Lib.hid (K3.out.grown hG K3.out.size (fun k hk => by cases hk; exact Nat.le_refl _))
  have HB4 := Lib.hid hb
  clear hb hG
  go_wp2_with fail
  refine (H6.out _).mono ?_
  rintro e w5 ⟨rfl, hB⟩
  have K5 := Lib.hid (K4.out.trans (hB.mono K4.out.size))
  have HB5 := Lib.hid (HB4.out.below hB HB4.out.lt)
  clear hB
  go_wp2_with fail
  refine (used_any _ 1 0 (tbl 256) (tbl_length _) _ _ HB5.out).mono ?_
  rintro e w6 ⟨rfl, rfl⟩
  go_wp2_with fail
  refine (awake_any _).mono ?_
  rintro e w7 ⟨rfl, hB⟩
  have K6 := Lib.hid (K5.out.trans (hB.mono K5.out.size))
  clear hB
  go_wp2
  go_ret
  exact ⟨rfl, K6.out⟩
theorem plays_any (c : Int) (s t : ByteArray) (w : World) (hc : 0 ≤ c ∧ c < 4294967296) (hs : s.size ≤ 9223372036854775807) (ht : t.size ≤ 9223372036854775807) :
    Calls Try.prog 5 #[.int .u32 c, .string s, .string t] w fun e w' => e = .returned (.bool true) ∧ Below w.heap.size w w' := by
  obtain ⟨k, rfl⟩ := Int.eq_ofNat_of_zero_le hc.1
  exact plays_true k s t w (by omega) hs ht
end Go.Proofs.Ythechafniolbnaa
