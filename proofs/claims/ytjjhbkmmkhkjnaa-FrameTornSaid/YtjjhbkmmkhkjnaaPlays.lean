/- The walk of FramePlays: any text as a frame; any text as frames. -/
import Derived.Test.YtjjhbkmmkhkjnaaAll
import Derived.Test.YtjjhbkmmkhkjnaaTexts
namespace Go.Proofs.Ytjjhbkmmkhkjnaa
open Go.RowKit Crc Law

theorem AllRes.few {s : ByteArray} {ts : List ByteArray} {i e : Int} (h : AllRes s ts i e) : ts.length ≤ s.size := by
  obtain ⟨pre, _, rfl, _, hc⟩ := h
  have hl := items_length s (s.size + 1) 0
  rw [List.length_map]
  rcases hc with ⟨h1, _⟩ | ⟨x, h1, _⟩
  · have : (items s (s.size + 1) 0).length = pre.length := congrArg List.length h1
    omega
  · have : (items s (s.size + 1) 0).length = pre.length + 1 := by rw [show items s (s.size + 1) 0 = pre ++ [x] from h1]; simp
    omega

set_option maxHeartbeats 2000000 in
set_option maxRecDepth 100000 in
theorem plays_any (s t : ByteArray) (i : Int) (w : World) (hs : s.size ≤ 9223372036854775807) (ht : t.size ≤ 1099511627776) :
    Calls Try.prog 5 #[.string s, .string t, .int .i64 i] w fun e w' => e = .returned (.bool true) ∧ Below w.heap.size w w' := by
  have H1 := Lib.hid (fun w => framePut_any s w hs)
  have H2 := Lib.hid (fun w => refPutF_any s w hs)
  have H3 := Lib.hid (fun w => next_any t i w (by omega))
  have H4 := Lib.hid (fun w => refNext_any t i w (by omega))
  have H5 := Lib.hid (fun w => all_any t w ht)
  have H6 := Lib.hid (fun w => refAllF_any t w ht)
  simp only [Puts] at H1 H2
  simp only [Nexts] at H3 H4
  generalize putR s = r at *
  generalize nextR t i = q at *
  obtain ⟨a, e1⟩ := r
  obtain ⟨x, j, e2⟩ := q
  have ha : (a.toList == a.toList) = true := by simp
  have hx : (x.toList == x.toList) = true := by simp
  have hj : (j == j) = true := by simp
  have he1 : (e1 == e1) = true := by simp
  have he2 : (e2 == e2) = true := by simp
  dsimp only at H1 H2 H3 H4
  go_enter Try.func5, Try.ntmps5
  go_wp2_with fail
  refine (H1.out _).mono ?_
  rintro e w1 ⟨rfl, hB⟩
  have K1 := Lib.hid hB
  clear hB
  go_wp2_with fail
  refine (H2.out _).mono ?_
  rintro e w2 ⟨rfl, hB⟩
  have K2 := Lib.hid (K1.out.trans (hB.mono K1.out.size))
  clear hB
  go_wp2_with fail
  refine (H3.out _).mono ?_
  rintro e w3 ⟨rfl, hB⟩
  have K3 := Lib.hid (K2.out.trans (hB.mono K2.out.size))
  clear hB
  go_wp2_with fail
  refine (H4.out _).mono ?_
  rintro e w4 ⟨rfl, hB⟩
  have K4 := Lib.hid (K3.out.trans (hB.mono K3.out.size))
  clear hB
  go_wp2_with fail
  refine (H5.out _).mono ?_
  rintro e w5 ⟨ts, k, er, v, hR, rfl, hown, hB⟩
  have HR := Lib.hid hR
  have K5 := Lib.hid (K4.out.trans (hB.mono K4.out.size))
  obtain ⟨A, cap, rfl, hl, hS⟩ := own_strs hown
  have HS := Lib.hid hS
  clear hR hB hown hS
  go_wp2_with fail
  refine (H6.out _).mono ?_
  rintro e w6 ⟨us, k2, er2, v2, hR2, rfl, hown2, hB⟩
  obtain ⟨e1', e2', e3'⟩ := HR.out.one hR2
  subst e1' e2' e3'
  have K6 := Lib.hid (K5.out.trans (hB.mono K5.out.size))
  obtain ⟨A2, cap2, rfl, hl2, hS2⟩ := own_strs hown2
  have HS2 := Lib.hid hS2
  have HS1 := Lib.hid (HS.out.below hB)
  clear hR2 hB hown2 hS2 hl hl2
  have hk : (k == k) = true := by simp
  have her : (er == er) = true := by simp
  have HF := Lib.hid HR.out.few
  go_wp2_with fail
  refine (texts_any A A2 ts.length cap cap2 ts w6 HS1.out HS2.out rfl (by have := HF.out; omega)).mono ?_
  rintro e w7 ⟨rfl, m, rfl⟩
  go_wp2_with fail
  refine (awake_any _).mono ?_
  rintro e w8 ⟨rfl, hB⟩
  have K7 := Lib.hid ((below_drewN K6.out m).trans (hB.mono K6.out.size))
  clear hB
  go_wp2
  go_ret
  exact ⟨rfl, K7.out⟩
end Go.Proofs.Ytjjhbkmmkhkjnaa
