/- The program's last timestamp of a log; the document's Next. -/
import Derived.Test.YtboiilbeioaneaaNext
namespace Go.Proofs.Ytboiilbeioaneaa
open Go.RowKit Law

set_option maxHeartbeats 400000 in
theorem itemLast_any (A : Option Addr) (n cap : Nat) (es : List Ent) (w : World) (h : Ents w A es) (hn : es.length = n) (hm : n ≤ 9223372036854775807) :
    Calls Try.prog 20 #[.slice A n cap] w fun e w' => e = .returned (.int .u64 (lastT (tss es))) ∧ Below w.heap.size w w' := by
  subst hn
  have hle := stp_le (tss es)
  rw [tss_length] at hle
  have C := itemStamped_any A es.length cap es w h rfl hm
  rcases hs : stp (tss es) with _ | m
  · have hl : (0 : Int) = lastT (tss es) := by unfold lastT; rw [if_pos hs]
    rw [hs] at C
    have HC := Lib.hid C
    have HL := Lib.hid hl
    clear C hl hs hle
    go_enter Try.func20, Try.ntmps20
    go_wp2_with fail
    refine HC.out.mono ?_
    rintro e w1 ⟨rfl, hB⟩
    have K := Lib.hid hB
    clear hB
    go_wp2
    go_ret
    exact ⟨ret_u64 HL.out, K.out⟩
  · have hlt : m < es.length := by omega
    have hl : es[m].ts = lastT (tss es) := by
      unfold lastT
      rw [if_neg (by omega), hs, Nat.add_sub_cancel, List.getElem?_eq_getElem (by simpa [tss] using hlt)]
      exact (tss_get es m hlt).symm
    obtain ⟨b, off, rfl, hb, hc⟩ := h (by rintro rfl; simp at hlt)
    obtain ⟨⟨c0, c1, c2, c3⟩, _⟩ := hc m hlt
    rw [hs] at C
    have HC := Lib.hid C
    have HL := Lib.hid hl
    have hne : ((m : Int) + 1 == 0) = false := by simp; omega
    clear C hl hs hle hc h c0 c1 c2
    go_enter Try.func20, Try.ntmps20
    go_wp2_with fail
    refine HC.out.mono ?_
    rintro e w1 ⟨rfl, hB⟩
    have K := Lib.hid hB
    have c3' := (hB.cell (p := ⟨b, off + m * 4 + 3, none⟩) hb).trans c3
    clear hB
    go_wp2
    go_ret
    exact ⟨ret_u64 HL.out, K.out⟩

set_option maxRecDepth 100000 in
theorem refNext_any (last floor : Nat) (w : World) (h : last < 18446744073709551616) (_hf : floor < 18446744073709551616) :
    Calls Try.prog 8 #[.int .u64 last, .int .u64 floor] w fun e w' => e = nxE last floor ∧ w = w' := by
  unfold nxE
  by_cases hl : last = 18446744073709551615
  · subst hl
    rw [if_pos rfl]
    go_enter Try.func8, Try.ntmps8
    go_wp2
    go_ret2
    exact ⟨rfl, rfl⟩
  · rw [if_neg hl]
    have hd : ((last : Int) == 18446744073709551615) = false := by simp; omega
    have hw : IntKind.wrap .u64 ((last : Int) + 1) = (last : Int) + 1 := IntWalk.u64_in _ (by omega)
    unfold nx
    by_cases hx : floor ≤ last + 1
    · rw [if_pos hx]
      go_enter Try.func8, Try.ntmps8
      go_wp2
      all_goals go_ret2
      all_goals first | exact ⟨by congr 5; omega, rfl⟩ | exact ⟨rfl, rfl⟩ | omega
    · rw [if_neg hx]
      go_enter Try.func8, Try.ntmps8
      go_wp2
      all_goals go_ret2
      all_goals first | exact ⟨rfl, rfl⟩ | exact ⟨by congr 5; omega, rfl⟩ | omega
end Go.Proofs.Ytboiilbeioaneaa
