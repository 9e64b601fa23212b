/- The walk of the document's All: all frames that are whole. -/
import Derived.Test.YtjjhbkmmkhkjnaaSt
namespace Go.Proofs.Ytjjhbkmmkhkjnaa
open Go.RowKit Crc Law

theorem own_ne (v : Value) : v.ownBlock = none ∨ v.ownBlock ≠ none := by
  by_cases h : v.ownBlock = none
  · exact .inl h
  · exact .inr h
/-- Texts as values. -/
def tv (l : List Item) : List Value := (l.map (fun x : Item => x.1)).map .string
theorem tv_snoc (l : List Item) (x : Item) : tv (l ++ [x]) = tv l ++ [.string x.1] := by simp [tv]
theorem tv_length (l : List Item) : (l.map (fun x : Item => x.1)).length = l.length := by simp

set_option maxHeartbeats 1000000 in
set_option maxRecDepth 100000 in
theorem refAllF_any (s : ByteArray) (w : World) (hs : s.size ≤ 1099511627776) :
    Calls Try.prog 13 #[.string s] w fun e W' => ∃ ts i er v, AllRes s ts i er ∧ e = .returned (.tuple #[v, .int .i64 i, .int .i64 er]) ∧ W'.ownsRow w.heap.size 9 1 v ts.length (ts.map .string) ∧ Below w.heap.size w W' := by
  obtain ⟨i0, hi, hz0, hz1, hz2⟩ := info_parts Try.infoS
  have HN := Lib.hid (fun (i : Nat) w => refNext_any s (i : Int) w (by omega))
  go_enter Try.func13, Try.ntmps13
  go_wp2
  go_loopw [5, 6] (fun v i wr => ∃ (a f : Nat) (pre : List Item), a ≤ s.size ∧ s.size - a < f ∧ pre.length ≤ a ∧ i = .int .i64 (a : Int) ∧ all s = pre ++ items s f a ∧ (∀ x ∈ pre, x.2.2 = 0) ∧ (a : Int) = lastTo pre ∧ wr.ownsRow w.heap.size 9 1 v pre.length (tv pre) ∧ Below w.heap.size w wr) (fun _ i _ => s.size - (intOf i).toNat)
  case atStart => exact ⟨0, s.size + 1, [], by omega, by omega, by simp, rfl, rfl, by simp, rfl, World.ownsRow_nil _ _ _ _, Below.refl _ _⟩
  case round =>
    obtain ⟨a, f, pre, ha, hf, hacc, rfl, hall, hgood, hto, hown, hB⟩ := hrel
    have hBs := hB.size
    by_cases hlt : a < s.size
    · obtain ⟨f, rfl⟩ : ∃ g, f = g + 1 := ⟨f - 1, by omega⟩
      rw [items_more s f a hlt] at hall
      have HNa := Lib.hid (HN.out a)
      have hnx := next_ok s a
      generalize nextR s a = r at *
      obtain ⟨t, to, e⟩ := r
      simp only [Nexts] at HNa
      dsimp only at hnx hall
      have HG := Lib.hid (And.intro hgood hto)
      clear hgood hto
      by_cases he : e = 0
      · subst he
        obtain ⟨j, rfl, hj5, hjs⟩ := hnx rfl
        rw [if_pos rfl, Int.toNat_natCast] at hall
        have HA := Lib.hid hall
        clear hall
        go_wp2_with fail
        refine (HNa.out _).mono ?_
        rintro e w2 ⟨rfl, hBG⟩
        have hown2 := hown.kept (below_none hBG) (own_ne _)
        have hB2 := hB.trans (hBG.mono hBs)
        have hBs2 := hB2.size
        clear hown hB hBG hBs
        go_wp2_with (first | (at_builtin; go_must (refine wpList_append_own_at _ rfl _ _ 38 rfl w.heap.size 9 i0 (.string ByteArray.empty) 1 16 Try.underlying38 hi hz0 hz1 hz2 rfl (by decide) _ _ _ rfl (hown2.alloc _) ⟨w2.heap.size, 0, none⟩ 1 1 [.string t] rfl rfl ?c1 ?c2 ?c3 ?c4 ?c5 ?_)))
        case c1 => exact cell_one_new _ _ _
        case c2 => simp [Value.oneCell']
        case c3 => simp [maxLen]; omega
        case c4 => omega
        case c5 => simp; omega
        intro v1 w1 hv1 hg1 _ _
        have hv2 : w1.ownsRow w.heap.size 9 1 v1 (pre ++ [(t, (j : Int), (0 : Int))]).length (tv (pre ++ [(t, (j : Int), (0 : Int))])) := by
          rw [tv_snoc, List.length_append]
          exact hv1
        have hB1 : Below w.heap.size w w1 := (hB2.alloc hBs2 _).grown hg1 (by simp; omega) (fun j hj => (hown2.lt j hj).1)
        clear hv1 hg1 hown2 hB2
        go_wp2
        go_roundw
        case rel =>
          have hr : ∃ (a' f' : Nat) (pre' : List Item), a' ≤ s.size ∧ s.size - a' < f' ∧ pre'.length ≤ a' ∧ Value.int .i64 (j : Int) = .int .i64 (a' : Int) ∧ all s = pre' ++ items s f' a' ∧ (∀ x ∈ pre', x.2.2 = 0) ∧ (a' : Int) = lastTo pre' ∧ w1.ownsRow w.heap.size 9 1 v1 pre'.length (tv pre') ∧ Below w.heap.size w w1 :=
            ⟨j, f, pre ++ [(t, (j : Int), (0 : Int))], hjs, by omega, by simp; omega, rfl, by rw [HA.out, List.append_assoc]; rfl,
              fun x hx => (List.mem_append.1 hx).elim (HG.out.1 x) (fun e => by simp at e; subst e; rfl), by rw [lastTo_snoc], hv2, hB1⟩
          first | exact hr | ((repeat apply Exists.intro); exact ⟨hr, rfl⟩)
        case measure => simp [intOf]; omega
      · have hd1 : (e == 0) = false := by simpa using he
        have hd2 : (e != 0) = true := by simpa using he
        rw [if_neg he] at hall
        have HA := Lib.hid (show AllRes s (pre.map (fun x : Item => x.1)) (a : Int) e from ⟨pre, HG.out.1, rfl, HG.out.2, .inr ⟨_, hall, rfl, he⟩⟩)
        clear hall he
        go_wp2_with fail
        refine (HNa.out _).mono ?_
        rintro e w2 ⟨rfl, hBG⟩
        have hown2 := hown.kept (below_none hBG) (own_ne _)
        have K := Lib.hid (And.intro hown2 (hB.trans (hBG.mono hBs)))
        clear hown hB hBG hBs hown2
        go_wp2
        go_ret3
        exact ⟨_, _, _, _, HA.out, rfl, by rw [tv_length]; exact K.out.1, K.out.2⟩
    · have hge : s.size ≤ a := by omega
      rw [items_done s f a hge, List.append_nil] at hall
      have HA := Lib.hid (show AllRes s (pre.map (fun x : Item => x.1)) (a : Int) 0 from ⟨pre, hgood, rfl, hto, .inl ⟨hall, rfl⟩⟩)
      have K := Lib.hid (And.intro hown hB)
      clear hall hgood hto hown hB
      go_wp2
      go_ret3
      exact ⟨_, _, _, _, HA.out, rfl, by rw [tv_length]; exact K.out.1, K.out.2⟩
end Go.Proofs.Ytjjhbkmmkhkjnaa
