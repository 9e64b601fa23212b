/- The walks of varnum.All and of the reference's All on any text. -/
import Derived.Test.YtclbndfoljmakaaRefGet
import Derived.Test.YtclbndfoljmakaaAll
namespace Go.Proofs.Ytclbndfoljmakaa
open Go.RowKit Law

set_option maxRecDepth 100000 in
theorem getR_ok (l : List Nat) (hl : ∀ b ∈ l, b < 256) (a : Nat) (h : (getR l (a : Int)).2.2 = 0) : ∃ n m : Nat, getR l (a : Int) = (n, (m : Int), 0) ∧ a < m ∧ m ≤ l.length ∧ n < 18446744073709551616 := by
  unfold getR at h ⊢
  simp only [Int.toNat_natCast] at h ⊢
  split at h
  · simp at h
  · rename_i h1
    split at h
    · simp at h
    · rename_i h2
      have ha : a < l.length := by omega
      rw [if_neg h1, if_neg h2]
      have hb : l[a]?.getD 0 < 256 := by rw [List.getElem?_eq_getElem ha]; exact hl _ (List.getElem_mem ha)
      generalize l[a]?.getD 0 = b at *
      split at h
      · rename_i h3
        rw [if_pos h3]
        exact ⟨b, a + 1, rfl, by omega, by omega, by omega⟩
      · rename_i h3
        split at h
        · simp at h
        · rename_i h4
          rw [if_neg h3, if_neg h4]
          split at h
          · simp at h
          · rename_i h5
            rw [if_neg h5]
            have h6 := bev_lt ((l.drop (a + 1)).take (b - 247)) (fun x hx => hl x (List.mem_of_mem_drop (List.mem_of_mem_take hx)))
            have h7 : ((l.drop (a + 1)).take (b - 247)).length ≤ 8 := by simp; omega
            exact ⟨_, a + 1 + (b - 247), by congr 2, by omega, by omega, Nat.lt_of_lt_of_le h6 (Nat.pow_le_pow_right (n := 256) (by omega) h7)⟩

/-- All numbers of a text from a place on. -/
def allF : Nat → List Nat → Nat → List Nat → List Nat × Int
  | 0, _, _, acc => (acc, 0)
  | f + 1, l, a, acc => if a < l.length then (if (getR l (a : Int)).2.2 = 0 then allF f l (getR l (a : Int)).2.1.toNat (acc ++ [(getR l (a : Int)).1]) else ([], (getR l (a : Int)).2.2)) else (acc, 0)
theorem allF_end (f : Nat) (l : List Nat) (a : Nat) (acc : List Nat) (h : ¬ a < l.length) : allF f l a acc = (acc, 0) := by
  cases f with
  | zero => rfl
  | succ f => simp only [allF]; rw [if_neg h]
theorem allF_no (f : Nat) (l : List Nat) (a : Nat) (acc : List Nat) (h : a < l.length) (he : (getR l (a : Int)).2.2 ≠ 0) : allF (f + 1) l a acc = ([], (getR l (a : Int)).2.2) := by
  simp only [allF]; rw [if_pos h, if_neg he]
theorem allF_yes (f : Nat) (l : List Nat) (a m n : Nat) (acc : List Nat) (h : a < l.length) (he : getR l (a : Int) = (n, (m : Int), 0)) : allF (f + 1) l a acc = allF f l m (acc ++ [n]) := by
  simp only [allF]; rw [if_pos h, he]; simp
def AllR (l : List Nat) : List Nat × Int := allF (l.length + 1) l 0 []
theorem nv_snoc (acc : List Nat) (n : Nat) : nv (acc ++ [n]) = nv acc ++ [.int .u64 (n : Int)] := by simp [nv]

set_option maxHeartbeats 1000000 in
set_option maxRecDepth 100000 in
theorem all_any (s : ByteArray) (w : World) (hs : s.size ≤ 17592186044415) :
    Calls Try.prog 11 #[.string s] w fun e w' => ∃ v, e = .returned (.tuple #[v, .int .i64 (AllR (bl s)).2]) ∧ w'.ownsRow w.heap.size 22 1 v (AllR (bl s)).1.length (nv (AllR (bl s)).1) ∧ Below w.heap.size w w' := by
  obtain ⟨i0, hi, hz0, hz1, hz2⟩ := info_parts Try.info22'
  have hlen := bl_length s
  have HG := Lib.hid (fun (a : Nat) w => get_any s (a : Int) w (by omega))
  have HOK := Lib.hid (getR_ok (bl s) (bl_lt s))
  have hR : AllR (bl s) = allF ((bl s).length + 1) (bl s) 0 [] := rfl
  generalize AllR (bl s) = R at *
  have hE := getR_e (bl s)
  have HEE := Lib.hid hE
  have HR := Lib.hid hR
  have HLEN := Lib.hid hlen
  clear hE hR hlen
  go_enter Try.func11, Try.ntmps11
  go_wp2
  go_loopw [4, 5] (fun v i wr => ∃ (a f : Nat) (acc : List Nat), a ≤ s.size ∧ s.size < f + a ∧ acc.length ≤ a ∧ i = .int .i64 (a : Int) ∧ R = allF f (bl s) a acc ∧ wr.ownsRow w.heap.size 22 1 v acc.length (nv acc) ∧ Below w.heap.size w wr) (fun _ i _ => s.size - (intOf i).toNat)
  case atStart => exact ⟨0, (bl s).length + 1, [], by omega, by rw [HLEN.out]; omega, by simp, rfl, HR.out, World.ownsRow_nil _ _ _ _, Below.refl _ _⟩
  case round =>
    obtain ⟨a, f, acc, ha, hf, hacc, rfl, hRa, hown, hB⟩ := hrel
    have hBs := hB.size
    by_cases hlt : a < s.size
    · by_cases he : (getR (bl s) (a : Int)).2.2 = 0
      · obtain ⟨n, m, hg, h1, h2, h3⟩ := HOK.out a he
        rw [HLEN.out] at h2
        obtain ⟨f, rfl⟩ : ∃ f', f = f' + 1 := ⟨f - 1, by omega⟩
        rw [allF_yes f (bl s) a m n acc (by rw [HLEN.out]; exact hlt) hg] at hRa
        have HRa := Lib.hid hRa
        have HGa := Lib.hid (HG.out a)
        rw [hg] at HGa
        clear hRa hg he
        go_wp2_with fail
        refine (HGa.out _).mono ?_
        rintro e w2 ⟨rfl, rfl⟩
        unfold Gets
        go_wp2_with (first | (at_builtin; go_must (refine wpList_append_own_at _ rfl _ _ 31 rfl w.heap.size 22 i0 (.int .u64 0) 1 8 Try.underlying31 hi hz0 hz1 hz2 rfl (by decide) _ _ _ rfl (hown.alloc _) ⟨wr.heap.size, 0, none⟩ 1 1 [.int .u64 (n : Int)] rfl rfl ?c1 ?c2 ?c3 ?c4 ?c5 ?_)))
        case c1 => exact cell_one_new _ _ _
        case c2 => simp [Value.oneCell']
        case c3 => simp [maxLen]; omega
        case c4 => omega
        case c5 => simp; omega
        intro v1 w1 hv1 hg1 _ _
        have hv2 : w1.ownsRow w.heap.size 22 1 v1 (acc ++ [n]).length (nv (acc ++ [n])) := by
          rw [nv_snoc, List.length_append]
          exact hv1
        have hB1 : Below w.heap.size w w1 := (hB.alloc hBs _).grown hg1 (by simp; omega) (fun j hj => (hown.lt j hj).1)
        clear hv1 hg1 hown hB
        go_wp2
        go_roundw
        case rel =>
          have hr : ∃ (a' f' : Nat) (acc' : List Nat), a' ≤ s.size ∧ s.size < f' + a' ∧ acc'.length ≤ a' ∧ Value.int .i64 (m : Int) = .int .i64 (a' : Int) ∧ R = allF f' (bl s) a' acc' ∧ w1.ownsRow w.heap.size 22 1 v1 acc'.length (nv acc') ∧ Below w.heap.size w w1 :=
            ⟨m, f, acc ++ [n], h2, by omega, by simp; omega, rfl, HRa.out, hv2, hB1⟩
          first | exact hr | ((repeat apply Exists.intro); exact ⟨hr, rfl⟩)
        case measure => simp [intOf]; omega
      · obtain ⟨f, rfl⟩ : ∃ f', f = f' + 1 := ⟨f - 1, by omega⟩
        rw [allF_no f (bl s) a acc (by rw [HLEN.out]; exact hlt) he] at hRa
        have hE := HEE.out (a : Int)
        have HGa := Lib.hid (HG.out a)
        clear hown
        have K := Lib.hid hB
        clear hB hBs
        generalize getR (bl s) (a : Int) = r at *
        obtain ⟨x, y, z⟩ := r
        simp only at he hE hRa
        subst hRa
        rcases hE with rfl | rfl | rfl | rfl
        · exact absurd rfl he
        all_goals
          clear he
          go_wp2_with fail
          refine (HGa.out _).mono ?_
          rintro e w2 ⟨rfl, rfl⟩
          unfold Gets
          go_wp2
          go_ret2
          exact ⟨_, rfl, World.ownsRow_nil _ _ _ _, K.out⟩
    · rw [allF_end f (bl s) a acc (by rw [HLEN.out]; exact hlt)] at hRa
      subst hRa
      go_wp2
      go_ret2
      exact ⟨_, rfl, hown, hB⟩
end Go.Proofs.Ytclbndfoljmakaa
