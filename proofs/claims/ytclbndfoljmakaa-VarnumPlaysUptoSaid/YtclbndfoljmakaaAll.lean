/- The walk of varnum.All on numbers one behind the other. -/
import Derived.Test.YtclbndfoljmakaaBackLaw
namespace Go.Proofs.Ytclbndfoljmakaa
open Go.RowKit Law

theorem Try.info22' : (Try.prog.info? 22).map (fun i => (i.zero, i.size, i.bytes)) = some (some (.int .u64 0), 1, 8) := by kernel_rfl

/-- Numbers' bytes, one behind the other. -/
def catL (zs : List Nat) : List Nat := zs.flatMap putL
def nv (zs : List Nat) : List Value := zs.map fun n : Nat => .int .u64 (n : Int)
theorem catL_take (zs : List Nat) (j : Nat) (h : j < zs.length) : catL (zs.take (j + 1)) = catL (zs.take j) ++ putL zs[j] := by
  unfold catL
  rw [List.take_succ_eq_append_getElem h, List.flatMap_append]
  simp
theorem catL_split (zs : List Nat) (j : Nat) (h : j < zs.length) : catL zs = catL (zs.take j) ++ putL zs[j] ++ catL (zs.drop (j + 1)) := by
  rw [← catL_take zs j h]
  unfold catL
  rw [← List.flatMap_append, List.take_append_drop]
theorem catL_step (zs : List Nat) (j : Nat) (h : j < zs.length) : (catL (zs.take (j + 1))).length = (catL (zs.take j)).length + (putL zs[j]).length := by
  rw [catL_take zs j h, List.length_append]
theorem catL_lt (zs : List Nat) (j : Nat) (h : j < zs.length) : (catL (zs.take j)).length < (catL zs).length := by
  have := putL_pos zs[j]
  rw [catL_split zs j h]
  simp only [List.length_append]
  omega
theorem catL_le (zs : List Nat) (hz : ∀ n ∈ zs, n < 18446744073709551616) : (catL zs).length ≤ 9 * zs.length := by
  induction zs with
  | nil => simp [catL]
  | cons a l ih =>
    have h1 := putL_le a (hz a (by simp))
    have h2 := ih (fun n hn => hz n (by simp [hn]))
    have e : catL (a :: l) = putL a ++ catL l := by simp [catL]
    rw [e]
    simp only [List.length_append, List.length_cons]
    omega
theorem catL_all (zs : List Nat) (j : Nat) (h : zs.length ≤ j) : catL (zs.take j) = catL zs := by rw [List.take_of_length_le h]
theorem nv_take (zs : List Nat) (j : Nat) (h : j < zs.length) : nv (zs.take (j + 1)) = nv (zs.take j) ++ [.int .u64 (zs[j] : Int)] := by
  unfold nv
  rw [List.take_succ_eq_append_getElem h, List.map_append]
  rfl

set_option maxHeartbeats 1000000 in
set_option maxRecDepth 100000 in
theorem all_enc (s : ByteArray) (zs : List Nat) (w : World) (hz : ∀ n ∈ zs, n < 18446744073709551616) (hs : bl s = catL zs) (hlen : zs.length ≤ 1000) :
    Calls Try.prog 11 #[.string s] w fun e w' => ∃ v, e = .returned (.tuple #[v, .int .i64 0]) ∧ w'.ownsRow w.heap.size 22 1 v zs.length (nv zs) ∧ Below w.heap.size w w' := by
  obtain ⟨i0, hi, hz0, hz1, hz2⟩ := info_parts Try.info22'
  have hsz : s.size = (catL zs).length := by rw [← bl_length, hs]
  have hle := catL_le zs hz
  have HC := Lib.hid (fun j h => catL_lt zs j h)
  have HST := Lib.hid (fun j h => catL_step zs j h)
  have HN := Lib.hid (fun j h => nv_take zs j h)
  have HZ := Lib.hid (fun j (h : j < zs.length) => hz _ (List.getElem_mem h))
  have HG : Hid (∀ (j : Nat) (h : j < zs.length) (w : World), Calls Try.prog 9 #[.string s, .int .i64 ((catL (zs.take j)).length : Nat)] w fun e w' => e = Gets (zs[j], ((catL (zs.take (j + 1))).length : Nat), 0) ∧ w = w') := Lib.hid (by
    intro j h w
    have := get_any s ((catL (zs.take j)).length : Nat) w (by omega)
    rw [hs, catL_split zs j h, get_mid _ _ _ (hz _ (List.getElem_mem h)), ← catL_step zs j h] at this
    exact this)
  have h0 : (catL (zs.take 0)).length = 0 := by simp [catL]
  have hend := catL_all zs zs.length (Nat.le_refl _)
  have HE := Lib.hid hend
  have hnv : nv (zs.take zs.length) = nv zs := by rw [List.take_length]
  have HNV := Lib.hid hnv
  clear hz hs hle hend hnv
  go_enter Try.func11, Try.ntmps11
  go_wp2
  go_loopw [4, 5] (fun v i wr => ∃ j : Nat, j ≤ zs.length ∧ i = .int .i64 ((catL (zs.take j)).length : Nat) ∧ wr.ownsRow w.heap.size 22 1 v j (nv (zs.take j)) ∧ Below w.heap.size w wr) (fun _ i _ => s.size - (intOf i).toNat)
  case atStart => exact ⟨0, by omega, by rw [h0]; rfl, World.ownsRow_nil _ _ _ _, Below.refl _ _⟩
  case round =>
    obtain ⟨j, hj, rfl, hown, hB⟩ := hrel
    have hBs := hB.size
    clear h0
    by_cases hlt : j < zs.length
    · have hlt2 := HC.out j hlt
      have hst := HST.out j hlt
      have hpp := putL_pos zs[j]
      have HSTj := Lib.hid hst
      have hpos2 : ((catL (zs.take j)).length : Int) < (s.size : Int) := by omega
      have hmeas : s.size - (catL (zs.take (j + 1))).length < s.size - (catL (zs.take j)).length := by omega
      have HM := Lib.hid hmeas
      have HGj := Lib.hid (HG.out j hlt)
      have HNj := Lib.hid (HN.out j hlt)
      have hzj := HZ.out j hlt
      clear hst hpp hmeas hlt2
      generalize (catL (zs.take j)).length = p at *
      generalize hp1 : (catL (zs.take (j + 1))).length = p1 at *
      have HP1 := Lib.hid hp1
      clear hp1
      generalize zs[j] = z at *
      go_wp2_with fail
      refine (HGj.out _).mono ?_
      rintro e w2 ⟨rfl, rfl⟩
      unfold Gets
      go_wp2_with (first | (at_builtin; go_must (refine wpList_append_own_at _ rfl _ _ 31 rfl w.heap.size 22 i0 (.int .u64 0) 1 8 Try.underlying31 hi hz0 hz1 hz2 rfl (by decide) _ _ _ rfl (hown.alloc _) ⟨wr.heap.size, 0, none⟩ 1 1 [.int .u64 (z : Int)] rfl rfl ?c1 ?c2 ?c3 ?c4 ?c5 ?_)))
      case c1 => exact cell_one_new _ _ _
      case c2 => simp [Value.oneCell']
      case c3 => simp [maxLen]; omega
      case c4 => omega
      case c5 => simp; omega
      intro v1 w1 hv1 hg1 _ _
      have hv2 : w1.ownsRow w.heap.size 22 1 v1 (j + 1) (nv (zs.take (j + 1))) := by
        rw [HNj.out]
        exact hv1
      have hB1 : Below w.heap.size w w1 := (hB.alloc hBs _).grown hg1 (by simp; omega) (fun j hj => (hown.lt j hj).1)
      clear hv1 hg1 hown hB
      go_wp2
      go_roundw
      case rel =>
        have hr : ∃ j' : Nat, j' ≤ zs.length ∧ Value.int .i64 (p1 : Int) = .int .i64 ((catL (zs.take j')).length : Nat) ∧ w1.ownsRow w.heap.size 22 1 v1 j' (nv (zs.take j')) ∧ Below w.heap.size w w1 := ⟨j + 1, by omega, by rw [HP1.out], hv2, hB1⟩
        first | exact hr | ((repeat apply Exists.intro); exact ⟨hr, rfl⟩)
      case measure => simpa [intOf] using HM.out
    · obtain rfl : j = zs.length := by omega
      have hx : ¬ ((catL (zs.take zs.length)).length : Int) < (s.size : Int) := by rw [HE.out]; omega
      rw [HNV.out] at hown
      generalize (catL (zs.take zs.length)).length = p at *
      go_wp2
      go_ret2
      exact ⟨_, rfl, hown, hB⟩
end Go.Proofs.Ytclbndfoljmakaa
