/- The walk of Maker.Add: a sum that goes on, by the table of all bytes. -/
import Derived.Test.YthechafniolbnaaUsed
namespace Go.Proofs.Ythechafniolbnaa
open Go.RowKit Crc

/-- A maker that was made, asked u times. -/
def Mk (w : World) (g : Nat) (u : Int) : Prop := Blk w g 53 (mcs 0 0 (tbl 0) u true) ∨ Blk w g 53 (mcs 1 0 (tbl 256) u true)

theorem add_bump (g : Nat) (u : Int) (w : World) (hm : Mk w g u) : ∃ d t, (d = 0 ∧ t = tbl 0 ∨ d = 1 ∧ t = tbl 256) ∧ Blk w g 53 (mcs d 0 t u true) ∧ t.length = 256 := by
  rcases hm with h | h
  · exact ⟨0, tbl 0, .inl ⟨rfl, rfl⟩, h, tbl_length _⟩
  · exact ⟨1, tbl 256, .inr ⟨rfl, rfl⟩, h, tbl_length _⟩

theorem do_any (g : Nat) (u : Int) (w : World) (hm : Mk w g u) :
    Calls Try.prog 18 #[.pointer (some ⟨g, 0, none⟩), .func (.func 19) #[.pointer (some ⟨g, 0, none⟩)] #[]] w fun e w' => e = .returned (.tuple #[]) ∧ Blk w' g 53 (mcs 1 0 (tbl 256) u true) ∧ w.grownBy w' (some g) := by
  rcases hm with h | h
  · exact do_first g u w h
  · refine (do_done g _ w ((h.cell 0).trans (mcs_0 ..))).mono ?_
    rintro e w1 ⟨rfl, rfl⟩
    exact ⟨rfl, h, World.grownBy.refl _ _⟩

theorem byte_xor (v b : Nat) (hb : b < 256) : bits .xor .u8 ((v : Int) % 256) (b : Int) = (((v % 256) ^^^ b : Nat) : Int) := by
  rw [show ((v : Int) % 256) = ((v % 256 : Nat) : Int) by omega]
  exact u8_xor_nat (v % 256) b (by omega) hb
theorem add_step (v b : Nat) (hb : b < 256) : Tn 8 (v ^^^ b) = v / 256 ^^^ Tn 8 ((v % 256) ^^^ b) := by
  rw [Tn8 (v ^^^ b)]
  have e1 : (v ^^^ b) / 256 = v / 256 := by
    have h := Nat.xor_div_two_pow (a := v) (b := b) (n := 8)
    rw [show (2 : Nat) ^ 8 = 256 from rfl, Nat.div_eq_of_lt hb, Nat.xor_zero] at h
    exact h
  have e2 : (v ^^^ b) % 256 = (v % 256) ^^^ b := by
    have h := Nat.xor_mod_two_pow (a := v) (b := b) (n := 8)
    rw [show (2 : Nat) ^ 8 = 256 from rfl, Nat.mod_eq_of_lt hb] at h
    exact h
  rw [e1, e2]

set_option maxHeartbeats 1000000 in
set_option maxRecDepth 100000 in
theorem add_any (g : Nat) (u : Int) (c : Nat) (s : ByteArray) (w : World) (hm : Mk w g u) (hu : IntKind.wrap .i64 (u + 1) = u + 1) (hc : c < 4294967296) (hs : s.size ≤ 9223372036854775807) :
    Calls Try.prog 12 #[.pointer (some ⟨g, 0, none⟩), .int .u32 c, .string s] w fun e w' => e = .returned (.int .u32 ((4294967295 ^^^ crc (4294967295 ^^^ c) (bl s) : Nat) : Int)) ∧ Blk w' g 53 (mcs 1 0 (tbl 256) (u + 1) true) ∧ w.grownBy w' (some g) := by
  have HLEN := Lib.hid (bl_length s)
  have hn := not_nat c hc
  have h0 : (4294967295 ^^^ c) < 2 ^ 32 := Nat.xor_lt_two_pow (by omega) (by omega)
  generalize (4294967295 ^^^ c) = M at *
  have HC := Lib.hid (fun j => crc_lt ((bl s).take j) (fun x hx => bl_lt s x (List.mem_of_mem_take hx)) M h0)
  have HT := Lib.hid (fun j h => crc_take M (bl s) j h)
  have HE := Lib.hid (show crc M ((bl s).take s.size) = crc M (bl s) by rw [List.take_of_length_le (by rw [bl_length]; exact Nat.le_refl _)])
  clear h0
  have HN := Lib.hid hn
  clear hn
  obtain ⟨d, t, hdt, hb, ht⟩ := add_bump g u w hm
  have h1 := none_made g true w ((hb.cell 260).trans (mcs_260 d 0 t u true ht))
  rw [show (!true) = false from rfl] at h1
  have H1 := Lib.hid h1
  have H2 := Lib.hid (bump g u w ((hb.cell 259).trans (mcs_259 d 0 t u true ht)) (hb.frozen 259) hu)
  have hb1 := hb.set_ 259 (.int .i64 (u + 1))
  rw [mcs_used d 0 t u (u + 1) true ht] at hb1
  have HM1 : Hid (Mk (w.setCell ⟨g, 259, none⟩ (.int .i64 (u + 1))) g (u + 1)) := by
    apply Lib.hid
    rcases hdt with ⟨rfl, rfl⟩ | ⟨rfl, rfl⟩
    · exact .inl hb1
    · exact .inr hb1
  have HG1 := Lib.hid (only_setCell (World.grownBy.refl w (some g)) 259 (.int .i64 (u + 1)))
  clear hb1 h1 hb hdt hm hu
  go_enter Try.func12, Try.ntmps12
  go_wp2_with fail
  refine (H1.out).mono ?_
  rintro e w1 ⟨rfl, rfl⟩
  go_wp2_with fail
  refine (H2.out).mono ?_
  rintro e w1 ⟨rfl, hw1⟩
  rw [← hw1] at HM1 HG1
  clear hw1
  go_wp2_with fail
  refine (do_any g (u + 1) _ HM1.out).mono ?_
  rintro e w2 ⟨rfl, hb2, hg2⟩
  have HB := Lib.hid hb2
  have HG2 := Lib.hid (only_trans HG1.out hg2)
  clear hb2 hg2
  have hn := HN.out
  go_wp2
  go_loopw [7, 25] (fun x i wr => ∃ j : Nat, j ≤ s.size ∧ i = .int .i64 (j : Int) ∧ x = .int .u32 ((crc M ((bl s).take j) : Nat) : Int) ∧ ∃ k, wr = w2.drewN k) (fun _ i _ => s.size - (intOf i).toNat)
  case atStart => exact ⟨0, Nat.zero_le _, rfl, by rw [List.take_zero, crc_nil], 0, rfl⟩
  case round =>
    obtain ⟨j, hj, rfl, rfl, k, rfl⟩ := hrel
    by_cases hlt : j < s.size
    · have hT := HT.out j (by rw [HLEN.out]; exact hlt)
      rw [bl_get s j hlt, add_step _ _ (UInt8.toNat_lt s[j])] at hT
      have hV := HC.out j
      have hx := byte_xor (crc M ((bl s).take j)) s[j].toNat (UInt8.toNat_lt s[j])
      have hI : (crc M ((bl s).take j) % 256) ^^^ s[j].toNat < 2 ^ 8 := Nat.xor_lt_two_pow (by omega) (UInt8.toNat_lt s[j])
      generalize hV1 : crc M ((bl s).take (j + 1)) = V' at *
      have HVV := Lib.hid hV1
      clear hV1
      generalize crc M ((bl s).take j) = V at *
      generalize (V % 256) ^^^ s[j].toNat = r at *
      have hc2 : w2.cell? ⟨g, 3 + r, none⟩ = some (.int .u32 ((Tn 8 r : Nat) : Int)) := by
        rw [HB.out.cell (3 + r), mcs_table 1 0 (tbl 256) (u + 1) true (tbl_length 256) r hI, tbl_get 256 r hI, if_pos hI]; rfl
      have hr : r < 256 := hI
      have hxx : bits .xor .u32 ((V : Int) / 256) ((Tn 8 r : Nat) : Int) = (V' : Int) := by
        rw [hT]
        exact u32_xor_nat (V / 256) (Tn 8 r) (by omega) (Tn_lt 8 _ (by omega))
      clear hT hI
      generalize Tn 8 r = q at *
      go_wp2_with fail
      go_quiet (fail)
      go_wp2
      go_roundw
      case rel => exact ⟨j + 1, by omega, by go_num, by rw [HVV.out], ⟨_, rfl⟩⟩
      case measure => simp [intOf]; omega
    · obtain rfl : j = s.size := by omega
      have h1 := HC.out s.size
      rw [HE.out] at h1
      rw [HE.out]
      have h2 := not_nat (crc M (bl s)) h1
      clear h1
      go_wp2
      go_ret
      exact ⟨rfl, HB.out, only_drewN HG2.out k⟩
end Go.Proofs.Ythechafniolbnaa
