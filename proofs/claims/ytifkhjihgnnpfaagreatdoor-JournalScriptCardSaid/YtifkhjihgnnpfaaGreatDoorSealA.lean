/- Contracts of seal.On, seal.Sum and of the document's On, Sum: they return the check sum CRC-32C. Conditions: each theorem's own hypotheses; the program's table of 16 numbers holds what its initialiser lays. -/
import Derived.Test.YtifkhjihgnnpfaaGreatDoorProg
import Derived.Test.YtifkhjihgnnpfaaGreatDoorCrc
import Derived.WalkKit
import Derived.Lib.Hide
namespace Go.Proofs.YtifkhjihgnnpfaaGreatDoor
open Go.RowKit

/-- Block 1 is the program's table. -/
def TabS (w : World) : Prop := ∀ j : Nat, j < 16 → w.cell? ⟨1, j, none⟩ = some (.int .u32 (Sl.crcT.getD j 0 : Nat))
theorem TabS.pos {w : World} (h : TabS w) : 1 < w.heap.size := World.block_lt_of_cell? w _ (h 0 (by decide))
theorem TabS.below {w w' : World} (h : TabS w) (hb : Below w.heap.size w w') : TabS w' := fun j hj => (hb.cell (p := ⟨1, j, none⟩) h.pos).trans (h j hj)

theorem take_snoc (s : ByteArray) (k : Nat) (h : k < s.size) : s.data.toList.take (k + 1) = s.data.toList.take k ++ [s[k]] := by
  rw [List.take_succ_eq_append_getElem (by simpa using h)]; rfl

theorem xmax (v : Nat) (hv : v < 4294967296) : bits .xor .u32 IntKind.u32.max (v : Int) = ((v ^^^ 4294967295 : Nat) : Int) := by
  rw [Nat.xor_comm]; exact u32_xor_nat 4294967295 v (by decide) hv

/-- n bits. -/
def stpN : Nat → Nat → Nat
  | 0, x => x
  | n + 1, x => stpN n (Sl.stp x)
theorem stpN_succ (n x : Nat) : stpN (n + 1) x = Sl.stp (stpN n x) := by
  induction n generalizing x with
  | zero => rfl
  | succ n ih => rw [stpN, ih]; rfl

set_option maxHeartbeats 400000 in
theorem on_any (v : Nat) (s : ByteArray) (w : World) (hs : s.size ≤ maxLen) (hv : v < 4294967296) (hT : TabS w) :
    Calls Tryz.prog 139 #[.int .u32 v, .string s] w fun e w' => e = .returned (.int .u32 (Sl.crcOn v s.data.toList)) ∧ w = w' := by
  unfold maxLen at hs
  have HT := Lib.hid hT
  clear hT
  obtain ⟨V0, hV0⟩ : ∃ V0, v ^^^ 4294967295 = V0 := ⟨_, rfl⟩
  have e0 := xmax v hv
  rw [hV0] at e0
  have hV0l : V0 < 4294967296 := by rw [← hV0]; exact Sl.xor_lt hv (by decide)
  have HV := Lib.hid hV0
  clear hV0
  go_enter Tryz.func139, Tryz.ntmps139
  go_wp2_with fail
  go_loop [5, 11] (fun a i => ∃ (k r : Nat), k ≤ s.size ∧ i = .int .i64 k ∧ a = .int .u32 r ∧ Sl.crcR V0 (s.data.toList.take k) = r) (fun _ i => s.size - (intOf i).toNat)
  case atStart => exact ⟨0, V0, Nat.zero_le _, rfl, rfl, rfl⟩
  case round =>
    obtain ⟨k, r, hk, rfl, rfl, hr⟩ := hrel
    have hrl : r < 4294967296 := by rw [← hr]; exact Sl.crcR_lt _ _ hV0l
    by_cases hlt : k < s.size
    · have hts := Sl.crcR_snoc V0 (s.data.toList.take k) s[k]
      rw [← take_snoc s k hlt, hr] at hts
      have hcl : s[k].toNat < 256 := s[k].toNat_lt
      unfold Sl.crcB at hts
      rw [Sl.stp4_eq] at hts
      rw [Sl.stp4_eq (r ^^^ s[k].toNat)] at hts
      obtain ⟨x1, hx1⟩ : ∃ x1, r ^^^ s[k].toNat = x1 := ⟨_, rfl⟩
      have e1 : bits .xor .u32 (r : Int) (s[k].toNat : Int) = (x1 : Int) := by rw [← hx1]; exact u32_xor_nat r _ hrl (by omega)
      rw [hx1] at hts
      have hx1l : x1 < 4294967296 := by rw [← hx1]; exact Sl.xor_lt hrl (by omega)
      obtain ⟨n1, hn1⟩ : ∃ n1, x1 % 16 = n1 := ⟨_, rfl⟩
      have e2 : bits .and .u32 (x1 : Int) 15 = (n1 : Int) := by rw [← hn1, ← nat_mask4]; exact u32_and_nat x1 15 hx1l (by decide)
      have hn1l : n1 < 16 := by omega
      have hc1 := HT.out n1 hn1l
      rw [hn1] at hts
      have ht1 := (by decide : ∀ j, j < 16 → Sl.crcT.getD j 0 < 4294967296) n1 hn1l
      obtain ⟨t1, ht1e⟩ : ∃ t1, Sl.crcT.getD n1 0 = t1 := ⟨_, rfl⟩
      rw [ht1e] at hts hc1 ht1
      obtain ⟨x2, hx2⟩ : ∃ x2, x1 / 16 ^^^ t1 = x2 := ⟨_, rfl⟩
      have e3 : bits .xor .u32 ((x1 : Int) / 16) (t1 : Int) = (x2 : Int) := by rw [← hx2]; exact u32_xor_nat (x1 / 16) t1 (by omega) ht1
      rw [hx2] at hts
      have hx2l : x2 < 4294967296 := by rw [← hx2]; exact Sl.xor_lt (by omega) ht1
      obtain ⟨n2, hn2⟩ : ∃ n2, x2 % 16 = n2 := ⟨_, rfl⟩
      have e4 : bits .and .u32 (x2 : Int) 15 = (n2 : Int) := by rw [← hn2, ← nat_mask4]; exact u32_and_nat x2 15 hx2l (by decide)
      have hn2l : n2 < 16 := by omega
      have hc2 := HT.out n2 hn2l
      rw [hn2] at hts
      have ht2 := (by decide : ∀ j, j < 16 → Sl.crcT.getD j 0 < 4294967296) n2 hn2l
      obtain ⟨t2, ht2e⟩ : ∃ t2, Sl.crcT.getD n2 0 = t2 := ⟨_, rfl⟩
      rw [ht2e] at hts hc2 ht2
      obtain ⟨x3, hx3⟩ : ∃ x3, x2 / 16 ^^^ t2 = x3 := ⟨_, rfl⟩
      have e5 : bits .xor .u32 ((x2 : Int) / 16) (t2 : Int) = (x3 : Int) := by rw [← hx3]; exact u32_xor_nat (x2 / 16) t2 (by omega) ht2
      rw [hx3] at hts
      have Hts := Lib.hid hts
      clear hts hr hx1 hn1 ht1e hx2 hn2 ht2e hx3 ht1 ht2
      go_wp2_with fail
      go_round
      case rel => exact ⟨k + 1, x3, by omega, by go_num, rfl, Hts.out⟩
      case measure => simp [intOf]; omega
    · obtain rfl : k = s.size := by omega
      have hfin : Sl.crcOn v s.data.toList = r ^^^ 4294967295 := by
        unfold Sl.crcOn
        rw [HV.out, ← hr, List.take_of_length_le (by simp)]
      have e6 := xmax r hrl
      rw [← hfin] at e6
      have Hf := Lib.hid hfin
      clear hr hfin
      go_wp2_with fail
      go_ret
      exact ⟨rfl, rfl⟩

set_option maxHeartbeats 400000 in
theorem refOn_any (v : Nat) (s : ByteArray) (w : World) (hs : s.size ≤ maxLen) (hv : v < 4294967296) :
    Calls Tryz.prog 126 #[.int .u32 v, .string s] w fun e w' => e = .returned (.int .u32 (Sl.crcOn v s.data.toList)) ∧ w = w' := by
  unfold maxLen at hs
  obtain ⟨V0, hV0⟩ : ∃ V0, v ^^^ 4294967295 = V0 := ⟨_, rfl⟩
  have e0 : bits .xor .u32 (v : Int) 4294967295 = (V0 : Int) := by rw [← hV0]; exact u32_xor_nat v 4294967295 hv (by decide)
  have hV0l : V0 < 4294967296 := by rw [← hV0]; exact Sl.xor_lt hv (by decide)
  have HV := Lib.hid hV0
  clear hV0
  go_enter Tryz.func126, Tryz.ntmps126
  go_wp2_with fail
  go_loop [5, 6, 7, 8] (fun a i _ _ => ∃ (k r : Nat), k ≤ s.size ∧ i = .int .i64 k ∧ a = .int .u32 r ∧ Sl.crcR V0 (s.data.toList.take k) = r) (fun _ i _ _ => s.size - (intOf i).toNat)
  case atStart => exact ⟨0, V0, Nat.zero_le _, rfl, rfl, rfl⟩
  case round =>
    obtain ⟨k, r, hk, rfl, rfl, hr⟩ := hrel
    have hrl : r < 4294967296 := by rw [← hr]; exact Sl.crcR_lt _ _ hV0l
    by_cases hlt : k < s.size
    · have hts := Sl.crcR_snoc V0 (s.data.toList.take k) s[k]
      rw [← take_snoc s k hlt, hr] at hts
      have hcl : s[k].toNat < 256 := s[k].toNat_lt
      obtain ⟨x1, hx1⟩ : ∃ x1, r ^^^ s[k].toNat = x1 := ⟨_, rfl⟩
      have e1 : bits .xor .u32 (r : Int) (s[k].toNat : Int) = (x1 : Int) := by rw [← hx1]; exact u32_xor_nat r _ hrl (by omega)
      have hx1l : x1 < 4294967296 := by rw [← hx1]; exact Sl.xor_lt hrl (by omega)
      unfold Sl.crcB at hts
      rw [hx1] at hts
      have Hts := Lib.hid hts
      clear hts hr hx1
      go_wp2_with fail
      go_loop [5, 7, 8] (fun a j _ => ∃ (n y : Nat), n ≤ 8 ∧ j = .int .i64 n ∧ a = .int .u32 y ∧ y < 4294967296 ∧ stpN n x1 = y) (fun _ j _ => 8 - (intOf j).toNat)
      case atStart => exact ⟨0, x1, by omega, rfl, rfl, hx1l, rfl⟩
      case round =>
        obtain ⟨n, y, hn, rfl, rfl, hyl, hy⟩ := hrel
        have Hy := Lib.hid hy
        clear hy
        by_cases hlt8 : n < 8
        · obtain ⟨o, ho⟩ : ∃ o, y % 2 = o := ⟨_, rfl⟩
          have e2 : bits .and .u32 (y : Int) 1 = (o : Int) := by rw [← ho, ← nat_mask1]; exact u32_and_nat y 1 hyl (by decide)
          have hst : stpN (n + 1) x1 = Sl.stp y := by rw [stpN_succ, Hy.out]
          have Hst := Lib.hid hst
          by_cases h1 : o = 1
          · subst h1
            have e3 : bits .xor .u32 ((y : Int) / 2) 2197175160 = ((y / 2 ^^^ 2197175160 : Nat) : Int) := u32_xor_nat (y / 2) 2197175160 (by omega) (by decide)
            obtain ⟨z, hz⟩ : ∃ z, y / 2 ^^^ 2197175160 = z := ⟨_, rfl⟩
            rw [hz] at e3
            have hzs : Sl.stp y = z := by unfold Sl.stp; rw [if_pos ho, hz]
            have hzl : z < 4294967296 := by rw [← hzs]; exact Sl.stp_lt y hyl
            have Hzs := Lib.hid hzs
            clear hst hz hzs ho
            go_wp2_with fail
            go_round
            case rel => exact ⟨n + 1, z, by omega, by go_num, rfl, hzl, Hst.out.trans Hzs.out⟩
            case measure => simp [intOf]; omega
          · have h0 : ((o : Int) == 1) = false := by simp; omega
            have hzs : Sl.stp y = y / 2 := by unfold Sl.stp; rw [if_neg (by omega), Nat.xor_zero]
            have Hzs := Lib.hid hzs
            clear hst hzs ho h1
            go_wp2_with fail
            go_round
            case rel => exact ⟨n + 1, y / 2, by omega, by go_num, by go_num, by omega, Hst.out.trans Hzs.out⟩
            case measure => simp [intOf]; omega
        · obtain rfl : n = 8 := by omega
          go_wp2_with fail
          go_round
          case rel => exact ⟨k + 1, y, by omega, by go_num, rfl, by rw [Hts.out]; exact Hy.out⟩
          case measure => simp [intOf]; omega
    · obtain rfl : k = s.size := by omega
      have hfin : Sl.crcOn v s.data.toList = r ^^^ 4294967295 := by
        unfold Sl.crcOn
        rw [HV.out, ← hr, List.take_of_length_le (by simp)]
      have e6 : bits .xor .u32 (r : Int) 4294967295 = ((r ^^^ 4294967295 : Nat) : Int) := u32_xor_nat r 4294967295 hrl (by decide)
      rw [← hfin] at e6
      have Hf := Lib.hid hfin
      clear hr hfin
      go_wp2_with fail
      go_ret
      exact ⟨rfl, rfl⟩

theorem sum_any (s : ByteArray) (w : World) (hs : s.size ≤ maxLen) (hT : TabS w) :
    Calls Tryz.prog 127 #[.string s] w fun e w' => e = .returned (.int .u32 (Sl.crc s.data.toList)) ∧ w = w' := by
  have HT := Lib.hid hT
  clear hT
  go_enter Tryz.func127, Tryz.ntmps127
  go_wp2_with fail
  refine (on_any 0 s _ hs (by decide) HT.out).mono ?_
  rintro e w' ⟨rfl, rfl⟩
  go_wp2_with fail
  go_ret
  exact ⟨rfl, rfl⟩

theorem refSum_any (s : ByteArray) (w : World) (hs : s.size ≤ maxLen) :
    Calls Tryz.prog 105 #[.string s] w fun e w' => e = .returned (.int .u32 (Sl.crc s.data.toList)) ∧ w = w' := by
  go_enter Tryz.func105, Tryz.ntmps105
  go_wp2_with fail
  refine (refOn_any 0 s _ hs (by decide)).mono ?_
  rintro e w' ⟨rfl, rfl⟩
  go_wp2_with fail
  go_ret
  exact ⟨rfl, rfl⟩
end Go.Proofs.YtifkhjihgnnpfaaGreatDoor
