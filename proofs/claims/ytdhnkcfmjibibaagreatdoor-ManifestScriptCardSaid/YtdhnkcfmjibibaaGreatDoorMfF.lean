/- Manifests: numbers written into a builder one by one. Conditions: each theorem's own hypotheses. -/
import Derived.Test.YtdhnkcfmjibibaaGreatDoorZMfE
import Derived.Test.YtdhnkcfmjibibaaGreatDoorBld
import Derived.Test.YtdhnkcfmjibibaaGreatDoorSealB
namespace Go.Proofs.YtdhnkcfmjibibaaGreatDoor
open Go.RowKit Go.Maps
set_option linter.unusedVariables false

def Mf.enc (zs : List Nat) : List UInt8 := zs.flatMap Sl.putVar
theorem Mf.enc_succ (zs : List Nat) (k z : Nat) (h : zs[k]? = some z) : Mf.enc (zs.take (k + 1)) = Mf.enc (zs.take k) ++ Sl.putVar z := by
  unfold Mf.enc
  rw [List.take_add_one, h, List.flatMap_append]
  simp
theorem Mf.enc_len : ∀ zs : List Nat, (Mf.enc zs).length ≤ 10 * zs.length
  | [] => Nat.zero_le _
  | z :: zs => by
    have := Mf.enc_len zs
    have h := (Sl.pvf_len 9 z).2
    unfold Mf.enc at *
    rw [List.flatMap_cons, List.length_append, List.length_cons]
    show (Sl.pvf 9 z).length + _ ≤ _
    omega
def Mf.cells (zs : List Nat) : Array Value := (zs.map fun z : Nat => Value.int .i64 (z : Int)).toArray
theorem Mf.cells_at (zs : List Nat) (k z : Nat) (h : zs[k]? = some z) : (Mf.cells zs)[k]? = some (.int .i64 (z : Int)) := by
  unfold Mf.cells; simp [h]

/-- Behind k rounds k numbers are written. -/
def PutRel (B b g : Nat) (l : List UInt8) (zs : List Nat) (w : World) (i : Value) (wr : World) : Prop :=
  ∃ k : Nat, k ≤ zs.length ∧ i = .int .i64 k ∧ Lib.IsBuilder 89 5 B b (Lib.byteCells (l ++ Mf.enc (zs.take k))) wr ∧ Blk wr g 3 (Mf.cells zs) ∧ Below B w wr ∧ Others b w wr

set_option maxRecDepth 100000 in
set_option maxHeartbeats 1000000 in
theorem put_any (B b g c : Nat) (l : List UInt8) (zs : List Nat) (w : World) (hb : Lib.IsBuilder 89 5 B b (Lib.byteCells l) w) (hg : Blk w g 3 (Mf.cells zs)) (hgb : g ≠ b)
    (hz : ∀ z ∈ zs, z ≤ 1152921504606846976) (hl : l.length + 10 * zs.length ≤ 1099511627776) (hB : B ≤ w.heap.size) :
    Calls Tryz.prog 49 #[.slice (some ⟨g, 0, none⟩) zs.length c, .pointer (some ⟨b, 0, none⟩)] w fun e w' => e = .returned (.tuple #[]) ∧ Lib.IsBuilder 89 5 B b (Lib.byteCells (l ++ Mf.enc zs)) w' ∧ Below B w w' ∧ Others b w w' := by
  have HZ := Lib.hid hz
  clear hz
  go_enter Tryz.func49, Tryz.ntmps49
  go_wp2_with fail
  go_loopw [7] (fun i wr => PutRel B b g l zs w i wr) (fun i _ => zs.length - (intOf i).toNat)
  case atStart => exact ⟨0, Nat.zero_le _, rfl, by simpa [Mf.enc] using hb, hg, Below.refl _ _, Others.refl _ _⟩
  case round =>
    obtain ⟨k, hk, rfl, hb1, hg1, hB1, hO1⟩ := hrel
    by_cases hlt : k < zs.length
    · obtain ⟨z, hzk⟩ : ∃ z, zs[k]? = some z := ⟨_, List.getElem?_eq_getElem hlt⟩
      have hzl : z ≤ 1152921504606846976 := HZ.out z (List.mem_iff_getElem?.2 ⟨k, hzk⟩)
      have e1 : wr.cell? ⟨g, k, none⟩ = some (.int .i64 (z : Int)) := (hg1.cell k).trans (Mf.cells_at zs k z hzk)
      have hes := Mf.enc_succ zs k z hzk
      have hel := Mf.enc_len (zs.take k)
      have htl : (zs.take k).length ≤ k := List.length_take_le _ _
      obtain ⟨S, hS, hSd, hSs⟩ := str_of (Sl.putVar z)
      have hSl : S.size ≤ 10 := by rw [hSs]; exact (Sl.pvf_len 9 z).2
      have hpv : ∀ W, Calls Tryz.prog 51 #[.int .u64 z] W fun e w' => e = .returned (.string S) ∧ Below W.heap.size W w' := fun W => by rw [← hS]; exact putVar_any z W (by omega)
      have hcat : Lib.byteCells (l ++ Mf.enc (zs.take k)) ++ Lib.strCells S = Lib.byteCells (l ++ Mf.enc (zs.take (k + 1))) := by
        rw [hes, ← List.append_assoc]
        unfold Lib.byteCells Lib.strCells
        rw [List.map_append, List.map_append, List.map_append, hSd]
      have hlen : (Lib.byteCells (l ++ Mf.enc (zs.take k))).length ≤ 2199023255552 := by rw [Lib.byteCells_length, List.length_append]; omega
      have HP := Lib.hid hpv
      have HC := Lib.hid hcat
      have HJ := Lib.hid hzk
      clear hpv hcat hS hSd hSs hes hel htl hzk
      have fin := Lib.hid (show k + 1 ≤ zs.length by omega)
      go_wp2_with (go_at_call 51; refine (HP.out _).mono ?_)
      rintro e w2 ⟨rfl, hB2⟩
      have hOb := Others.below (b := b) hB2
      go_wp2_with (go_at_call 50; refine (writeString_any B b _ S _ (builder_below hb1 hB2) (by omega) (by have := hB1.size; have := hB2.size; omega)).mono ?_)
      rintro e w3 ⟨rfl, hb3, hB3, hO3⟩
      go_wp2_with fail
      go_roundw
      case rel =>
        refine ⟨k + 1, fin.out, by go_num, Or.inr (by rw [← HC.out]; exact hb3), hO3 g _ _ (by decide) hgb (hOb g _ _ (by decide) hgb hg1), ?_, (hO1.trans hOb).trans hO3⟩
        exact (hB1.trans (hB2.mono (by have := hB1.size; omega))).trans hB3
      case measure => simp only [intOf]; omega
    · obtain rfl : k = zs.length := by omega
      rw [List.take_length] at hb1
      go_wp2_with fail
      go_end0
      exact ⟨rfl, hb1, hB1, hO1⟩
end Go.Proofs.YtdhnkcfmjibibaaGreatDoor
