/- Contracts of the document's sumAt and begun. Conditions: each theorem's own hypotheses. -/
import Derived.Test.YtknemjnlcghafaaDoorSealB
import Derived.IntWalk
import Derived.Test.YtknemjnlcghafaaDoorPv
import Derived.WalkSpells
import Derived.OneCell
import Derived.WalkSmall
namespace Go.Proofs.YtknemjnlcghafaaDoor
open Go.RowKit

theorem or_up (i a x b : Nat) (hi : i ≤ 32) (ha : a < 2 ^ i) (hb : x * 2 ^ i < 4294967296) (hx : a + x * 2 ^ i = b) (y : Int) (hy : y = ((x * 2 ^ i : Nat) : Int)) : bits .or .u32 (a : Int) y = (b : Int) := by
  subst hy
  have hor : (a ||| x * 2 ^ i) = a + x * 2 ^ i := by
    rw [Nat.or_comm, nat_join i _ a (Nat.mul_mod_left _ _) ha, Nat.add_comm]
  have hal : a < 4294967296 := by
    have := Nat.pow_le_pow_right (n := 2) (by decide) hi
    have e : (2 : Nat) ^ 32 = 4294967296 := by decide
    omega
  rw [← hx, ← hor]
  exact u32_or_nat a (x * 2 ^ i) hal hb

end Go.Proofs.YtknemjnlcghafaaDoor
/- A contract of seal.Parse. Conditions: each theorem's own hypotheses. -/
namespace Go.Proofs.YtknemjnlcghafaaDoor
open Go.RowKit

/-- What Parse returns. -/
def parseV (at' : Nat) (R : Sl.Parsed) : Value := .tuple #[.int .i64 (R.kind : Int), str R.pay, .int .i64 ((if R.code = 0 then at' + R.len else 0 : Nat) : Int), .int .i64 (R.code : Int)]

theorem parse_bad (s : ByteArray) (k : Int) (w : World) (h : k < 0 ∨ (s.size : Int) < k) :
    Calls Tryd.prog 54 #[.string s, .int .i64 k] w fun e w' => e = .returned (.tuple #[.int .i64 0, .string ⟨#[]⟩, .int .i64 0, .int .i64 13]) ∧ w = w' := by
  by_cases h1 : k < 0
  · go_enter Tryd.func54, Tryd.ntmps54
    go_wp2_with fail
    exact bodyPost_ret (v := .tuple #[.int .i64 0, .string ⟨#[]⟩, .int .i64 0, .int .i64 13]) (by simp [results, Tryd.results54, go_sem]) rfl ⟨rfl, rfl⟩
  · have h2 : (s.size : Int) < k := by omega
    clear h
    go_enter Tryd.func54, Tryd.ntmps54
    go_wp2_with fail
    exact bodyPost_ret (v := .tuple #[.int .i64 0, .string ⟨#[]⟩, .int .i64 0, .int .i64 13]) (by simp [results, Tryd.results54, go_sem]) rfl ⟨rfl, rfl⟩

theorem one_cell_set (w : World) (L L' : ByteArray) (t : TypeId) : (w.alloc (.cells #[.string L] t)).setCell ⟨w.heap.size, 0, none⟩ (.string L') = w.alloc (.cells #[.string L'] t) := by
  rw [World.setCell_alloc_at _ _ _ _ _ rfl]; rfl

theorem ne_of (L : ByteArray) (h : 0 < L.size) : L.toList.isEmpty = false := by
  rw [ByteArray.toList_eq]
  rw [List.isEmpty_eq_false_iff]
  intro e
  have : L.data.toList.length = L.size := Array.length_toList
  rw [e] at this
  simp at this
  omega

theorem getD_byte (L : ByteArray) (k : Nat) (h : k < L.size) : L.data.toList.getD k 0 = L[k] := by
  rw [List.getD_eq_getElem?_getD, List.getElem?_eq_getElem (by simpa using h)]
  rfl

/-- The walk up to the refusals that the first ten bytes bring. -/
theorem parse_short (s L : ByteArray) (k : Nat) (w : World) (hk : k ≤ s.size) (hL : s.extract k s.size = L) (h0 : L.size = 0) :
    Calls Tryd.prog 54 #[.string s, .int .i64 k] w fun e w' => e = .returned (.tuple #[.int .i64 0, .string ⟨#[]⟩, .int .i64 0, .int .i64 31]) ∧ Below w.heap.size w w' := by
  have hmf : ∀ (fn : Fn) (first cap : Array Value) (w : World), (Instr.makeFunc fn first cap).run Tryd.prog w = .ok (.func fn first cap) w := fun _ _ _ _ => rfl
  have hd1 : decide ((k : Int) < 0) = false := by simp
  have hd2 : decide (s.size < k) = false := by simp; omega
  have he : L.toList.isEmpty = true := by
    rw [ByteArray.toList_eq, List.isEmpty_iff]
    apply List.eq_nil_of_length_eq_zero
    rw [Array.length_toList]; exact h0
  have H0 := Lib.hid h0
  clear h0
  go_enter Tryd.func54, Tryd.ntmps54
  go_wp2_with fail
  exact bodyPost_ret (v := .tuple #[.int .i64 0, .string ⟨#[]⟩, .int .i64 0, .int .i64 31]) (by simp [results, Tryd.results54, go_sem]) rfl ⟨rfl, (Below.refl _ _).alloc (Nat.le_refl _) _⟩

theorem parse_magic (s L : ByteArray) (k : Nat) (w : World) (hk : k ≤ s.size) (hL : s.extract k s.size = L) (h0 : 0 < L.size) (h1 : L[0].toNat ≠ 167) :
    Calls Tryd.prog 54 #[.string s, .int .i64 k] w fun e w' => e = .returned (.tuple #[.int .i64 0, .string ⟨#[]⟩, .int .i64 0, .int .i64 33]) ∧ Below w.heap.size w w' := by
  have hmf : ∀ (fn : Fn) (first cap : Array Value) (w : World), (Instr.makeFunc fn first cap).run Tryd.prog w = .ok (.func fn first cap) w := fun _ _ _ _ => rfl
  have hd1 : decide ((k : Int) < 0) = false := by simp
  have hd2 : decide (s.size < k) = false := by simp; omega
  have he := ne_of L h0
  have hm : ((L[0].toNat : Int) != 167) = true := by simp; omega
  go_enter Tryd.func54, Tryd.ntmps54
  go_wp2_with fail
  exact bodyPost_ret (v := .tuple #[.int .i64 0, .string ⟨#[]⟩, .int .i64 0, .int .i64 33]) (by simp [results, Tryd.results54, go_sem]) rfl ⟨rfl, (Below.refl _ _).alloc (Nat.le_refl _) _⟩

theorem parse_ten (s L : ByteArray) (k : Nat) (w : World) (hk : k ≤ s.size) (hL : s.extract k s.size = L) (h0 : 0 < L.size) (h1 : L[0].toNat = 167) (h2 : L.size < 10) :
    Calls Tryd.prog 54 #[.string s, .int .i64 k] w fun e w' => e = .returned (.tuple #[.int .i64 0, .string ⟨#[]⟩, .int .i64 0, .int .i64 31]) ∧ Below w.heap.size w w' := by
  have hmf : ∀ (fn : Fn) (first cap : Array Value) (w : World), (Instr.makeFunc fn first cap).run Tryd.prog w = .ok (.func fn first cap) w := fun _ _ _ _ => rfl
  have hd1 : decide ((k : Int) < 0) = false := by simp
  have hd2 : decide (s.size < k) = false := by simp; omega
  have he := ne_of L h0
  have hm : ((L[0].toNat : Int) != 167) = false := by simp; omega
  have H1 := Lib.hid h1
  clear h1
  go_enter Tryd.func54, Tryd.ntmps54
  go_wp2_with fail
  exact bodyPost_ret (v := .tuple #[.int .i64 0, .string ⟨#[]⟩, .int .i64 0, .int .i64 31]) (by simp [results, Tryd.results54, go_sem]) rfl ⟨rfl, (Below.refl _ _).alloc (Nat.le_refl _) _⟩

/-- .. from there on: X the head, Y the sum behind it, Z what is left behind both. -/
theorem parse_sum (s L X Y Z S : ByteArray) (k : Nat) (w : World) (hk : k ≤ s.size) (hL : s.extract k s.size = L) (h1 : ∀ h : 0 < L.size, L[0].toNat = 167) (h2 : 10 ≤ L.size) (hT : TabS w)
    (hX : L.extract 0 6 = X) (hXs : X.size = 6) (hM : L.extract 6 L.size = Z) (hY : Z.extract 0 4 = Y) (hZs : 4 ≤ Z.size) (hS : str (Sl.summed X.data.toList) = .string S) (hne : (Y.toList == S.toList) = false) :
    Calls Tryd.prog 54 #[.string s, .int .i64 k] w fun e w' => e = .returned (.tuple #[.int .i64 0, .string ⟨#[]⟩, .int .i64 0, .int .i64 34]) ∧ Below w.heap.size w w' := by
  have hmf : ∀ (fn : Fn) (first cap : Array Value) (w : World), (Instr.makeFunc fn first cap).run Tryd.prog w = .ok (.func fn first cap) w := fun _ _ _ _ => rfl
  have hd1 : decide ((k : Int) < 0) = false := by simp
  have hd2 : decide (s.size < k) = false := by simp; omega
  have h0 : 0 < L.size := by omega
  have he := ne_of L h0
  have hm : ((L[0].toNat : Int) != 167) = false := by have := h1 h0; simp; omega
  have HX := Lib.hid hX
  have HXs := Lib.hid hXs
  have HM := Lib.hid hM
  have HY := Lib.hid hY
  have HS := Lib.hid hS
  have HT := Lib.hid hT
  clear h1 hX hXs hM hY hS hT
  go_enter Tryd.func54, Tryd.ntmps54
  go_wp2_with fail
  refine (next_any L 6 _ _ (by omega) (World.cell?_alloc_at _ _ _ _ rfl) (World.frozen?_alloc_at _ _ _ _ rfl)).mono ?_
  rintro e w' ⟨rfl, rfl⟩
  rw [one_cell_set, HX.out, HM.out]
  go_wp2_with fail
  refine (next_any Z 4 _ _ (by omega) (World.cell?_alloc_at _ _ _ _ rfl) (World.frozen?_alloc_at _ _ _ _ rfl)).mono ?_
  rintro e w' ⟨rfl, rfl⟩
  rw [one_cell_set, HY.out]
  go_wp2_with fail
  refine (summed_any X _ (by rw [HXs.out]; unfold maxLen; omega) (HT.out.below ((Below.refl _ _).alloc (Nat.le_refl _) _))).mono ?_
  rintro e w1 ⟨rfl, hB1⟩
  rw [HS.out]
  go_wp2_with fail
  exact bodyPost_ret (v := .tuple #[.int .i64 0, .string ⟨#[]⟩, .int .i64 0, .int .i64 34]) (by simp [results, Tryd.results54, go_sem]) rfl ⟨rfl, ((Below.refl w.heap.size w).alloc (Nat.le_refl _) _).trans (hB1.mono (by simp))⟩

set_option maxRecDepth 100000 in
set_option maxHeartbeats 1000000 in
theorem parse_kind (s L X Y Z W S : ByteArray) (k : Nat) (w : World) (hk : k ≤ s.size) (hL : s.extract k s.size = L) (h1 : ∀ h : 0 < L.size, L[0].toNat = 167) (h2 : 10 ≤ L.size) (hT : TabS w)
    (hX : L.extract 0 6 = X) (hXs : X.size = 6) (hM : L.extract 6 L.size = Z) (hY : Z.extract 0 4 = Y) (hW : Z.extract 4 Z.size = W) (hZs : 4 ≤ Z.size) (hS : str (Sl.summed X.data.toList) = .string S) (heq : (Y.toList == S.toList) = true)
    (hkind : ∀ h : 1 < X.size, X[1].toNat = 0) :
    Calls Tryd.prog 54 #[.string s, .int .i64 k] w fun e w' => e = .returned (.tuple #[.int .i64 0, .string ⟨#[]⟩, .int .i64 0, .int .i64 35]) ∧ Below w.heap.size w w' := by
  have hmf : ∀ (fn : Fn) (first cap : Array Value) (w : World), (Instr.makeFunc fn first cap).run Tryd.prog w = .ok (.func fn first cap) w := fun _ _ _ _ => rfl
  have hd1 : decide ((k : Int) < 0) = false := by simp
  have hd2 : decide (s.size < k) = false := by simp; omega
  have h0 : 0 < L.size := by omega
  have he := ne_of L h0
  have hm : ((L[0].toNat : Int) != 167) = false := by have := h1 h0; simp; omega
  have hx2 : 1 < X.size := by omega
  have hx6 : X.size ≤ 6 := by omega
  have hkl : X[1].toNat < 256 := X[1].toNat_lt
  have hfix := fun w => fix_any X 2 4 w (by omega) (by omega) (by decide) (by decide)
  obtain ⟨n, hn⟩ : ∃ n, Sl.beNum ((X.data.toList.drop 2).take 4) = n := ⟨_, rfl⟩
  simp only [hn] at hfix
  have hnl : n < 4294967296 := by
    have := beNum_lt ((X.data.toList.drop 2).take 4)
    rw [hn, List.length_take_of_le (by simp; omega)] at this
    exact this
  have hk0 : ((X[1].toNat : Int) == 0) = true := by have := hkind hx2; simp; omega
  have HX := Lib.hid hX
  have HXs := Lib.hid hXs
  have HM := Lib.hid hM
  have HY := Lib.hid hY
  have HW := Lib.hid hW
  have HS := Lib.hid hS
  have HT := Lib.hid hT
  have HF := Lib.hid hfix
  have Hn := Lib.hid hn
  clear h1 hX hXs hM hY hW hS hT hfix hn hkind
  go_enter Tryd.func54, Tryd.ntmps54
  go_wp2_with fail
  refine (next_any L 6 _ _ (by omega) (World.cell?_alloc_at _ _ _ _ rfl) (World.frozen?_alloc_at _ _ _ _ rfl)).mono ?_
  rintro e w' ⟨rfl, rfl⟩
  rw [one_cell_set, HX.out, HM.out]
  go_wp2_with fail
  refine (next_any Z 4 _ _ (by omega) (World.cell?_alloc_at _ _ _ _ rfl) (World.frozen?_alloc_at _ _ _ _ rfl)).mono ?_
  rintro e w' ⟨rfl, rfl⟩
  rw [one_cell_set, HY.out, HW.out]
  go_wp2_with fail
  refine (summed_any X _ (by rw [HXs.out]; unfold maxLen; omega) (HT.out.below ((Below.refl _ _).alloc (Nat.le_refl _) _))).mono ?_
  rintro e w1 ⟨rfl, hB1⟩
  rw [HS.out]
  have hcell : w1.cell? ⟨w.heap.size, 0, none⟩ = some (.string W) := (hB1.cell (p := ⟨w.heap.size, 0, none⟩) (by simp)).trans (World.cell?_alloc_at _ _ _ _ rfl)
  have hfz : w1.frozen? ⟨w.heap.size, 0, none⟩ = false := (hB1.frozen (p := ⟨w.heap.size, 0, none⟩) (by simp)).trans (World.frozen?_alloc_at _ _ _ _ rfl)
  have hB : Below w.heap.size w w1 := ((Below.refl w.heap.size w).alloc (Nat.le_refl _) _).trans (hB1.mono (by simp))
  clear hB1
  go_wp2_with fail
  refine (HF.out _).mono ?_
  rintro e w' ⟨rfl, rfl⟩
  go_wp2_with fail
  exact bodyPost_ret (v := .tuple #[.int .i64 0, .string ⟨#[]⟩, .int .i64 0, .int .i64 35]) (by simp [results, Tryd.results54, go_sem]) rfl ⟨rfl, hB⟩

set_option maxRecDepth 100000 in
set_option maxHeartbeats 1000000 in
theorem parse_big (s L X Y Z W S : ByteArray) (k : Nat) (w : World) (hk : k ≤ s.size) (hL : s.extract k s.size = L) (h1 : ∀ h : 0 < L.size, L[0].toNat = 167) (h2 : 10 ≤ L.size) (hT : TabS w)
    (hX : L.extract 0 6 = X) (hXs : X.size = 6) (hM : L.extract 6 L.size = Z) (hY : Z.extract 0 4 = Y) (hW : Z.extract 4 Z.size = W) (hZs : 4 ≤ Z.size) (hS : str (Sl.summed X.data.toList) = .string S) (heq : (Y.toList == S.toList) = true)
    (hkind : ∀ h : 1 < X.size, X[1].toNat ≠ 0) (hbig : 65536 < Sl.beNum ((X.data.toList.drop 2).take 4)) :
    Calls Tryd.prog 54 #[.string s, .int .i64 k] w fun e w' => e = .returned (.tuple #[.int .i64 0, .string ⟨#[]⟩, .int .i64 0, .int .i64 36]) ∧ Below w.heap.size w w' := by
  have hmf : ∀ (fn : Fn) (first cap : Array Value) (w : World), (Instr.makeFunc fn first cap).run Tryd.prog w = .ok (.func fn first cap) w := fun _ _ _ _ => rfl
  have hd1 : decide ((k : Int) < 0) = false := by simp
  have hd2 : decide (s.size < k) = false := by simp; omega
  have h0 : 0 < L.size := by omega
  have he := ne_of L h0
  have hm : ((L[0].toNat : Int) != 167) = false := by have := h1 h0; simp; omega
  have hx2 : 1 < X.size := by omega
  have hx6 : X.size ≤ 6 := by omega
  have hkl : X[1].toNat < 256 := X[1].toNat_lt
  have hfix := fun w => fix_any X 2 4 w (by omega) (by omega) (by decide) (by decide)
  obtain ⟨n, hn⟩ : ∃ n, Sl.beNum ((X.data.toList.drop 2).take 4) = n := ⟨_, rfl⟩
  simp only [hn] at hfix
  have hnl : n < 4294967296 := by
    have := beNum_lt ((X.data.toList.drop 2).take 4)
    rw [hn, List.length_take_of_le (by simp; omega)] at this
    exact this
  have hk0 : ((X[1].toNat : Int) == 0) = false := by have := hkind hx2; simp; omega
  rw [hn] at hbig
  have HX := Lib.hid hX
  have HXs := Lib.hid hXs
  have HM := Lib.hid hM
  have HY := Lib.hid hY
  have HW := Lib.hid hW
  have HS := Lib.hid hS
  have HT := Lib.hid hT
  have HF := Lib.hid hfix
  have Hn := Lib.hid hn
  clear h1 hX hXs hM hY hW hS hT hfix hn hkind
  go_enter Tryd.func54, Tryd.ntmps54
  go_wp2_with fail
  refine (next_any L 6 _ _ (by omega) (World.cell?_alloc_at _ _ _ _ rfl) (World.frozen?_alloc_at _ _ _ _ rfl)).mono ?_
  rintro e w' ⟨rfl, rfl⟩
  rw [one_cell_set, HX.out, HM.out]
  go_wp2_with fail
  refine (next_any Z 4 _ _ (by omega) (World.cell?_alloc_at _ _ _ _ rfl) (World.frozen?_alloc_at _ _ _ _ rfl)).mono ?_
  rintro e w' ⟨rfl, rfl⟩
  rw [one_cell_set, HY.out, HW.out]
  go_wp2_with fail
  refine (summed_any X _ (by rw [HXs.out]; unfold maxLen; omega) (HT.out.below ((Below.refl _ _).alloc (Nat.le_refl _) _))).mono ?_
  rintro e w1 ⟨rfl, hB1⟩
  rw [HS.out]
  have hcell : w1.cell? ⟨w.heap.size, 0, none⟩ = some (.string W) := (hB1.cell (p := ⟨w.heap.size, 0, none⟩) (by simp)).trans (World.cell?_alloc_at _ _ _ _ rfl)
  have hfz : w1.frozen? ⟨w.heap.size, 0, none⟩ = false := (hB1.frozen (p := ⟨w.heap.size, 0, none⟩) (by simp)).trans (World.frozen?_alloc_at _ _ _ _ rfl)
  have hB : Below w.heap.size w w1 := ((Below.refl w.heap.size w).alloc (Nat.le_refl _) _).trans (hB1.mono (by simp))
  clear hB1
  go_wp2_with fail
  refine (HF.out _).mono ?_
  rintro e w' ⟨rfl, rfl⟩
  go_wp2_with fail
  exact bodyPost_ret (v := .tuple #[.int .i64 0, .string ⟨#[]⟩, .int .i64 0, .int .i64 36]) (by simp [results, Tryd.results54, go_sem]) rfl ⟨rfl, hB⟩
end Go.Proofs.YtknemjnlcghafaaDoor
/- Contracts of seal.Parse behind the head: too short, a wrong sum, a frame. Conditions: each theorem's own hypotheses. -/
namespace Go.Proofs.YtknemjnlcghafaaDoor
open Go.RowKit


set_option maxRecDepth 100000 in
set_option maxHeartbeats 1000000 in
theorem parse_long (s L X Y Z W S : ByteArray) (k n : Nat) (w : World) (hk : k ≤ s.size) (hL : s.extract k s.size = L) (h1 : ∀ h : 0 < L.size, L[0].toNat = 167) (h2 : 10 ≤ L.size) (hT : TabS w)
    (hX : L.extract 0 6 = X) (hXs : X.size = 6) (hM : L.extract 6 L.size = Z) (hY : Z.extract 0 4 = Y) (hW : Z.extract 4 Z.size = W) (hZs : 4 ≤ Z.size) (hS : str (Sl.summed X.data.toList) = .string S) (heq : (Y.toList == S.toList) = true)
    (hn : Sl.beNum ((X.data.toList.drop 2).take 4) = n) (hkind : ∀ h : 1 < X.size, X[1].toNat ≠ 0) (hbig : n ≤ 65536)
    (hlong : W.size < n + 4) :
    Calls Tryd.prog 54 #[.string s, .int .i64 k] w fun e w' => e = .returned (.tuple #[.int .i64 0, .string ⟨#[]⟩, .int .i64 0, .int .i64 31]) ∧ Below w.heap.size w w' := by
  have hmf : ∀ (fn : Fn) (first cap : Array Value) (w : World), (Instr.makeFunc fn first cap).run Tryd.prog w = .ok (.func fn first cap) w := fun _ _ _ _ => rfl
  have hd1 : decide ((k : Int) < 0) = false := by simp
  have hd2 : decide (s.size < k) = false := by simp; omega
  have h0 : 0 < L.size := by omega
  have he := ne_of L h0
  have hm : ((L[0].toNat : Int) != 167) = false := by have := h1 h0; simp; omega
  have hx2 : 1 < X.size := by omega
  have hx6 : X.size ≤ 6 := by omega
  have hkl : X[1].toNat < 256 := X[1].toNat_lt
  have hfix := fun w => fix_any X 2 4 w (by omega) (by omega) (by decide) (by decide)
  simp only [hn] at hfix
  have hk0 : ((X[1].toNat : Int) == 0) = false := by have := hkind hx2; simp; omega
  have HX := Lib.hid hX
  have HXs := Lib.hid hXs
  have HM := Lib.hid hM
  have HY := Lib.hid hY
  have HW := Lib.hid hW
  have HS := Lib.hid hS
  have HT := Lib.hid hT
  have HF := Lib.hid hfix
  clear h1 hX hXs hM hY hW hS hT hfix hn hkind
  go_enter Tryd.func54, Tryd.ntmps54
  go_wp2_with fail
  refine (next_any L 6 _ _ (by omega) (World.cell?_alloc_at _ _ _ _ rfl) (World.frozen?_alloc_at _ _ _ _ rfl)).mono ?_
  rintro e w' ⟨rfl, rfl⟩
  rw [one_cell_set, HX.out, HM.out]
  go_wp2_with fail
  refine (next_any Z 4 _ _ (by omega) (World.cell?_alloc_at _ _ _ _ rfl) (World.frozen?_alloc_at _ _ _ _ rfl)).mono ?_
  rintro e w' ⟨rfl, rfl⟩
  rw [one_cell_set, HY.out, HW.out]
  go_wp2_with fail
  refine (summed_any X _ (by rw [HXs.out]; unfold maxLen; omega) (HT.out.below ((Below.refl _ _).alloc (Nat.le_refl _) _))).mono ?_
  rintro e w1 ⟨rfl, hB1⟩
  rw [HS.out]
  have hcell : w1.cell? ⟨w.heap.size, 0, none⟩ = some (.string W) := (hB1.cell (p := ⟨w.heap.size, 0, none⟩) (by simp)).trans (World.cell?_alloc_at _ _ _ _ rfl)
  have hfz : w1.frozen? ⟨w.heap.size, 0, none⟩ = false := (hB1.frozen (p := ⟨w.heap.size, 0, none⟩) (by simp)).trans (World.frozen?_alloc_at _ _ _ _ rfl)
  have hB : Below w.heap.size w w1 := ((Below.refl w.heap.size w).alloc (Nat.le_refl _) _).trans (hB1.mono (by simp))
  have hsz : w.heap.size < w1.heap.size := by have := hB1.size; simp at this; omega
  clear hB1
  go_wp2_with fail
  refine (HF.out _).mono ?_
  rintro e w' ⟨rfl, rfl⟩
  go_wp2_with fail
  exact bodyPost_ret (v := .tuple #[.int .i64 0, .string ⟨#[]⟩, .int .i64 0, .int .i64 31]) (by simp [results, Tryd.results54, go_sem]) rfl ⟨rfl, hB⟩


set_option maxRecDepth 100000 in
set_option maxHeartbeats 1000000 in
theorem parse_tail (s L X Y Z W S : ByteArray) (k n : Nat) (w : World) (hk : k ≤ s.size) (hL : s.extract k s.size = L) (h1 : ∀ h : 0 < L.size, L[0].toNat = 167) (h2 : 10 ≤ L.size) (hT : TabS w)
    (hX : L.extract 0 6 = X) (hXs : X.size = 6) (hM : L.extract 6 L.size = Z) (hY : Z.extract 0 4 = Y) (hW : Z.extract 4 Z.size = W) (hZs : 4 ≤ Z.size) (hS : str (Sl.summed X.data.toList) = .string S) (heq : (Y.toList == S.toList) = true)
    (hn : Sl.beNum ((X.data.toList.drop 2).take 4) = n) (hkind : ∀ h : 1 < X.size, X[1].toNat ≠ 0) (hbig : n ≤ 65536)
    (hlong : n + 4 ≤ W.size) (P V U E S2 : ByteArray) (hP : W.extract 0 n = P) (hPs : P.size ≤ 65536) (hV : W.extract n W.size = V) (hVs : 4 ≤ V.size) (hU : V.extract 0 4 = U) (hE : V.extract 4 V.size = E) (hS2 : str (Sl.summed (X ++ P).data.toList) = .string S2) (hne : (U.toList == S2.toList) = false) :
    Calls Tryd.prog 54 #[.string s, .int .i64 k] w fun e w' => e = .returned (.tuple #[.int .i64 0, .string ⟨#[]⟩, .int .i64 0, .int .i64 34]) ∧ Below w.heap.size w w' := by
  have hmf : ∀ (fn : Fn) (first cap : Array Value) (w : World), (Instr.makeFunc fn first cap).run Tryd.prog w = .ok (.func fn first cap) w := fun _ _ _ _ => rfl
  have hd1 : decide ((k : Int) < 0) = false := by simp
  have hd2 : decide (s.size < k) = false := by simp; omega
  have h0 : 0 < L.size := by omega
  have he := ne_of L h0
  have hm : ((L[0].toNat : Int) != 167) = false := by have := h1 h0; simp; omega
  have hx2 : 1 < X.size := by omega
  have hx6 : X.size ≤ 6 := by omega
  have hkl : X[1].toNat < 256 := X[1].toNat_lt
  have hfix := fun w => fix_any X 2 4 w (by omega) (by omega) (by decide) (by decide)
  simp only [hn] at hfix
  have hk0 : ((X[1].toNat : Int) == 0) = false := by have := hkind hx2; simp; omega
  have HP := Lib.hid hP
  have HV := Lib.hid hV
  have HU := Lib.hid hU
  have HE := Lib.hid hE
  have HT2 := Lib.hid hS2
  clear hP hV hU hE hS2
  have HX := Lib.hid hX
  have HXs := Lib.hid hXs
  have HM := Lib.hid hM
  have HY := Lib.hid hY
  have HW := Lib.hid hW
  have HS := Lib.hid hS
  have HT := Lib.hid hT
  have HF := Lib.hid hfix
  clear h1 hX hXs hM hY hW hS hT hfix hn hkind
  go_enter Tryd.func54, Tryd.ntmps54
  go_wp2_with fail
  refine (next_any L 6 _ _ (by omega) (World.cell?_alloc_at _ _ _ _ rfl) (World.frozen?_alloc_at _ _ _ _ rfl)).mono ?_
  rintro e w' ⟨rfl, rfl⟩
  rw [one_cell_set, HX.out, HM.out]
  go_wp2_with fail
  refine (next_any Z 4 _ _ (by omega) (World.cell?_alloc_at _ _ _ _ rfl) (World.frozen?_alloc_at _ _ _ _ rfl)).mono ?_
  rintro e w' ⟨rfl, rfl⟩
  rw [one_cell_set, HY.out, HW.out]
  go_wp2_with fail
  refine (summed_any X _ (by rw [HXs.out]; unfold maxLen; omega) (HT.out.below ((Below.refl _ _).alloc (Nat.le_refl _) _))).mono ?_
  rintro e w1 ⟨rfl, hB1⟩
  rw [HS.out]
  have hcell : w1.cell? ⟨w.heap.size, 0, none⟩ = some (.string W) := (hB1.cell (p := ⟨w.heap.size, 0, none⟩) (by simp)).trans (World.cell?_alloc_at _ _ _ _ rfl)
  have hfz : w1.frozen? ⟨w.heap.size, 0, none⟩ = false := (hB1.frozen (p := ⟨w.heap.size, 0, none⟩) (by simp)).trans (World.frozen?_alloc_at _ _ _ _ rfl)
  have hB : Below w.heap.size w w1 := ((Below.refl w.heap.size w).alloc (Nat.le_refl _) _).trans (hB1.mono (by simp))
  have hsz : w.heap.size < w1.heap.size := by have := hB1.size; simp at this; omega
  clear hB1
  go_wp2_with fail
  refine (HF.out _).mono ?_
  rintro e w' ⟨rfl, rfl⟩
  go_wp2_with fail
  refine (next_any W n _ _ (by omega) hcell hfz).mono ?_
  rintro e w' ⟨rfl, rfl⟩
  rw [HP.out, HV.out]
  have hB2 : Below w.heap.size w (w1.setCell ⟨w.heap.size, 0, none⟩ (.string V)) := hB.setCell (p := ⟨w.heap.size, 0, none⟩) (Nat.le_refl _) _
  have hcell2 : (w1.setCell ⟨w.heap.size, 0, none⟩ (.string V)).cell? ⟨w.heap.size, 0, none⟩ = some (.string V) := World.cell?_setCell_same' _ _ _ (by rw [hcell]; rfl)
  have hfz2 : (w1.setCell ⟨w.heap.size, 0, none⟩ (.string V)).frozen? ⟨w.heap.size, 0, none⟩ = false := (World.frozen?_setCell _ _ _ _).trans hfz
  have hsz2 : w.heap.size < (w1.setCell ⟨w.heap.size, 0, none⟩ (.string V)).heap.size := by simpa [World.setCell] using hsz
  clear hcell hfz hB hsz
  obtain ⟨w2, hw2⟩ : ∃ w2, w1.setCell ⟨w.heap.size, 0, none⟩ (.string V) = w2 := ⟨_, rfl⟩
  rw [hw2] at hB2 hcell2 hfz2 hsz2 ⊢
  clear hw2
  go_wp2_with fail
  refine (next_any V 4 _ _ (by omega) hcell2 hfz2).mono ?_
  rintro e w' ⟨rfl, rfl⟩
  rw [HU.out, HE.out]
  have hB3 : Below w.heap.size w (w2.setCell ⟨w.heap.size, 0, none⟩ (.string E)) := hB2.setCell (p := ⟨w.heap.size, 0, none⟩) (Nat.le_refl _) _
  have hcell3 : (w2.setCell ⟨w.heap.size, 0, none⟩ (.string E)).cell? ⟨w.heap.size, 0, none⟩ = some (.string E) := World.cell?_setCell_same' _ _ _ (by rw [hcell2]; rfl)
  have hsz3 : w.heap.size < (w2.setCell ⟨w.heap.size, 0, none⟩ (.string E)).heap.size := by simpa [World.setCell] using hsz2
  clear hcell2 hfz2 hB2 hsz2
  obtain ⟨w3, hw3⟩ : ∃ w3, w2.setCell ⟨w.heap.size, 0, none⟩ (.string E) = w3 := ⟨_, rfl⟩
  rw [hw3] at hB3 hcell3 hsz3 ⊢
  clear hw3
  go_wp2_with fail
  refine (summed_any (X ++ P) _ (by unfold maxLen; rw [ByteArray.size_append]; omega) (HT.out.below hB3)).mono ?_
  rintro e w4 ⟨rfl, hB4⟩
  rw [HT2.out]
  have hcell4 : w4.cell? ⟨w.heap.size, 0, none⟩ = some (.string E) := (hB4.cell (p := ⟨w.heap.size, 0, none⟩) hsz3).trans hcell3
  have hB5 := hB3.trans (hB4.mono hB3.size)
  clear hB3 hB4 hcell3
  go_wp2_with fail
  exact bodyPost_ret (v := .tuple #[.int .i64 0, .string ⟨#[]⟩, .int .i64 0, .int .i64 34]) (by simp [results, Tryd.results54, go_sem]) rfl ⟨rfl, hB5⟩


set_option maxRecDepth 100000 in
set_option maxHeartbeats 1000000 in
theorem parse_good (s L X Y Z W S : ByteArray) (k n : Nat) (w : World) (hk : k ≤ s.size) (hL : s.extract k s.size = L) (h1 : ∀ h : 0 < L.size, L[0].toNat = 167) (h2 : 10 ≤ L.size) (hT : TabS w)
    (hX : L.extract 0 6 = X) (hXs : X.size = 6) (hM : L.extract 6 L.size = Z) (hY : Z.extract 0 4 = Y) (hW : Z.extract 4 Z.size = W) (hZs : 4 ≤ Z.size) (hS : str (Sl.summed X.data.toList) = .string S) (heq : (Y.toList == S.toList) = true)
    (hn : Sl.beNum ((X.data.toList.drop 2).take 4) = n) (hkind : ∀ h : 1 < X.size, X[1].toNat ≠ 0) (hbig : n ≤ 65536)
    (hlong : n + 4 ≤ W.size) (P V U E S2 : ByteArray) (hP : W.extract 0 n = P) (hPs : P.size ≤ 65536) (hV : W.extract n W.size = V) (hVs : 4 ≤ V.size) (hU : V.extract 0 4 = U) (hE : V.extract 4 V.size = E) (hS2 : str (Sl.summed (X ++ P).data.toList) = .string S2) (hq : (U.toList == S2.toList) = true) (hEs : E.size ≤ s.size) (hs : s.size ≤ 9223372036854775807) (c m : Nat) (hc : ∀ h : 1 < X.size, X[1].toNat = c) (hm' : s.size - E.size = m) :
    Calls Tryd.prog 54 #[.string s, .int .i64 k] w fun e w' => e = .returned (.tuple #[.int .i64 (c : Int), .string P, .int .i64 (m : Int), .int .i64 0]) ∧ Below w.heap.size w w' := by
  have hmf : ∀ (fn : Fn) (first cap : Array Value) (w : World), (Instr.makeFunc fn first cap).run Tryd.prog w = .ok (.func fn first cap) w := fun _ _ _ _ => rfl
  have hd1 : decide ((k : Int) < 0) = false := by simp
  have hd2 : decide (s.size < k) = false := by simp; omega
  have h0 : 0 < L.size := by omega
  have he := ne_of L h0
  have hm : ((L[0].toNat : Int) != 167) = false := by have := h1 h0; simp; omega
  have hx2 : 1 < X.size := by omega
  have hx6 : X.size ≤ 6 := by omega
  have hkl : X[1].toNat < 256 := X[1].toNat_lt
  have hfix := fun w => fix_any X 2 4 w (by omega) (by omega) (by decide) (by decide)
  simp only [hn] at hfix
  have hk0 : ((X[1].toNat : Int) == 0) = false := by have := hkind hx2; simp; omega
  have HP := Lib.hid hP
  have HV := Lib.hid hV
  have HU := Lib.hid hU
  have HE := Lib.hid hE
  have HT2 := Lib.hid hS2
  clear hP hV hU hE hS2
  have hcc := hc hx2
  rw [hcc] at hk0 hkl
  have i1 : IntKind.i64.wrap ((s.size : Int) - (E.size : Int)) = (m : Int) := by rw [IntWalk.i64_in _ (by omega)]; omega
  have i2 : (s.size : Int) - (E.size : Int) = (m : Int) := by omega
  clear hc hm'
  have HX := Lib.hid hX
  have HXs := Lib.hid hXs
  have HM := Lib.hid hM
  have HY := Lib.hid hY
  have HW := Lib.hid hW
  have HS := Lib.hid hS
  have HT := Lib.hid hT
  have HF := Lib.hid hfix
  clear h1 hX hXs hM hY hW hS hT hfix hn hkind
  go_enter Tryd.func54, Tryd.ntmps54
  go_wp2_with fail
  refine (next_any L 6 _ _ (by omega) (World.cell?_alloc_at _ _ _ _ rfl) (World.frozen?_alloc_at _ _ _ _ rfl)).mono ?_
  rintro e w' ⟨rfl, rfl⟩
  rw [one_cell_set, HX.out, HM.out]
  go_wp2_with fail
  refine (next_any Z 4 _ _ (by omega) (World.cell?_alloc_at _ _ _ _ rfl) (World.frozen?_alloc_at _ _ _ _ rfl)).mono ?_
  rintro e w' ⟨rfl, rfl⟩
  rw [one_cell_set, HY.out, HW.out]
  go_wp2_with fail
  refine (summed_any X _ (by rw [HXs.out]; unfold maxLen; omega) (HT.out.below ((Below.refl _ _).alloc (Nat.le_refl _) _))).mono ?_
  rintro e w1 ⟨rfl, hB1⟩
  rw [HS.out]
  have hcell : w1.cell? ⟨w.heap.size, 0, none⟩ = some (.string W) := (hB1.cell (p := ⟨w.heap.size, 0, none⟩) (by simp)).trans (World.cell?_alloc_at _ _ _ _ rfl)
  have hfz : w1.frozen? ⟨w.heap.size, 0, none⟩ = false := (hB1.frozen (p := ⟨w.heap.size, 0, none⟩) (by simp)).trans (World.frozen?_alloc_at _ _ _ _ rfl)
  have hB : Below w.heap.size w w1 := ((Below.refl w.heap.size w).alloc (Nat.le_refl _) _).trans (hB1.mono (by simp))
  have hsz : w.heap.size < w1.heap.size := by have := hB1.size; simp at this; omega
  clear hB1
  go_wp2_with fail
  refine (HF.out _).mono ?_
  rintro e w' ⟨rfl, rfl⟩
  go_wp2_with fail
  refine (next_any W n _ _ (by omega) hcell hfz).mono ?_
  rintro e w' ⟨rfl, rfl⟩
  rw [HP.out, HV.out]
  have hB2 : Below w.heap.size w (w1.setCell ⟨w.heap.size, 0, none⟩ (.string V)) := hB.setCell (p := ⟨w.heap.size, 0, none⟩) (Nat.le_refl _) _
  have hcell2 : (w1.setCell ⟨w.heap.size, 0, none⟩ (.string V)).cell? ⟨w.heap.size, 0, none⟩ = some (.string V) := World.cell?_setCell_same' _ _ _ (by rw [hcell]; rfl)
  have hfz2 : (w1.setCell ⟨w.heap.size, 0, none⟩ (.string V)).frozen? ⟨w.heap.size, 0, none⟩ = false := (World.frozen?_setCell _ _ _ _).trans hfz
  have hsz2 : w.heap.size < (w1.setCell ⟨w.heap.size, 0, none⟩ (.string V)).heap.size := by simpa [World.setCell] using hsz
  clear hcell hfz hB hsz
  obtain ⟨w2, hw2⟩ : ∃ w2, w1.setCell ⟨w.heap.size, 0, none⟩ (.string V) = w2 := ⟨_, rfl⟩
  rw [hw2] at hB2 hcell2 hfz2 hsz2 ⊢
  clear hw2
  go_wp2_with fail
  refine (next_any V 4 _ _ (by omega) hcell2 hfz2).mono ?_
  rintro e w' ⟨rfl, rfl⟩
  rw [HU.out, HE.out]
  have hB3 : Below w.heap.size w (w2.setCell ⟨w.heap.size, 0, none⟩ (.string E)) := hB2.setCell (p := ⟨w.heap.size, 0, none⟩) (Nat.le_refl _) _
  have hcell3 : (w2.setCell ⟨w.heap.size, 0, none⟩ (.string E)).cell? ⟨w.heap.size, 0, none⟩ = some (.string E) := World.cell?_setCell_same' _ _ _ (by rw [hcell2]; rfl)
  have hsz3 : w.heap.size < (w2.setCell ⟨w.heap.size, 0, none⟩ (.string E)).heap.size := by simpa [World.setCell] using hsz2
  clear hcell2 hfz2 hB2 hsz2
  obtain ⟨w3, hw3⟩ : ∃ w3, w2.setCell ⟨w.heap.size, 0, none⟩ (.string E) = w3 := ⟨_, rfl⟩
  rw [hw3] at hB3 hcell3 hsz3 ⊢
  clear hw3
  go_wp2_with fail
  refine (summed_any (X ++ P) _ (by unfold maxLen; rw [ByteArray.size_append]; omega) (HT.out.below hB3)).mono ?_
  rintro e w4 ⟨rfl, hB4⟩
  rw [HT2.out]
  have hcell4 : w4.cell? ⟨w.heap.size, 0, none⟩ = some (.string E) := (hB4.cell (p := ⟨w.heap.size, 0, none⟩) hsz3).trans hcell3
  have hB5 := hB3.trans (hB4.mono hB3.size)
  clear hB3 hB4 hcell3
  go_wp2_with fail
  go_quiet (fail)
  go_wp2_with fail
  exact bodyPost_ret (v := .tuple #[.int .i64 (c : Int), .string P, .int .i64 (m : Int), .int .i64 0]) (by simp [results, Tryd.results54, go_sem]) rfl ⟨rfl, below_drewN hB5 _⟩

end Go.Proofs.YtknemjnlcghafaaDoor
