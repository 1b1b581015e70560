/- Contracts of the document's sumAt and begun. Conditions: each theorem's own hypotheses. -/
import Derived.Test.YtifkhjihgnnpfaaGreatDoorSealB
import Derived.IntWalk
import Derived.Test.YtifkhjihgnnpfaaGreatDoorPv
import Derived.WalkSpells
import Derived.OneCell
import Derived.WalkSmall
import Derived.Lib.Strings
namespace Go.Proofs.YtifkhjihgnnpfaaGreatDoor
open Go.RowKit

theorem or_up (i a x b : Nat) (hi : i ≤ 32) (ha : a < 2 ^ i) (hb : x * 2 ^ i < 4294967296) (hx : a + x * 2 ^ i = b) (y : Int) (hy : y = ((x * 2 ^ i : Nat) : Int)) : bits .or .u32 (a : Int) y = (b : Int) := by
  subst hy
  have hor : (a ||| x * 2 ^ i) = a + x * 2 ^ i := by
    rw [Nat.or_comm, nat_join i _ a (Nat.mul_mod_left _ _) ha, Nat.add_comm]
  have hal : a < 4294967296 := by
    have := Nat.pow_le_pow_right (n := 2) (by decide) hi
    have e : (2 : Nat) ^ 32 = 4294967296 := by decide
    omega
  rw [← hx, ← hor]
  exact u32_or_nat a (x * 2 ^ i) hal hb

theorem sumAt_any (s : ByteArray) (k : Nat) (b0 b1 b2 b3 : UInt8) (w : World) (hs : s.size ≤ 9223372036854775807) (hk : k + 4 ≤ s.size)
    (h0 : s[k] = b0) (h1 : s[k + 1] = b1) (h2 : s[k + 2] = b2) (h3 : s[k + 3] = b3) :
    Calls Tryz.prog 111 #[.string s, .int .i64 k] w fun e w' => e = .returned (.int .u32 ((b0.toNat + 256 * b1.toNat + 65536 * b2.toNat + 16777216 * b3.toNat : Nat) : Int)) ∧ ∃ n, w' = w.drewN n := by
  have l0 := b0.toNat_lt
  have l1 := b1.toNat_lt
  have l2 := b2.toNat_lt
  have l3 := b3.toNat_lt
  have i1 : IntKind.i64.wrap ((k : Int) + 1) = (k : Int) + 1 := IntWalk.i64_in _ (by omega)
  have i2 : IntKind.i64.wrap ((k : Int) + 2) = (k : Int) + 2 := IntWalk.i64_in _ (by omega)
  have i3 : IntKind.i64.wrap ((k : Int) + 3) = (k : Int) + 3 := IntWalk.i64_in _ (by omega)
  have j1 : 0 ≤ (k : Int) + 1 := by omega
  have j2 : 0 ≤ (k : Int) + 2 := by omega
  have j3 : 0 ≤ (k : Int) + 3 := by omega
  have t1 : ((k : Int) + 1).toNat = k + 1 := by omega
  have t2 : ((k : Int) + 2).toNat = k + 2 := by omega
  have t3 : ((k : Int) + 3).toNat = k + 3 := by omega
  have q0 : (k : Int) < (s.size : Int) := by omega
  have q1 : (k : Int) + 1 < (s.size : Int) := by omega
  have q2 : (k : Int) + 2 < (s.size : Int) := by omega
  have q3 : (k : Int) + 3 < (s.size : Int) := by omega
  have e1 : bits .or .u32 (b0.toNat : Int) ((b1.toNat : Int) * 256) = ((b0.toNat + 256 * b1.toNat : Nat) : Int) := or_up 8 b0.toNat b1.toNat _ (by decide) (by omega) (by omega) (by omega) _ (by omega)
  have e2 : bits .or .u32 ((b0.toNat + 256 * b1.toNat : Nat) : Int) ((b2.toNat : Int) * 65536) = ((b0.toNat + 256 * b1.toNat + 65536 * b2.toNat : Nat) : Int) := or_up 16 (b0.toNat + 256 * b1.toNat) b2.toNat _ (by decide) (by omega) (by omega) (by omega) _ (by omega)
  have e3 : bits .or .u32 ((b0.toNat + 256 * b1.toNat + 65536 * b2.toNat : Nat) : Int) ((b3.toNat : Int) * 16777216) = ((b0.toNat + 256 * b1.toNat + 65536 * b2.toNat + 16777216 * b3.toNat : Nat) : Int) := or_up 24 (b0.toNat + 256 * b1.toNat + 65536 * b2.toNat) b3.toNat _ (by decide) (by omega) (by omega) (by omega) _ (by omega)
  have E : Hid (bits .or .u32 (bits .or .u32 (bits .or .u32 (b0.toNat : Int) ((b1.toNat : Int) * 256)) ((b2.toNat : Int) * 65536)) ((b3.toNat : Int) * 16777216) = ((b0.toNat + 256 * b1.toNat + 65536 * b2.toNat + 16777216 * b3.toNat : Nat) : Int)) := by
    show _ = _
    rw [e1, e2, e3]
  clear e1 e2 e3
  go_enter Tryz.func111, Tryz.ntmps111
  go_wp2_with fail
  go_quiet (fail)
  go_wp2_with fail
  go_ret
  exact ⟨by rw [← E.out]; rfl, ⟨_, rfl⟩⟩
end Go.Proofs.YtifkhjihgnnpfaaGreatDoor
/- A contract of seal.Parse. Conditions: each theorem's own hypotheses. -/
namespace Go.Proofs.YtifkhjihgnnpfaaGreatDoor
open Go.RowKit

/-- What Parse returns. -/
def parseV (at' : Nat) (R : Sl.Parsed) : Value := .tuple #[.int .i64 (R.kind : Int), str R.pay, .int .i64 ((if R.code = 0 then at' + R.len else 0 : Nat) : Int), .int .i64 (R.code : Int)]

theorem parse_bad (s : ByteArray) (k : Int) (w : World) (h : k < 0 ∨ (s.size : Int) < k) :
    Calls Tryz.prog 88 #[.string s, .int .i64 k] w fun e w' => e = .returned (.tuple #[.int .i64 0, .string ⟨#[]⟩, .int .i64 0, .int .i64 13]) ∧ w = w' := by
  by_cases h1 : k < 0
  · go_enter Tryz.func88, Tryz.ntmps88
    go_wp2_with fail
    exact bodyPost_ret (v := .tuple #[.int .i64 0, .string ⟨#[]⟩, .int .i64 0, .int .i64 13]) (by simp [results, Tryz.results88, go_sem]) rfl ⟨rfl, rfl⟩
  · have h2 : (s.size : Int) < k := by omega
    clear h
    go_enter Tryz.func88, Tryz.ntmps88
    go_wp2_with fail
    exact bodyPost_ret (v := .tuple #[.int .i64 0, .string ⟨#[]⟩, .int .i64 0, .int .i64 13]) (by simp [results, Tryz.results88, go_sem]) rfl ⟨rfl, rfl⟩

theorem one_cell_set (w : World) (L L' : ByteArray) (t : TypeId) : (w.alloc (.cells #[.string L] t)).setCell ⟨w.heap.size, 0, none⟩ (.string L') = w.alloc (.cells #[.string L'] t) := by
  rw [World.setCell_alloc_at _ _ _ _ _ rfl]; rfl

theorem ne_of (L : ByteArray) (h : 0 < L.size) : L.toList.isEmpty = false := by
  rw [ByteArray.toList_eq]
  rw [List.isEmpty_eq_false_iff]
  intro e
  have : L.data.toList.length = L.size := Array.length_toList
  rw [e] at this
  simp at this
  omega

theorem getD_byte (L : ByteArray) (k : Nat) (h : k < L.size) : L.data.toList.getD k 0 = L[k] := by
  rw [List.getD_eq_getElem?_getD, List.getElem?_eq_getElem (by simpa using h)]
  rfl

/-- The walk up to the refusals that the first ten bytes bring. -/
theorem parse_short (s L : ByteArray) (k : Nat) (w : World) (hk : k ≤ s.size) (hL : s.extract k s.size = L) (h0 : L.size = 0) :
    Calls Tryz.prog 88 #[.string s, .int .i64 k] w fun e w' => e = .returned (.tuple #[.int .i64 0, .string ⟨#[]⟩, .int .i64 0, .int .i64 31]) ∧ Below w.heap.size w w' := by
  have hmf : ∀ (fn : Fn) (first cap : Array Value) (w : World), (Instr.makeFunc fn first cap).run Tryz.prog w = .ok (.func fn first cap) w := fun _ _ _ _ => rfl
  have hd1 : decide ((k : Int) < 0) = false := by simp
  have hd2 : decide (s.size < k) = false := by simp; omega
  have he : L.toList.isEmpty = true := by
    rw [ByteArray.toList_eq, List.isEmpty_iff]
    apply List.eq_nil_of_length_eq_zero
    rw [Array.length_toList]; exact h0
  have H0 := Lib.hid h0
  clear h0
  go_enter Tryz.func88, Tryz.ntmps88
  go_wp2_with fail
  exact bodyPost_ret (v := .tuple #[.int .i64 0, .string ⟨#[]⟩, .int .i64 0, .int .i64 31]) (by simp [results, Tryz.results88, go_sem]) rfl ⟨rfl, (Below.refl _ _).alloc (Nat.le_refl _) _⟩

theorem parse_magic (s L : ByteArray) (k : Nat) (w : World) (hk : k ≤ s.size) (hL : s.extract k s.size = L) (h0 : 0 < L.size) (h1 : L[0].toNat ≠ 167) :
    Calls Tryz.prog 88 #[.string s, .int .i64 k] w fun e w' => e = .returned (.tuple #[.int .i64 0, .string ⟨#[]⟩, .int .i64 0, .int .i64 33]) ∧ Below w.heap.size w w' := by
  have hmf : ∀ (fn : Fn) (first cap : Array Value) (w : World), (Instr.makeFunc fn first cap).run Tryz.prog w = .ok (.func fn first cap) w := fun _ _ _ _ => rfl
  have hd1 : decide ((k : Int) < 0) = false := by simp
  have hd2 : decide (s.size < k) = false := by simp; omega
  have he := ne_of L h0
  have hm : ((L[0].toNat : Int) != 167) = true := by simp; omega
  go_enter Tryz.func88, Tryz.ntmps88
  go_wp2_with fail
  exact bodyPost_ret (v := .tuple #[.int .i64 0, .string ⟨#[]⟩, .int .i64 0, .int .i64 33]) (by simp [results, Tryz.results88, go_sem]) rfl ⟨rfl, (Below.refl _ _).alloc (Nat.le_refl _) _⟩

theorem parse_ten (s L : ByteArray) (k : Nat) (w : World) (hk : k ≤ s.size) (hL : s.extract k s.size = L) (h0 : 0 < L.size) (h1 : L[0].toNat = 167) (h2 : L.size < 10) :
    Calls Tryz.prog 88 #[.string s, .int .i64 k] w fun e w' => e = .returned (.tuple #[.int .i64 0, .string ⟨#[]⟩, .int .i64 0, .int .i64 31]) ∧ Below w.heap.size w w' := by
  have hmf : ∀ (fn : Fn) (first cap : Array Value) (w : World), (Instr.makeFunc fn first cap).run Tryz.prog w = .ok (.func fn first cap) w := fun _ _ _ _ => rfl
  have hd1 : decide ((k : Int) < 0) = false := by simp
  have hd2 : decide (s.size < k) = false := by simp; omega
  have he := ne_of L h0
  have hm : ((L[0].toNat : Int) != 167) = false := by simp; omega
  have H1 := Lib.hid h1
  clear h1
  go_enter Tryz.func88, Tryz.ntmps88
  go_wp2_with fail
  exact bodyPost_ret (v := .tuple #[.int .i64 0, .string ⟨#[]⟩, .int .i64 0, .int .i64 31]) (by simp [results, Tryz.results88, go_sem]) rfl ⟨rfl, (Below.refl _ _).alloc (Nat.le_refl _) _⟩

/-- .. from there on: X the head, Y the sum behind it, Z what is left behind both. -/
theorem parse_sum (s L X Y Z S : ByteArray) (k : Nat) (w : World) (hk : k ≤ s.size) (hL : s.extract k s.size = L) (h1 : ∀ h : 0 < L.size, L[0].toNat = 167) (h2 : 10 ≤ L.size) (hT : TabS w)
    (hX : L.extract 0 6 = X) (hXs : X.size = 6) (hM : L.extract 6 L.size = Z) (hY : Z.extract 0 4 = Y) (hZs : 4 ≤ Z.size) (hS : str (Sl.summed X.data.toList) = .string S) (hne : (Y.toList == S.toList) = false) :
    Calls Tryz.prog 88 #[.string s, .int .i64 k] w fun e w' => e = .returned (.tuple #[.int .i64 0, .string ⟨#[]⟩, .int .i64 0, .int .i64 34]) ∧ Below w.heap.size w w' := by
  have hmf : ∀ (fn : Fn) (first cap : Array Value) (w : World), (Instr.makeFunc fn first cap).run Tryz.prog w = .ok (.func fn first cap) w := fun _ _ _ _ => rfl
  have hd1 : decide ((k : Int) < 0) = false := by simp
  have hd2 : decide (s.size < k) = false := by simp; omega
  have h0 : 0 < L.size := by omega
  have he := ne_of L h0
  have hm : ((L[0].toNat : Int) != 167) = false := by have := h1 h0; simp; omega
  have HX := Lib.hid hX
  have HXs := Lib.hid hXs
  have HM := Lib.hid hM
  have HY := Lib.hid hY
  have HS := Lib.hid hS
  have HT := Lib.hid hT
  clear h1 hX hXs hM hY hS hT
  go_enter Tryz.func88, Tryz.ntmps88
  go_wp2_with fail
  refine (next_any L 6 _ _ (by omega) (World.cell?_alloc_at _ _ _ _ rfl) (World.frozen?_alloc_at _ _ _ _ rfl)).mono ?_
  rintro e w' ⟨rfl, rfl⟩
  rw [one_cell_set, HX.out, HM.out]
  go_wp2_with fail
  refine (next_any Z 4 _ _ (by omega) (World.cell?_alloc_at _ _ _ _ rfl) (World.frozen?_alloc_at _ _ _ _ rfl)).mono ?_
  rintro e w' ⟨rfl, rfl⟩
  rw [one_cell_set, HY.out]
  go_wp2_with fail
  refine (summed_any X _ (by rw [HXs.out]; unfold maxLen; omega) (HT.out.below ((Below.refl _ _).alloc (Nat.le_refl _) _))).mono ?_
  rintro e w1 ⟨rfl, hB1⟩
  rw [HS.out]
  go_wp2_with fail
  exact bodyPost_ret (v := .tuple #[.int .i64 0, .string ⟨#[]⟩, .int .i64 0, .int .i64 34]) (by simp [results, Tryz.results88, go_sem]) rfl ⟨rfl, ((Below.refl w.heap.size w).alloc (Nat.le_refl _) _).trans (hB1.mono (by simp))⟩

set_option maxRecDepth 100000 in
set_option maxHeartbeats 1000000 in
theorem parse_kind (s L X Y Z W S : ByteArray) (k : Nat) (w : World) (hk : k ≤ s.size) (hL : s.extract k s.size = L) (h1 : ∀ h : 0 < L.size, L[0].toNat = 167) (h2 : 10 ≤ L.size) (hT : TabS w)
    (hX : L.extract 0 6 = X) (hXs : X.size = 6) (hM : L.extract 6 L.size = Z) (hY : Z.extract 0 4 = Y) (hW : Z.extract 4 Z.size = W) (hZs : 4 ≤ Z.size) (hS : str (Sl.summed X.data.toList) = .string S) (heq : (Y.toList == S.toList) = true)
    (hkind : ∀ h : 1 < X.size, X[1].toNat = 0) :
    Calls Tryz.prog 88 #[.string s, .int .i64 k] w fun e w' => e = .returned (.tuple #[.int .i64 0, .string ⟨#[]⟩, .int .i64 0, .int .i64 35]) ∧ Below w.heap.size w w' := by
  have hmf : ∀ (fn : Fn) (first cap : Array Value) (w : World), (Instr.makeFunc fn first cap).run Tryz.prog w = .ok (.func fn first cap) w := fun _ _ _ _ => rfl
  have hd1 : decide ((k : Int) < 0) = false := by simp
  have hd2 : decide (s.size < k) = false := by simp; omega
  have h0 : 0 < L.size := by omega
  have he := ne_of L h0
  have hm : ((L[0].toNat : Int) != 167) = false := by have := h1 h0; simp; omega
  have hx2 : 1 < X.size := by omega
  have hx6 : X.size ≤ 6 := by omega
  have hkl : X[1].toNat < 256 := X[1].toNat_lt
  have hfix := fun w => fix_any X 2 4 w (by omega) (by omega) (by decide) (by decide)
  obtain ⟨n, hn⟩ : ∃ n, Sl.beNum ((X.data.toList.drop 2).take 4) = n := ⟨_, rfl⟩
  simp only [hn] at hfix
  have hnl : n < 4294967296 := by
    have := beNum_lt ((X.data.toList.drop 2).take 4)
    rw [hn, List.length_take_of_le (by simp; omega)] at this
    exact this
  have hk0 : ((X[1].toNat : Int) == 0) = true := by have := hkind hx2; simp; omega
  have HX := Lib.hid hX
  have HXs := Lib.hid hXs
  have HM := Lib.hid hM
  have HY := Lib.hid hY
  have HW := Lib.hid hW
  have HS := Lib.hid hS
  have HT := Lib.hid hT
  have HF := Lib.hid hfix
  have Hn := Lib.hid hn
  clear h1 hX hXs hM hY hW hS hT hfix hn hkind
  go_enter Tryz.func88, Tryz.ntmps88
  go_wp2_with fail
  refine (next_any L 6 _ _ (by omega) (World.cell?_alloc_at _ _ _ _ rfl) (World.frozen?_alloc_at _ _ _ _ rfl)).mono ?_
  rintro e w' ⟨rfl, rfl⟩
  rw [one_cell_set, HX.out, HM.out]
  go_wp2_with fail
  refine (next_any Z 4 _ _ (by omega) (World.cell?_alloc_at _ _ _ _ rfl) (World.frozen?_alloc_at _ _ _ _ rfl)).mono ?_
  rintro e w' ⟨rfl, rfl⟩
  rw [one_cell_set, HY.out, HW.out]
  go_wp2_with fail
  refine (summed_any X _ (by rw [HXs.out]; unfold maxLen; omega) (HT.out.below ((Below.refl _ _).alloc (Nat.le_refl _) _))).mono ?_
  rintro e w1 ⟨rfl, hB1⟩
  rw [HS.out]
  have hcell : w1.cell? ⟨w.heap.size, 0, none⟩ = some (.string W) := (hB1.cell (p := ⟨w.heap.size, 0, none⟩) (by simp)).trans (World.cell?_alloc_at _ _ _ _ rfl)
  have hfz : w1.frozen? ⟨w.heap.size, 0, none⟩ = false := (hB1.frozen (p := ⟨w.heap.size, 0, none⟩) (by simp)).trans (World.frozen?_alloc_at _ _ _ _ rfl)
  have hB : Below w.heap.size w w1 := ((Below.refl w.heap.size w).alloc (Nat.le_refl _) _).trans (hB1.mono (by simp))
  clear hB1
  go_wp2_with fail
  refine (HF.out _).mono ?_
  rintro e w' ⟨rfl, rfl⟩
  go_wp2_with fail
  exact bodyPost_ret (v := .tuple #[.int .i64 0, .string ⟨#[]⟩, .int .i64 0, .int .i64 35]) (by simp [results, Tryz.results88, go_sem]) rfl ⟨rfl, hB⟩

set_option maxRecDepth 100000 in
set_option maxHeartbeats 1000000 in
theorem parse_big (s L X Y Z W S : ByteArray) (k : Nat) (w : World) (hk : k ≤ s.size) (hL : s.extract k s.size = L) (h1 : ∀ h : 0 < L.size, L[0].toNat = 167) (h2 : 10 ≤ L.size) (hT : TabS w)
    (hX : L.extract 0 6 = X) (hXs : X.size = 6) (hM : L.extract 6 L.size = Z) (hY : Z.extract 0 4 = Y) (hW : Z.extract 4 Z.size = W) (hZs : 4 ≤ Z.size) (hS : str (Sl.summed X.data.toList) = .string S) (heq : (Y.toList == S.toList) = true)
    (hkind : ∀ h : 1 < X.size, X[1].toNat ≠ 0) (hbig : 65536 < Sl.beNum ((X.data.toList.drop 2).take 4)) :
    Calls Tryz.prog 88 #[.string s, .int .i64 k] w fun e w' => e = .returned (.tuple #[.int .i64 0, .string ⟨#[]⟩, .int .i64 0, .int .i64 36]) ∧ Below w.heap.size w w' := by
  have hmf : ∀ (fn : Fn) (first cap : Array Value) (w : World), (Instr.makeFunc fn first cap).run Tryz.prog w = .ok (.func fn first cap) w := fun _ _ _ _ => rfl
  have hd1 : decide ((k : Int) < 0) = false := by simp
  have hd2 : decide (s.size < k) = false := by simp; omega
  have h0 : 0 < L.size := by omega
  have he := ne_of L h0
  have hm : ((L[0].toNat : Int) != 167) = false := by have := h1 h0; simp; omega
  have hx2 : 1 < X.size := by omega
  have hx6 : X.size ≤ 6 := by omega
  have hkl : X[1].toNat < 256 := X[1].toNat_lt
  have hfix := fun w => fix_any X 2 4 w (by omega) (by omega) (by decide) (by decide)
  obtain ⟨n, hn⟩ : ∃ n, Sl.beNum ((X.data.toList.drop 2).take 4) = n := ⟨_, rfl⟩
  simp only [hn] at hfix
  have hnl : n < 4294967296 := by
    have := beNum_lt ((X.data.toList.drop 2).take 4)
    rw [hn, List.length_take_of_le (by simp; omega)] at this
    exact this
  have hk0 : ((X[1].toNat : Int) == 0) = false := by have := hkind hx2; simp; omega
  rw [hn] at hbig
  have HX := Lib.hid hX
  have HXs := Lib.hid hXs
  have HM := Lib.hid hM
  have HY := Lib.hid hY
  have HW := Lib.hid hW
  have HS := Lib.hid hS
  have HT := Lib.hid hT
  have HF := Lib.hid hfix
  have Hn := Lib.hid hn
  clear h1 hX hXs hM hY hW hS hT hfix hn hkind
  go_enter Tryz.func88, Tryz.ntmps88
  go_wp2_with fail
  refine (next_any L 6 _ _ (by omega) (World.cell?_alloc_at _ _ _ _ rfl) (World.frozen?_alloc_at _ _ _ _ rfl)).mono ?_
  rintro e w' ⟨rfl, rfl⟩
  rw [one_cell_set, HX.out, HM.out]
  go_wp2_with fail
  refine (next_any Z 4 _ _ (by omega) (World.cell?_alloc_at _ _ _ _ rfl) (World.frozen?_alloc_at _ _ _ _ rfl)).mono ?_
  rintro e w' ⟨rfl, rfl⟩
  rw [one_cell_set, HY.out, HW.out]
  go_wp2_with fail
  refine (summed_any X _ (by rw [HXs.out]; unfold maxLen; omega) (HT.out.below ((Below.refl _ _).alloc (Nat.le_refl _) _))).mono ?_
  rintro e w1 ⟨rfl, hB1⟩
  rw [HS.out]
  have hcell : w1.cell? ⟨w.heap.size, 0, none⟩ = some (.string W) := (hB1.cell (p := ⟨w.heap.size, 0, none⟩) (by simp)).trans (World.cell?_alloc_at _ _ _ _ rfl)
  have hfz : w1.frozen? ⟨w.heap.size, 0, none⟩ = false := (hB1.frozen (p := ⟨w.heap.size, 0, none⟩) (by simp)).trans (World.frozen?_alloc_at _ _ _ _ rfl)
  have hB : Below w.heap.size w w1 := ((Below.refl w.heap.size w).alloc (Nat.le_refl _) _).trans (hB1.mono (by simp))
  clear hB1
  go_wp2_with fail
  refine (HF.out _).mono ?_
  rintro e w' ⟨rfl, rfl⟩
  go_wp2_with fail
  exact bodyPost_ret (v := .tuple #[.int .i64 0, .string ⟨#[]⟩, .int .i64 0, .int .i64 36]) (by simp [results, Tryz.results88, go_sem]) rfl ⟨rfl, hB⟩
end Go.Proofs.YtifkhjihgnnpfaaGreatDoor
/- Contracts of seal.Parse behind the head: too short, a wrong sum, a frame. Conditions: each theorem's own hypotheses. -/
namespace Go.Proofs.YtifkhjihgnnpfaaGreatDoor
open Go.RowKit


set_option maxRecDepth 100000 in
set_option maxHeartbeats 1000000 in
theorem parse_long (s L X Y Z W S : ByteArray) (k n : Nat) (w : World) (hk : k ≤ s.size) (hL : s.extract k s.size = L) (h1 : ∀ h : 0 < L.size, L[0].toNat = 167) (h2 : 10 ≤ L.size) (hT : TabS w)
    (hX : L.extract 0 6 = X) (hXs : X.size = 6) (hM : L.extract 6 L.size = Z) (hY : Z.extract 0 4 = Y) (hW : Z.extract 4 Z.size = W) (hZs : 4 ≤ Z.size) (hS : str (Sl.summed X.data.toList) = .string S) (heq : (Y.toList == S.toList) = true)
    (hn : Sl.beNum ((X.data.toList.drop 2).take 4) = n) (hkind : ∀ h : 1 < X.size, X[1].toNat ≠ 0) (hbig : n ≤ 65536)
    (hlong : W.size < n + 4) :
    Calls Tryz.prog 88 #[.string s, .int .i64 k] w fun e w' => e = .returned (.tuple #[.int .i64 0, .string ⟨#[]⟩, .int .i64 0, .int .i64 31]) ∧ Below w.heap.size w w' := by
  have hmf : ∀ (fn : Fn) (first cap : Array Value) (w : World), (Instr.makeFunc fn first cap).run Tryz.prog w = .ok (.func fn first cap) w := fun _ _ _ _ => rfl
  have hd1 : decide ((k : Int) < 0) = false := by simp
  have hd2 : decide (s.size < k) = false := by simp; omega
  have h0 : 0 < L.size := by omega
  have he := ne_of L h0
  have hm : ((L[0].toNat : Int) != 167) = false := by have := h1 h0; simp; omega
  have hx2 : 1 < X.size := by omega
  have hx6 : X.size ≤ 6 := by omega
  have hkl : X[1].toNat < 256 := X[1].toNat_lt
  have hfix := fun w => fix_any X 2 4 w (by omega) (by omega) (by decide) (by decide)
  simp only [hn] at hfix
  have hk0 : ((X[1].toNat : Int) == 0) = false := by have := hkind hx2; simp; omega
  have HX := Lib.hid hX
  have HXs := Lib.hid hXs
  have HM := Lib.hid hM
  have HY := Lib.hid hY
  have HW := Lib.hid hW
  have HS := Lib.hid hS
  have HT := Lib.hid hT
  have HF := Lib.hid hfix
  clear h1 hX hXs hM hY hW hS hT hfix hn hkind
  go_enter Tryz.func88, Tryz.ntmps88
  go_wp2_with fail
  refine (next_any L 6 _ _ (by omega) (World.cell?_alloc_at _ _ _ _ rfl) (World.frozen?_alloc_at _ _ _ _ rfl)).mono ?_
  rintro e w' ⟨rfl, rfl⟩
  rw [one_cell_set, HX.out, HM.out]
  go_wp2_with fail
  refine (next_any Z 4 _ _ (by omega) (World.cell?_alloc_at _ _ _ _ rfl) (World.frozen?_alloc_at _ _ _ _ rfl)).mono ?_
  rintro e w' ⟨rfl, rfl⟩
  rw [one_cell_set, HY.out, HW.out]
  go_wp2_with fail
  refine (summed_any X _ (by rw [HXs.out]; unfold maxLen; omega) (HT.out.below ((Below.refl _ _).alloc (Nat.le_refl _) _))).mono ?_
  rintro e w1 ⟨rfl, hB1⟩
  rw [HS.out]
  have hcell : w1.cell? ⟨w.heap.size, 0, none⟩ = some (.string W) := (hB1.cell (p := ⟨w.heap.size, 0, none⟩) (by simp)).trans (World.cell?_alloc_at _ _ _ _ rfl)
  have hfz : w1.frozen? ⟨w.heap.size, 0, none⟩ = false := (hB1.frozen (p := ⟨w.heap.size, 0, none⟩) (by simp)).trans (World.frozen?_alloc_at _ _ _ _ rfl)
  have hB : Below w.heap.size w w1 := ((Below.refl w.heap.size w).alloc (Nat.le_refl _) _).trans (hB1.mono (by simp))
  have hsz : w.heap.size < w1.heap.size := by have := hB1.size; simp at this; omega
  clear hB1
  go_wp2_with fail
  refine (HF.out _).mono ?_
  rintro e w' ⟨rfl, rfl⟩
  go_wp2_with fail
  exact bodyPost_ret (v := .tuple #[.int .i64 0, .string ⟨#[]⟩, .int .i64 0, .int .i64 31]) (by simp [results, Tryz.results88, go_sem]) rfl ⟨rfl, hB⟩


set_option maxRecDepth 100000 in
set_option maxHeartbeats 1000000 in
theorem parse_tail (s L X Y Z W S : ByteArray) (k n : Nat) (w : World) (hk : k ≤ s.size) (hL : s.extract k s.size = L) (h1 : ∀ h : 0 < L.size, L[0].toNat = 167) (h2 : 10 ≤ L.size) (hT : TabS w)
    (hX : L.extract 0 6 = X) (hXs : X.size = 6) (hM : L.extract 6 L.size = Z) (hY : Z.extract 0 4 = Y) (hW : Z.extract 4 Z.size = W) (hZs : 4 ≤ Z.size) (hS : str (Sl.summed X.data.toList) = .string S) (heq : (Y.toList == S.toList) = true)
    (hn : Sl.beNum ((X.data.toList.drop 2).take 4) = n) (hkind : ∀ h : 1 < X.size, X[1].toNat ≠ 0) (hbig : n ≤ 65536)
    (hlong : n + 4 ≤ W.size) (P V U E S2 : ByteArray) (hP : W.extract 0 n = P) (hPs : P.size ≤ 65536) (hV : W.extract n W.size = V) (hVs : 4 ≤ V.size) (hU : V.extract 0 4 = U) (hE : V.extract 4 V.size = E) (hS2 : str (Sl.summed (X ++ P).data.toList) = .string S2) (hne : (U.toList == S2.toList) = false) :
    Calls Tryz.prog 88 #[.string s, .int .i64 k] w fun e w' => e = .returned (.tuple #[.int .i64 0, .string ⟨#[]⟩, .int .i64 0, .int .i64 34]) ∧ Below w.heap.size w w' := by
  have hmf : ∀ (fn : Fn) (first cap : Array Value) (w : World), (Instr.makeFunc fn first cap).run Tryz.prog w = .ok (.func fn first cap) w := fun _ _ _ _ => rfl
  have hd1 : decide ((k : Int) < 0) = false := by simp
  have hd2 : decide (s.size < k) = false := by simp; omega
  have h0 : 0 < L.size := by omega
  have he := ne_of L h0
  have hm : ((L[0].toNat : Int) != 167) = false := by have := h1 h0; simp; omega
  have hx2 : 1 < X.size := by omega
  have hx6 : X.size ≤ 6 := by omega
  have hkl : X[1].toNat < 256 := X[1].toNat_lt
  have hfix := fun w => fix_any X 2 4 w (by omega) (by omega) (by decide) (by decide)
  simp only [hn] at hfix
  have hk0 : ((X[1].toNat : Int) == 0) = false := by have := hkind hx2; simp; omega
  have HP := Lib.hid hP
  have HV := Lib.hid hV
  have HU := Lib.hid hU
  have HE := Lib.hid hE
  have HT2 := Lib.hid hS2
  clear hP hV hU hE hS2
  have HX := Lib.hid hX
  have HXs := Lib.hid hXs
  have HM := Lib.hid hM
  have HY := Lib.hid hY
  have HW := Lib.hid hW
  have HS := Lib.hid hS
  have HT := Lib.hid hT
  have HF := Lib.hid hfix
  clear h1 hX hXs hM hY hW hS hT hfix hn hkind
  go_enter Tryz.func88, Tryz.ntmps88
  go_wp2_with fail
  refine (next_any L 6 _ _ (by omega) (World.cell?_alloc_at _ _ _ _ rfl) (World.frozen?_alloc_at _ _ _ _ rfl)).mono ?_
  rintro e w' ⟨rfl, rfl⟩
  rw [one_cell_set, HX.out, HM.out]
  go_wp2_with fail
  refine (next_any Z 4 _ _ (by omega) (World.cell?_alloc_at _ _ _ _ rfl) (World.frozen?_alloc_at _ _ _ _ rfl)).mono ?_
  rintro e w' ⟨rfl, rfl⟩
  rw [one_cell_set, HY.out, HW.out]
  go_wp2_with fail
  refine (summed_any X _ (by rw [HXs.out]; unfold maxLen; omega) (HT.out.below ((Below.refl _ _).alloc (Nat.le_refl _) _))).mono ?_
  rintro e w1 ⟨rfl, hB1⟩
  rw [HS.out]
  have hcell : w1.cell? ⟨w.heap.size, 0, none⟩ = some (.string W) := (hB1.cell (p := ⟨w.heap.size, 0, none⟩) (by simp)).trans (World.cell?_alloc_at _ _ _ _ rfl)
  have hfz : w1.frozen? ⟨w.heap.size, 0, none⟩ = false := (hB1.frozen (p := ⟨w.heap.size, 0, none⟩) (by simp)).trans (World.frozen?_alloc_at _ _ _ _ rfl)
  have hB : Below w.heap.size w w1 := ((Below.refl w.heap.size w).alloc (Nat.le_refl _) _).trans (hB1.mono (by simp))
  have hsz : w.heap.size < w1.heap.size := by have := hB1.size; simp at this; omega
  clear hB1
  go_wp2_with fail
  refine (HF.out _).mono ?_
  rintro e w' ⟨rfl, rfl⟩
  go_wp2_with fail
  refine (next_any W n _ _ (by omega) hcell hfz).mono ?_
  rintro e w' ⟨rfl, rfl⟩
  rw [HP.out, HV.out]
  have hB2 : Below w.heap.size w (w1.setCell ⟨w.heap.size, 0, none⟩ (.string V)) := hB.setCell (p := ⟨w.heap.size, 0, none⟩) (Nat.le_refl _) _
  have hcell2 : (w1.setCell ⟨w.heap.size, 0, none⟩ (.string V)).cell? ⟨w.heap.size, 0, none⟩ = some (.string V) := World.cell?_setCell_same' _ _ _ (by rw [hcell]; rfl)
  have hfz2 : (w1.setCell ⟨w.heap.size, 0, none⟩ (.string V)).frozen? ⟨w.heap.size, 0, none⟩ = false := (World.frozen?_setCell _ _ _ _).trans hfz
  have hsz2 : w.heap.size < (w1.setCell ⟨w.heap.size, 0, none⟩ (.string V)).heap.size := by simpa [World.setCell] using hsz
  clear hcell hfz hB hsz
  obtain ⟨w2, hw2⟩ : ∃ w2, w1.setCell ⟨w.heap.size, 0, none⟩ (.string V) = w2 := ⟨_, rfl⟩
  rw [hw2] at hB2 hcell2 hfz2 hsz2 ⊢
  clear hw2
  go_wp2_with fail
  refine (next_any V 4 _ _ (by omega) hcell2 hfz2).mono ?_
  rintro e w' ⟨rfl, rfl⟩
  rw [HU.out, HE.out]
  have hB3 : Below w.heap.size w (w2.setCell ⟨w.heap.size, 0, none⟩ (.string E)) := hB2.setCell (p := ⟨w.heap.size, 0, none⟩) (Nat.le_refl _) _
  have hcell3 : (w2.setCell ⟨w.heap.size, 0, none⟩ (.string E)).cell? ⟨w.heap.size, 0, none⟩ = some (.string E) := World.cell?_setCell_same' _ _ _ (by rw [hcell2]; rfl)
  have hsz3 : w.heap.size < (w2.setCell ⟨w.heap.size, 0, none⟩ (.string E)).heap.size := by simpa [World.setCell] using hsz2
  clear hcell2 hfz2 hB2 hsz2
  obtain ⟨w3, hw3⟩ : ∃ w3, w2.setCell ⟨w.heap.size, 0, none⟩ (.string E) = w3 := ⟨_, rfl⟩
  rw [hw3] at hB3 hcell3 hsz3 ⊢
  clear hw3
  go_wp2_with fail
  refine (summed_any (X ++ P) _ (by unfold maxLen; rw [ByteArray.size_append]; omega) (HT.out.below hB3)).mono ?_
  rintro e w4 ⟨rfl, hB4⟩
  rw [HT2.out]
  have hcell4 : w4.cell? ⟨w.heap.size, 0, none⟩ = some (.string E) := (hB4.cell (p := ⟨w.heap.size, 0, none⟩) hsz3).trans hcell3
  have hB5 := hB3.trans (hB4.mono hB3.size)
  clear hB3 hB4 hcell3
  go_wp2_with fail
  exact bodyPost_ret (v := .tuple #[.int .i64 0, .string ⟨#[]⟩, .int .i64 0, .int .i64 34]) (by simp [results, Tryz.results88, go_sem]) rfl ⟨rfl, hB5⟩


set_option maxRecDepth 100000 in
set_option maxHeartbeats 1000000 in
theorem parse_good (s L X Y Z W S : ByteArray) (k n : Nat) (w : World) (hk : k ≤ s.size) (hL : s.extract k s.size = L) (h1 : ∀ h : 0 < L.size, L[0].toNat = 167) (h2 : 10 ≤ L.size) (hT : TabS w)
    (hX : L.extract 0 6 = X) (hXs : X.size = 6) (hM : L.extract 6 L.size = Z) (hY : Z.extract 0 4 = Y) (hW : Z.extract 4 Z.size = W) (hZs : 4 ≤ Z.size) (hS : str (Sl.summed X.data.toList) = .string S) (heq : (Y.toList == S.toList) = true)
    (hn : Sl.beNum ((X.data.toList.drop 2).take 4) = n) (hkind : ∀ h : 1 < X.size, X[1].toNat ≠ 0) (hbig : n ≤ 65536)
    (hlong : n + 4 ≤ W.size) (P V U E S2 : ByteArray) (hP : W.extract 0 n = P) (hPs : P.size ≤ 65536) (hV : W.extract n W.size = V) (hVs : 4 ≤ V.size) (hU : V.extract 0 4 = U) (hE : V.extract 4 V.size = E) (hS2 : str (Sl.summed (X ++ P).data.toList) = .string S2) (hq : (U.toList == S2.toList) = true) (hEs : E.size ≤ s.size) (hs : s.size ≤ 9223372036854775807) (c m : Nat) (hc : ∀ h : 1 < X.size, X[1].toNat = c) (hm' : s.size - E.size = m) :
    Calls Tryz.prog 88 #[.string s, .int .i64 k] w fun e w' => e = .returned (.tuple #[.int .i64 (c : Int), .string P, .int .i64 (m : Int), .int .i64 0]) ∧ Below w.heap.size w w' := by
  have hmf : ∀ (fn : Fn) (first cap : Array Value) (w : World), (Instr.makeFunc fn first cap).run Tryz.prog w = .ok (.func fn first cap) w := fun _ _ _ _ => rfl
  have hd1 : decide ((k : Int) < 0) = false := by simp
  have hd2 : decide (s.size < k) = false := by simp; omega
  have h0 : 0 < L.size := by omega
  have he := ne_of L h0
  have hm : ((L[0].toNat : Int) != 167) = false := by have := h1 h0; simp; omega
  have hx2 : 1 < X.size := by omega
  have hx6 : X.size ≤ 6 := by omega
  have hkl : X[1].toNat < 256 := X[1].toNat_lt
  have hfix := fun w => fix_any X 2 4 w (by omega) (by omega) (by decide) (by decide)
  simp only [hn] at hfix
  have hk0 : ((X[1].toNat : Int) == 0) = false := by have := hkind hx2; simp; omega
  have HP := Lib.hid hP
  have HV := Lib.hid hV
  have HU := Lib.hid hU
  have HE := Lib.hid hE
  have HT2 := Lib.hid hS2
  clear hP hV hU hE hS2
  have hcc := hc hx2
  rw [hcc] at hk0 hkl
  have i1 : IntKind.i64.wrap ((s.size : Int) - (E.size : Int)) = (m : Int) := by rw [IntWalk.i64_in _ (by omega)]; omega
  have i2 : (s.size : Int) - (E.size : Int) = (m : Int) := by omega
  clear hc hm'
  have HX := Lib.hid hX
  have HXs := Lib.hid hXs
  have HM := Lib.hid hM
  have HY := Lib.hid hY
  have HW := Lib.hid hW
  have HS := Lib.hid hS
  have HT := Lib.hid hT
  have HF := Lib.hid hfix
  clear h1 hX hXs hM hY hW hS hT hfix hn hkind
  go_enter Tryz.func88, Tryz.ntmps88
  go_wp2_with fail
  refine (next_any L 6 _ _ (by omega) (World.cell?_alloc_at _ _ _ _ rfl) (World.frozen?_alloc_at _ _ _ _ rfl)).mono ?_
  rintro e w' ⟨rfl, rfl⟩
  rw [one_cell_set, HX.out, HM.out]
  go_wp2_with fail
  refine (next_any Z 4 _ _ (by omega) (World.cell?_alloc_at _ _ _ _ rfl) (World.frozen?_alloc_at _ _ _ _ rfl)).mono ?_
  rintro e w' ⟨rfl, rfl⟩
  rw [one_cell_set, HY.out, HW.out]
  go_wp2_with fail
  refine (summed_any X _ (by rw [HXs.out]; unfold maxLen; omega) (HT.out.below ((Below.refl _ _).alloc (Nat.le_refl _) _))).mono ?_
  rintro e w1 ⟨rfl, hB1⟩
  rw [HS.out]
  have hcell : w1.cell? ⟨w.heap.size, 0, none⟩ = some (.string W) := (hB1.cell (p := ⟨w.heap.size, 0, none⟩) (by simp)).trans (World.cell?_alloc_at _ _ _ _ rfl)
  have hfz : w1.frozen? ⟨w.heap.size, 0, none⟩ = false := (hB1.frozen (p := ⟨w.heap.size, 0, none⟩) (by simp)).trans (World.frozen?_alloc_at _ _ _ _ rfl)
  have hB : Below w.heap.size w w1 := ((Below.refl w.heap.size w).alloc (Nat.le_refl _) _).trans (hB1.mono (by simp))
  have hsz : w.heap.size < w1.heap.size := by have := hB1.size; simp at this; omega
  clear hB1
  go_wp2_with fail
  refine (HF.out _).mono ?_
  rintro e w' ⟨rfl, rfl⟩
  go_wp2_with fail
  refine (next_any W n _ _ (by omega) hcell hfz).mono ?_
  rintro e w' ⟨rfl, rfl⟩
  rw [HP.out, HV.out]
  have hB2 : Below w.heap.size w (w1.setCell ⟨w.heap.size, 0, none⟩ (.string V)) := hB.setCell (p := ⟨w.heap.size, 0, none⟩) (Nat.le_refl _) _
  have hcell2 : (w1.setCell ⟨w.heap.size, 0, none⟩ (.string V)).cell? ⟨w.heap.size, 0, none⟩ = some (.string V) := World.cell?_setCell_same' _ _ _ (by rw [hcell]; rfl)
  have hfz2 : (w1.setCell ⟨w.heap.size, 0, none⟩ (.string V)).frozen? ⟨w.heap.size, 0, none⟩ = false := (World.frozen?_setCell _ _ _ _).trans hfz
  have hsz2 : w.heap.size < (w1.setCell ⟨w.heap.size, 0, none⟩ (.string V)).heap.size := by simpa [World.setCell] using hsz
  clear hcell hfz hB hsz
  obtain ⟨w2, hw2⟩ : ∃ w2, w1.setCell ⟨w.heap.size, 0, none⟩ (.string V) = w2 := ⟨_, rfl⟩
  rw [hw2] at hB2 hcell2 hfz2 hsz2 ⊢
  clear hw2
  go_wp2_with fail
  refine (next_any V 4 _ _ (by omega) hcell2 hfz2).mono ?_
  rintro e w' ⟨rfl, rfl⟩
  rw [HU.out, HE.out]
  have hB3 : Below w.heap.size w (w2.setCell ⟨w.heap.size, 0, none⟩ (.string E)) := hB2.setCell (p := ⟨w.heap.size, 0, none⟩) (Nat.le_refl _) _
  have hcell3 : (w2.setCell ⟨w.heap.size, 0, none⟩ (.string E)).cell? ⟨w.heap.size, 0, none⟩ = some (.string E) := World.cell?_setCell_same' _ _ _ (by rw [hcell2]; rfl)
  have hsz3 : w.heap.size < (w2.setCell ⟨w.heap.size, 0, none⟩ (.string E)).heap.size := by simpa [World.setCell] using hsz2
  clear hcell2 hfz2 hB2 hsz2
  obtain ⟨w3, hw3⟩ : ∃ w3, w2.setCell ⟨w.heap.size, 0, none⟩ (.string E) = w3 := ⟨_, rfl⟩
  rw [hw3] at hB3 hcell3 hsz3 ⊢
  clear hw3
  go_wp2_with fail
  refine (summed_any (X ++ P) _ (by unfold maxLen; rw [ByteArray.size_append]; omega) (HT.out.below hB3)).mono ?_
  rintro e w4 ⟨rfl, hB4⟩
  rw [HT2.out]
  have hcell4 : w4.cell? ⟨w.heap.size, 0, none⟩ = some (.string E) := (hB4.cell (p := ⟨w.heap.size, 0, none⟩) hsz3).trans hcell3
  have hB5 := hB3.trans (hB4.mono hB3.size)
  clear hB3 hB4 hcell3
  go_wp2_with fail
  go_quiet (fail)
  go_wp2_with fail
  exact bodyPost_ret (v := .tuple #[.int .i64 (c : Int), .string P, .int .i64 (m : Int), .int .i64 0]) (by simp [results, Tryz.results88, go_sem]) rfl ⟨rfl, below_drewN hB5 _⟩

end Go.Proofs.YtifkhjihgnnpfaaGreatDoor
/- Contracts of the document's begun and Parse. Conditions: each theorem's own hypotheses. -/
namespace Go.Proofs.YtifkhjihgnnpfaaGreatDoor
open Go.RowKit

/-- Four bytes, the lowest first. -/
def leNum (l : List UInt8) : Nat := (l.getD 0 0).toNat + 256 * (l.getD 1 0).toNat + 65536 * (l.getD 2 0).toNat + 16777216 * (l.getD 3 0).toNat

/-- What the first bytes of a frame say: how long its payload is, or a refusal. -/
def begunP (l : List UInt8) : Nat × Nat :=
  if l.length = 0 then (0, 31)
  else if ¬ (l.getD 0 0).toNat = 167 then (0, 33)
  else if l.length < 10 then (0, 31)
  else if ¬ leNum ((l.drop 6).take 4) = Sl.crc (l.take 6) then (0, 34)
  else if (l.getD 1 0).toNat = 0 then (0, 35)
  else if 65536 < Sl.beNum ((l.drop 2).take 4) then (0, 36)
  else (Sl.beNum ((l.drop 2).take 4), 0)

theorem lenum_at (s : ByteArray) (k : Nat) (hk : k + 4 ≤ s.size) : leNum ((s.data.toList.drop k).take 4) = s[k].toNat + 256 * s[k + 1].toNat + 65536 * s[k + 2].toNat + 16777216 * s[k + 3].toNat := by
  have g : ∀ i (h : k + i < s.size), i < 4 → ((s.data.toList.drop k).take 4).getD i 0 = s[k + i] := by
    intro i h h4
    rw [List.getD_eq_getElem?_getD, List.getElem?_take_of_lt h4, List.getElem?_drop, List.getElem?_eq_getElem (by simpa using h)]
    rfl
  unfold leNum
  rw [g 0 (by omega) (by decide), g 1 (by omega) (by decide), g 2 (by omega) (by decide), g 3 (by omega) (by decide)]
  rfl

theorem sumAt_le (s : ByteArray) (k v : Nat) (w : World) (hs : s.size ≤ 9223372036854775807) (hk : k + 4 ≤ s.size) (hv : leNum ((s.data.toList.drop k).take 4) = v) :
    Calls Tryz.prog 111 #[.string s, .int .i64 k] w fun e w' => e = .returned (.int .u32 v) ∧ ∃ n, w' = w.drewN n := by
  rw [← hv, lenum_at s k hk]
  exact sumAt_any s k _ _ _ _ w hs hk rfl rfl rfl rfl

theorem refSum_quiet (s : ByteArray) (c : Nat) (w : World) (hs : s.size ≤ maxLen) (hc : Sl.crc s.data.toList = c) :
    Calls Tryz.prog 105 #[.string s] w fun e w' => e = .returned (.int .u32 c) ∧ ∃ n, w' = w.drewN n := by
  subst hc
  exact (refSum_any s w hs).mono fun e w' ⟨h1, h2⟩ => ⟨h1, 0, by rw [← h2]; rfl⟩

theorem empty_of (L : ByteArray) (h : L.size = 0) : L.data.toList.length = 0 := by rw [Array.length_toList]; exact h

set_option maxRecDepth 100000 in
set_option maxHeartbeats 1000000 in
theorem begun_any (s : ByteArray) (n c : Nat) (w : World) (hs : s.size ≤ 9223372036854775807) (hR : begunP s.data.toList = (n, c)) :
    Calls Tryz.prog 110 #[.string s] w fun e w' => e = .returned (.tuple #[.int .i64 n, .int .i64 c]) ∧ Below w.heap.size w w' := by
  have hl : s.data.toList.length = s.size := Array.length_toList
  unfold begunP at hR
  rw [hl] at hR
  by_cases h0 : s.size = 0
  · rw [if_pos h0] at hR
    obtain ⟨rfl, rfl⟩ := Prod.mk.inj hR
    have h0' : ((s.size : Int) == 0) = true := by rw [beq_iff_eq]; omega
    clear hR hl h0
    go_enter Tryz.func110, Tryz.ntmps110
    go_wp2_with fail
    go_ret2
    exact ⟨rfl, Below.refl _ _⟩
  rw [if_neg h0] at hR
  have hp : 0 < s.size := by omega
  have h0' : ((s.size : Int) == 0) = false := by rw [beq_eq_false_iff_ne]; omega
  rw [getD_byte s 0 hp] at hR
  have hb0 : s[0].toNat < 256 := s[0].toNat_lt
  by_cases h1 : s[0].toNat = 167
  · have h1' : ((s[0].toNat : Int) != 167) = false := by simp; omega
    rw [if_neg (by simpa using h1)] at hR
    by_cases h2 : s.size < 10
    · rw [if_pos h2] at hR
      obtain ⟨rfl, rfl⟩ := Prod.mk.inj hR
      clear hR hl h0 h1
      go_enter Tryz.func110, Tryz.ntmps110
      go_wp2_with fail
      go_ret2
      exact ⟨rfl, Below.refl _ _⟩
    · rw [if_neg h2] at hR
      obtain ⟨X, hX⟩ : ∃ X, s.extract 0 6 = X := ⟨_, rfl⟩
      have hXd : X.data.toList = s.data.toList.take 6 := by rw [← hX, Lib.extract_data]; rfl
      have hXs : X.size = 6 := by
        have : X.data.toList.length = X.size := Array.length_toList
        rw [← this, hXd, List.length_take_of_le (by omega)]
      obtain ⟨u, hu⟩ : ∃ u, leNum ((s.data.toList.drop 6).take 4) = u := ⟨_, rfl⟩
      obtain ⟨v, hv⟩ : ∃ v, Sl.crc X.data.toList = v := ⟨_, rfl⟩
      rw [← hXd, hu, hv] at hR
      have Hu := Lib.hid hu
      have Hv := Lib.hid hv
      have h10 : 10 ≤ s.size := by omega
      have hone : 1 < s.size := by omega
      have hb1 : s[1].toNat < 256 := s[1].toNat_lt
      rw [getD_byte s 1 hone] at hR
      clear hl h0 h1 h2 hXd hu hv
      by_cases h3 : u = v
      · rw [if_neg (by simpa using h3)] at hR
        have h3' : ((u : Int) != v) = false := by rw [bne_eq_false_iff_eq]; omega
        by_cases h4 : s[1].toNat = 0
        · rw [if_pos h4] at hR
          obtain ⟨rfl, rfl⟩ := Prod.mk.inj hR
          have h4' : ((s[1].toNat : Int) == 0) = true := by rw [beq_iff_eq]; omega
          clear hR h3 h4
          go_enter Tryz.func110, Tryz.ntmps110
          go_wp2_with fail
          go_quiet (first | (go_at_call 111; exact Calls.quiet_of (sumAt_le s 6 u _ hs (by omega) Hu.out)) | (go_at_call 105; exact Calls.quiet_of (refSum_quiet X v _ (by unfold maxLen; omega) Hv.out)))
          go_wp2_with fail
          go_ret2
          exact ⟨rfl, below_drewN (Below.refl _ _) _⟩
        · rw [if_neg h4] at hR
          have h4' : ((s[1].toNat : Int) == 0) = false := by rw [beq_eq_false_iff_ne]; omega
          obtain ⟨m, hm⟩ : ∃ m, Sl.beNum ((s.data.toList.drop 2).take 4) = m := ⟨_, rfl⟩
          rw [hm] at hR
          have hml : m < 4294967296 := by
            have := beNum_lt ((s.data.toList.drop 2).take 4)
            have hl : s.data.toList.length = s.size := Array.length_toList
            rw [hm, List.length_take_of_le (by rw [List.length_drop]; omega)] at this
            exact this
          have Hm := Lib.hid hm
          clear hm h4
          by_cases h5 : 65536 < m
          · rw [if_pos h5] at hR
            obtain ⟨rfl, rfl⟩ := Prod.mk.inj hR
            clear hR h3
            go_enter Tryz.func110, Tryz.ntmps110
            go_wp2_with fail
            go_quiet (first | (go_at_call 111; exact Calls.quiet_of (sumAt_le s 6 u _ hs (by omega) Hu.out)) | (go_at_call 105; exact Calls.quiet_of (refSum_quiet X v _ (by unfold maxLen; omega) Hv.out)))
            go_wp2_with fail
            refine (number_any s 2 4 _ hs (by omega) (by decide)).mono ?_
            rintro e w1 ⟨rfl, rfl⟩
            rw [Hm.out]
            go_wp2_with fail
            go_ret2
            exact ⟨rfl, below_drewN (Below.refl _ _) _⟩
          · rw [if_neg h5] at hR
            obtain ⟨rfl, rfl⟩ := Prod.mk.inj hR
            clear hR h3
            go_enter Tryz.func110, Tryz.ntmps110
            go_wp2_with fail
            go_quiet (first | (go_at_call 111; exact Calls.quiet_of (sumAt_le s 6 u _ hs (by omega) Hu.out)) | (go_at_call 105; exact Calls.quiet_of (refSum_quiet X v _ (by unfold maxLen; omega) Hv.out)))
            go_wp2_with fail
            refine (number_any s 2 4 _ hs (by omega) (by decide)).mono ?_
            rintro e w1 ⟨rfl, rfl⟩
            rw [Hm.out]
            go_wp2_with fail
            go_ret2
            exact ⟨rfl, below_drewN (Below.refl _ _) _⟩
      · rw [if_pos (by simpa using h3)] at hR
        obtain ⟨rfl, rfl⟩ := Prod.mk.inj hR
        have h3' : ((u : Int) != v) = true := by rw [bne_iff_ne]; omega
        clear hR h3
        go_enter Tryz.func110, Tryz.ntmps110
        go_wp2_with fail
        go_quiet (first | (go_at_call 111; exact Calls.quiet_of (sumAt_le s 6 u _ hs (by omega) Hu.out)) | (go_at_call 105; exact Calls.quiet_of (refSum_quiet X v _ (by unfold maxLen; omega) Hv.out)))
        go_wp2_with fail
        go_ret2
        exact ⟨rfl, below_drewN (Below.refl _ _) _⟩
  · have h1' : ((s[0].toNat : Int) != 167) = true := by simp; omega
    rw [if_pos (by simpa using h1)] at hR
    obtain ⟨rfl, rfl⟩ := Prod.mk.inj hR
    clear hR hl h0 h1
    go_enter Tryz.func110, Tryz.ntmps110
    go_wp2_with fail
    go_ret2
    exact ⟨rfl, Below.refl _ _⟩
end Go.Proofs.YtifkhjihgnnpfaaGreatDoor
/- Contracts of seal.Parse and of the document's Parse, at every place of every text: what the plain function Sl.parse says. Conditions: each theorem's own hypotheses. -/
namespace Go.Proofs.YtifkhjihgnnpfaaGreatDoor
open Go.RowKit

theorem le4_iff (t : List UInt8) (c : Nat) (ht : t.length = 4) (hc : c < 4294967296) : t = Sl.le4 c ↔ leNum t = c := by
  match t, ht with
  | [a, b, d, e], _ =>
    have ha := a.toNat_lt
    have hb := b.toNat_lt
    have hd := d.toNat_lt
    have he := e.toNat_lt
    constructor
    · intro h
      unfold Sl.le4 at h
      simp only [List.cons.injEq, and_true] at h
      obtain ⟨rfl, rfl, rfl, rfl⟩ := h
      unfold leNum
      simp only [List.getD_cons_zero, List.getD_cons_succ]
      rw [u8_ofNat _ (by omega), u8_ofNat _ (by omega), u8_ofNat _ (by omega), u8_ofNat _ (by omega)]
      omega
    · intro h
      unfold leNum at h
      simp only [List.getD_cons_zero, List.getD_cons_succ] at h
      unfold Sl.le4
      have e1 : c % 256 = a.toNat := by omega
      have e2 : c / 256 % 256 = b.toNat := by omega
      have e3 : c / 65536 % 256 = d.toNat := by omega
      have e4 : c / 16777216 % 256 = e.toNat := by omega
      rw [e1, e2, e3, e4]
      simp

theorem summed_iff (t x : List UInt8) (ht : t.length = 4) : t = Sl.summed x ↔ leNum t = Sl.crc x :=
  le4_iff t _ ht (Sl.crcOn_lt 0 _ (by decide))

theorem rest_data (s : ByteArray) (k : Nat) : (s.extract k s.size).data.toList = s.data.toList.drop k := by
  rw [Lib.extract_data, List.take_of_length_le]
  rw [List.length_drop]
  have : s.data.toList.length = s.size := Array.length_toList
  omega

theorem ext_data (s : ByteArray) (a b : Nat) : (s.extract a b).data.toList = (s.data.toList.drop a).take (b - a) := Lib.extract_data s a b

theorem size_data (s : ByteArray) : s.size = s.data.toList.length := Array.length_toList.symm

theorem beq_toList (a b : ByteArray) : (a.toList == b.toList) = decide (a.data.toList = b.data.toList) := by
  rw [ByteArray.toList_eq, ByteArray.toList_eq]
  by_cases h : a.data.toList = b.data.toList
  · rw [h]; simp
  · rw [decide_eq_false h]; simpa using h

theorem take_take' (l : List UInt8) (a b : Nat) (h : a ≤ b) : (l.take b).take a = l.take a := by rw [List.take_take, Nat.min_eq_left h]

set_option maxRecDepth 100000 in
/-- seal.Parse, from a place within the text. -/
theorem parse_any (s : ByteArray) (k : Nat) (R : Sl.Parsed) (w : World) (hs : s.size ≤ 9223372036854775807) (hk : k ≤ s.size) (hT : TabS w) (hR : Sl.parse (s.data.toList.drop k) = R) :
    Calls Tryz.prog 88 #[.string s, .int .i64 k] w fun e w' => e = .returned (parseV k R) ∧ Below w.heap.size w w' := by
  obtain ⟨L, hL⟩ : ∃ L, s.extract k s.size = L := ⟨_, rfl⟩
  have hLd : L.data.toList = s.data.toList.drop k := by rw [← hL]; exact rest_data s k
  have hLs : L.size = s.size - k := by rw [size_data L, hLd, List.length_drop, ← size_data]
  rw [← hLd] at hR
  have hll : L.data.toList.length = L.size := Array.length_toList
  unfold Sl.parse at hR
  rw [hll] at hR
  by_cases h0 : L.size = 0
  · rw [if_pos h0] at hR; subst hR
    exact parse_short s L k w hk hL h0
  rw [if_neg h0] at hR
  have hp : 0 < L.size := by omega
  rw [getD_byte L 0 hp] at hR
  by_cases h1 : L[0].toNat = 167
  rotate_left
  · rw [if_pos (by simpa using h1)] at hR; subst hR
    exact parse_magic s L k w hk hL hp h1
  rw [if_neg (by simpa using h1)] at hR
  by_cases h2 : L.size < 10
  · rw [if_pos h2] at hR; subst hR
    exact parse_ten s L k w hk hL hp h1 h2
  rw [if_neg h2] at hR
  obtain ⟨X, hX⟩ : ∃ X, L.extract 0 6 = X := ⟨_, rfl⟩
  obtain ⟨Z, hZ⟩ : ∃ Z, L.extract 6 L.size = Z := ⟨_, rfl⟩
  obtain ⟨Y, hY⟩ : ∃ Y, Z.extract 0 4 = Y := ⟨_, rfl⟩
  obtain ⟨W, hW⟩ : ∃ W, Z.extract 4 Z.size = W := ⟨_, rfl⟩
  obtain ⟨S, hS, hSd, _⟩ := str_of (Sl.summed X.data.toList)
  have hXd : X.data.toList = L.data.toList.take 6 := by rw [← hX, ext_data]; rfl
  have hXs : X.size = 6 := by rw [size_data X, hXd, List.length_take_of_le (by omega)]
  have hZd : Z.data.toList = L.data.toList.drop 6 := by rw [← hZ]; exact rest_data L 6
  have hZs : Z.size = L.size - 6 := by rw [size_data Z, hZd, List.length_drop, hll]
  have hYd : Y.data.toList = (L.data.toList.drop 6).take 4 := by rw [← hY, ext_data, hZd]; rfl
  have hWd : W.data.toList = L.data.toList.drop 10 := by rw [← hW, rest_data, hZd, List.drop_drop]
  have hWs : W.size = L.size - 10 := by rw [size_data W, hWd, List.length_drop, hll]
  rw [← hXd, ← hYd] at hR
  have hb : (Y.toList == S.toList) = decide (Y.data.toList = Sl.summed X.data.toList) := by rw [beq_toList, hSd]
  by_cases h3 : Y.data.toList = Sl.summed X.data.toList
  rotate_left
  · rw [if_pos h3] at hR; subst hR
    exact parse_sum s L X Y Z S k w hk hL (fun _ => h1) (by omega) hT hX hXs hZ hY (by omega) hS (by rw [hb]; exact decide_eq_false h3)
  rw [if_neg (by simpa using h3)] at hR
  have heq : (Y.toList == S.toList) = true := by rw [hb]; exact decide_eq_true h3
  have hx1 : ∀ h : 1 < X.size, X[1] = L[1] := by
    intro h
    rw [← getD_byte X 1 h, hXd, ← getD_byte L 1 (by omega)]
    rw [List.getD_eq_getElem?_getD, List.getD_eq_getElem?_getD, List.getElem?_take_of_lt (by decide)]
  rw [getD_byte L 1 (by omega)] at hR
  have hnn : Sl.beNum ((X.data.toList.drop 2).take 4) = Sl.beNum ((L.data.toList.drop 2).take 4) := by
    rw [hXd, List.drop_take, take_take' _ _ _ (by decide)]
  rw [← hnn] at hR
  obtain ⟨n, hn⟩ : ∃ n, Sl.beNum ((X.data.toList.drop 2).take 4) = n := ⟨_, rfl⟩
  rw [hn] at hR
  by_cases h4 : L[1].toNat = 0
  · rw [if_pos h4] at hR; subst hR
    exact parse_kind s L X Y Z W S k w hk hL (fun _ => h1) (by omega) hT hX hXs hZ hY hW (by omega) hS heq (fun h => by rw [hx1 h]; exact h4)
  rw [if_neg h4] at hR
  by_cases h5 : 65536 < n
  · rw [if_pos h5] at hR; subst hR
    exact parse_big s L X Y Z W S k w hk hL (fun _ => h1) (by omega) hT hX hXs hZ hY hW (by omega) hS heq (fun h => by rw [hx1 h]; exact h4) (by rw [hn]; exact h5)
  rw [if_neg h5] at hR
  by_cases h6 : L.size < n + 14
  · rw [if_pos h6] at hR; subst hR
    exact parse_long s L X Y Z W S k n w hk hL (fun _ => h1) (by omega) hT hX hXs hZ hY hW (by omega) hS heq hn (fun h => by rw [hx1 h]; exact h4) (by omega) (by omega)
  rw [if_neg h6] at hR
  obtain ⟨P, hP⟩ : ∃ P, W.extract 0 n = P := ⟨_, rfl⟩
  obtain ⟨V, hV⟩ : ∃ V, W.extract n W.size = V := ⟨_, rfl⟩
  obtain ⟨U, hU⟩ : ∃ U, V.extract 0 4 = U := ⟨_, rfl⟩
  obtain ⟨E, hE⟩ : ∃ E, V.extract 4 V.size = E := ⟨_, rfl⟩
  obtain ⟨S2, hS2, hS2d, _⟩ := str_of (Sl.summed (X ++ P).data.toList)
  have hPd : P.data.toList = (L.data.toList.drop 10).take n := by rw [← hP, ext_data, hWd]; rfl
  have hPs : P.size ≤ 65536 := by rw [size_data P, hPd, List.length_take]; omega
  have hVd : V.data.toList = L.data.toList.drop (10 + n) := by rw [← hV, rest_data, hWd, List.drop_drop]
  have hVs : V.size = L.size - (10 + n) := by rw [size_data V, hVd, List.length_drop, hll]
  have hUd : U.data.toList = (L.data.toList.drop (10 + n)).take 4 := by rw [← hU, ext_data, hVd]; rfl
  have hEd : E.data.toList = L.data.toList.drop (10 + n + 4) := by rw [← hE, rest_data, hVd, List.drop_drop]
  have hEs : E.size = L.size - (10 + n + 4) := by rw [size_data E, hEd, List.length_drop, hll]
  have hXP : (X ++ P).data.toList = X.data.toList ++ P.data.toList := data_append X P
  rw [← hPd, ← hUd, ← hXP] at hR
  have hb2 : (U.toList == S2.toList) = decide (U.data.toList = Sl.summed (X ++ P).data.toList) := by rw [beq_toList, hS2d]
  by_cases h7 : U.data.toList = Sl.summed (X ++ P).data.toList
  rotate_left
  · rw [if_pos h7] at hR; subst hR
    exact parse_tail s L X Y Z W S k n w hk hL (fun _ => h1) (by omega) hT hX hXs hZ hY hW (by omega) hS heq hn (fun h => by rw [hx1 h]; exact h4) (by omega) (by omega) P V U E S2 hP hPs hV (by omega) hU hE hS2 (by rw [hb2]; exact decide_eq_false h7)
  rw [if_neg (by simpa using h7)] at hR
  subst hR
  have r := parse_good s L X Y Z W S k n w hk hL (fun _ => h1) (by omega) hT hX hXs hZ hY hW (by omega) hS heq hn (fun h => by rw [hx1 h]; exact h4) (by omega) (by omega) P V U E S2 hP hPs hV (by omega) hU hE hS2 (by rw [hb2]; exact decide_eq_true h7)
    (by omega) hs L[1].toNat (k + (n + 14)) (fun h => by rw [hx1 h]) (by omega)
  refine r.mono fun e w' ⟨he, hB⟩ => ⟨?_, hB⟩
  rw [he]
  unfold parseV
  rw [str_eq (b := P) (l := P.data.toList) rfl]
  rfl
end Go.Proofs.YtifkhjihgnnpfaaGreatDoor
/- Contract of the document's Parse, at every place of every text. Conditions: each theorem's own hypotheses. -/
namespace Go.Proofs.YtifkhjihgnnpfaaGreatDoor
set_option linter.unusedVariables false
open Go.RowKit

theorem begun_parse (l : List UInt8) : (∃ c, c ≠ 0 ∧ c ≤ 36 ∧ begunP l = (0, c) ∧ Sl.parse l = ⟨c, 0, [], 0⟩) ∨
    (∃ n, Sl.beNum ((l.drop 2).take 4) = n ∧ begunP l = (n, 0) ∧ 10 ≤ l.length ∧ n ≤ 65536 ∧ Sl.parse l =
      if l.length < n + 14 then ⟨31, 0, [], 0⟩
      else if ¬ leNum ((l.drop (10 + n)).take 4) = Sl.crc (l.take 6 ++ (l.drop 10).take n) then ⟨34, 0, [], 0⟩
      else ⟨0, (l.getD 1 0).toNat, (l.drop 10).take n, n + 14⟩) := by
  unfold begunP Sl.parse
  by_cases h0 : l.length = 0
  · exact Or.inl ⟨31, by decide, by decide, by rw [if_pos h0], by rw [if_pos h0]⟩
  rw [if_neg h0, if_neg h0]
  by_cases h1 : (l.getD 0 0).toNat = 167
  rotate_left
  · exact Or.inl ⟨33, by decide, by decide, by rw [if_pos h1], by rw [if_pos h1]⟩
  rw [if_neg (not_not_intro h1), if_neg (not_not_intro h1)]
  by_cases h2 : l.length < 10
  · exact Or.inl ⟨31, by decide, by decide, by rw [if_pos h2], by rw [if_pos h2]⟩
  rw [if_neg h2, if_neg h2]
  have i3 := summed_iff ((l.drop 6).take 4) (l.take 6) (by rw [List.length_take_of_le (by rw [List.length_drop]; omega)])
  by_cases h3 : leNum ((l.drop 6).take 4) = Sl.crc (l.take 6)
  rotate_left
  · exact Or.inl ⟨34, by decide, by decide, by rw [if_pos h3], by rw [if_pos (fun h => h3 (i3.mp h))]⟩
  rw [if_neg (not_not_intro h3), if_neg (not_not_intro (i3.mpr h3))]
  by_cases h4 : (l.getD 1 0).toNat = 0
  · exact Or.inl ⟨35, by decide, by decide, by rw [if_pos h4], by rw [if_pos h4]⟩
  rw [if_neg h4, if_neg h4]
  obtain ⟨n, hn⟩ : ∃ n, Sl.beNum ((l.drop 2).take 4) = n := ⟨_, rfl⟩
  rw [hn]
  by_cases h5 : 65536 < n
  · exact Or.inl ⟨36, by decide, by decide, by rw [if_pos h5], by rw [if_pos h5]⟩
  rw [if_neg h5, if_neg h5]
  refine Or.inr ⟨n, rfl, rfl, by omega, by omega, ?_⟩
  by_cases h6 : l.length < n + 14
  · rw [if_pos h6, if_pos h6]
  rw [if_neg h6, if_neg h6]
  have i7 := summed_iff ((l.drop (10 + n)).take 4) (l.take 6 ++ (l.drop 10).take n) (by rw [List.length_take_of_le (by rw [List.length_drop]; omega)])
  by_cases h7 : leNum ((l.drop (10 + n)).take 4) = Sl.crc (l.take 6 ++ (l.drop 10).take n)
  · rw [if_neg (not_not_intro h7), if_neg (not_not_intro (i7.mpr h7))]
  · rw [if_pos h7, if_pos (fun h => h7 (i7.mp h))]

theorem refParse_bad (s : ByteArray) (k : Int) (w : World) (h : k < 0 ∨ (s.size : Int) < k) :
    Calls Tryz.prog 91 #[.string s, .int .i64 k] w fun e w' => e = .returned (.tuple #[.int .i64 0, .string ⟨#[]⟩, .int .i64 0, .int .i64 13]) ∧ w = w' := by
  by_cases h1 : k < 0
  · go_enter Tryz.func91, Tryz.ntmps91
    go_wp2_with fail
    exact bodyPost_ret (v := .tuple #[.int .i64 0, .string ⟨#[]⟩, .int .i64 0, .int .i64 13]) (by simp [results, Tryz.results91, go_sem]) rfl ⟨rfl, rfl⟩
  · have h2 : (s.size : Int) < k := by omega
    clear h
    go_enter Tryz.func91, Tryz.ntmps91
    go_wp2_with fail
    exact bodyPost_ret (v := .tuple #[.int .i64 0, .string ⟨#[]⟩, .int .i64 0, .int .i64 13]) (by simp [results, Tryz.results91, go_sem]) rfl ⟨rfl, rfl⟩

set_option maxRecDepth 100000 in
theorem refParse_code (s L : ByteArray) (k c : Nat) (w : World) (hs : s.size ≤ 9223372036854775807) (hk : k ≤ s.size) (hL : s.extract k s.size = L) (hLs : L.size ≤ s.size) (hR : begunP L.data.toList = (0, c)) (hc : c ≠ 0) (_ : c ≤ 36) :
    Calls Tryz.prog 91 #[.string s, .int .i64 k] w fun e w' => e = .returned (.tuple #[.int .i64 0, .string ⟨#[]⟩, .int .i64 0, .int .i64 c]) ∧ Below w.heap.size w w' := by
  have hd1 : decide ((k : Int) < 0) = false := by simp
  have hd2 : decide (s.size < k) = false := by simp; omega
  have he : ((c : Int) != 0) = true := by rw [bne_iff_ne]; omega
  have HR := Lib.hid hR
  clear hR hc
  go_enter Tryz.func91, Tryz.ntmps91
  go_wp2_with fail
  refine (begun_any L 0 c _ (by omega) HR.out).mono ?_
  rintro e w1 ⟨rfl, hB1⟩
  go_wp2_with fail
  exact bodyPost_ret (v := .tuple #[.int .i64 0, .string ⟨#[]⟩, .int .i64 0, .int .i64 c]) (by simp [results, Tryz.results91, go_sem]) rfl ⟨rfl, hB1⟩

set_option maxRecDepth 100000 in
theorem refParse_long (s L : ByteArray) (k n : Nat) (w : World) (hs : s.size ≤ 9223372036854775807) (hk : k ≤ s.size) (hL : s.extract k s.size = L) (hLs : L.size ≤ s.size) (hR : begunP L.data.toList = (n, 0)) (hn : n ≤ 65536) (h : L.size < n + 14) :
    Calls Tryz.prog 91 #[.string s, .int .i64 k] w fun e w' => e = .returned (.tuple #[.int .i64 0, .string ⟨#[]⟩, .int .i64 0, .int .i64 31]) ∧ Below w.heap.size w w' := by
  have hd1 : decide ((k : Int) < 0) = false := by simp
  have hd2 : decide (s.size < k) = false := by simp; omega
  have HR := Lib.hid hR
  clear hR
  go_enter Tryz.func91, Tryz.ntmps91
  go_wp2_with fail
  refine (begun_any L n 0 _ (by omega) HR.out).mono ?_
  rintro e w1 ⟨rfl, hB1⟩
  go_wp2_with fail
  exact bodyPost_ret (v := .tuple #[.int .i64 0, .string ⟨#[]⟩, .int .i64 0, .int .i64 31]) (by simp [results, Tryz.results91, go_sem]) rfl ⟨rfl, hB1⟩

set_option maxRecDepth 100000 in
set_option maxHeartbeats 1000000 in
theorem refParse_tail (s L X P Q : ByteArray) (k n u v : Nat) (w : World) (hs : s.size ≤ 9223372036854775807) (hk : k ≤ s.size) (hL : s.extract k s.size = L) (hLs : L.size ≤ s.size - k) (hR : begunP L.data.toList = (n, 0)) (hn : n ≤ 65536) (h : n + 14 ≤ L.size)
    (hX : L.extract 0 6 = X) (hP : L.extract 10 (10 + n) = P) (hQ : X ++ P = Q) (hQs : X.size + P.size = Q.size) (hq : Q.size ≤ 65550) (hu : leNum ((L.data.toList.drop (10 + n)).take 4) = u) (hv : Sl.crc Q.data.toList = v) (huv : ¬ u = v) :
    Calls Tryz.prog 91 #[.string s, .int .i64 k] w fun e w' => e = .returned (.tuple #[.int .i64 0, .string ⟨#[]⟩, .int .i64 0, .int .i64 34]) ∧ Below w.heap.size w w' := by
  have hd1 : decide ((k : Int) < 0) = false := by simp
  have hd2 : decide (s.size < k) = false := by simp; omega
  have HR := Lib.hid hR
  have Hu := Lib.hid hu
  have Hv := Lib.hid hv
  have h10 : 1 < L.size := by omega
  have ht : ((u : Int) != v) = true := by rw [bne_iff_ne]; omega
  clear hR hu hv
  go_enter Tryz.func91, Tryz.ntmps91
  go_wp2_with fail
  refine (begun_any L n 0 _ (by omega) HR.out).mono ?_
  rintro e w1 ⟨rfl, hB1⟩
  go_wp2_with fail
  rw [hP]
  go_quiet (first | (go_at_call 111; exact Calls.quiet_of (sumAt_le L (10 + n) u _ (by omega) (by omega) Hu.out)) | (go_at_call 105; exact Calls.quiet_of (refSum_quiet Q v _ (by unfold maxLen; omega) Hv.out)))
  go_wp2_with fail
  exact bodyPost_ret (v := .tuple #[.int .i64 0, .string ⟨#[]⟩, .int .i64 0, .int .i64 34]) (by simp [results, Tryz.results91, go_sem]) rfl ⟨rfl, below_drewN hB1 _⟩

set_option maxRecDepth 100000 in
set_option maxHeartbeats 1000000 in
theorem refParse_good (s L X P Q : ByteArray) (k n u v : Nat) (w : World) (hs : s.size ≤ 9223372036854775807) (hk : k ≤ s.size) (hL : s.extract k s.size = L) (hLs : L.size ≤ s.size - k) (hR : begunP L.data.toList = (n, 0)) (hn : n ≤ 65536) (h : n + 14 ≤ L.size)
    (hX : L.extract 0 6 = X) (hP : L.extract 10 (10 + n) = P) (hQ : X ++ P = Q) (hQs : X.size + P.size = Q.size) (hq : Q.size ≤ 65550) (hu : leNum ((L.data.toList.drop (10 + n)).take 4) = u) (hv : Sl.crc Q.data.toList = v) (huv : u = v) (kd : Nat) (hkd : ∀ h : 1 < L.size, L[1].toNat = kd) :
    Calls Tryz.prog 91 #[.string s, .int .i64 k] w fun e w' => e = .returned (.tuple #[.int .i64 kd, .string P, .int .i64 (((k + (n + 14) : Nat)) : Int), .int .i64 0]) ∧ Below w.heap.size w w' := by
  have hd1 : decide ((k : Int) < 0) = false := by simp
  have hd2 : decide (s.size < k) = false := by simp; omega
  have HR := Lib.hid hR
  have Hu := Lib.hid hu
  have Hv := Lib.hid hv
  have h10 : 1 < L.size := by omega
  have ht : ((u : Int) != v) = false := by rw [bne_eq_false_iff_eq]; omega
  have hkd' := hkd h10
  have hb1 : L[1].toNat < 256 := L[1].toNat_lt
  clear hkd
  clear hR hu hv
  go_enter Tryz.func91, Tryz.ntmps91
  go_wp2_with fail
  refine (begun_any L n 0 _ (by omega) HR.out).mono ?_
  rintro e w1 ⟨rfl, hB1⟩
  go_wp2_with fail
  rw [hP]
  go_quiet (first | (go_at_call 111; exact Calls.quiet_of (sumAt_le L (10 + n) u _ (by omega) (by omega) Hu.out)) | (go_at_call 105; exact Calls.quiet_of (refSum_quiet Q v _ (by unfold maxLen; omega) Hv.out)))
  go_wp2_with fail
  exact bodyPost_ret (v := .tuple #[.int .i64 kd, .string P, .int .i64 (((k + (n + 14) : Nat)) : Int), .int .i64 0]) (by simp [results, Tryz.results91, go_sem]; omega) rfl ⟨rfl, below_drewN hB1 _⟩

/-- The document's Parse, from a place within the text. -/
theorem refParse_any (s : ByteArray) (k : Nat) (R : Sl.Parsed) (w : World) (hs : s.size ≤ 9223372036854775807) (hk : k ≤ s.size) (hR : Sl.parse (s.data.toList.drop k) = R) :
    Calls Tryz.prog 91 #[.string s, .int .i64 k] w fun e w' => e = .returned (parseV k R) ∧ Below w.heap.size w w' := by
  obtain ⟨L, hL⟩ : ∃ L, s.extract k s.size = L := ⟨_, rfl⟩
  have hLd : L.data.toList = s.data.toList.drop k := by rw [← hL]; exact rest_data s k
  have hLs : L.size = s.size - k := by rw [size_data L, hLd, List.length_drop, ← size_data]
  have hll : L.data.toList.length = L.size := Array.length_toList
  rw [← hLd] at hR
  rcases begun_parse L.data.toList with ⟨c, hc0, hc36, hb, hp⟩ | ⟨n, hbn, hb, h10, hn, hp⟩
  · rw [hp] at hR; subst hR
    refine (refParse_code s L k c w hs hk hL (by omega) hb hc0 hc36).mono fun e w' ⟨h1, h2⟩ => ⟨?_, h2⟩
    rw [h1]; unfold parseV; simp only [if_neg hc0]; rfl
  · rw [hp] at hR
    rw [hll] at hR h10
    by_cases h6 : L.size < n + 14
    · rw [if_pos h6] at hR; subst hR
      exact refParse_long s L k n w hs hk hL (by omega) hb hn h6
    rw [if_neg h6] at hR
    obtain ⟨X, hX⟩ : ∃ X, L.extract 0 6 = X := ⟨_, rfl⟩
    obtain ⟨P, hP⟩ : ∃ P, L.extract 10 (10 + n) = P := ⟨_, rfl⟩
    have hXd : X.data.toList = L.data.toList.take 6 := by rw [← hX, ext_data]; rfl
    have hPd : P.data.toList = (L.data.toList.drop 10).take n := by rw [← hP, ext_data]; congr 1; omega
    have hQd : (X ++ P).data.toList = X.data.toList ++ P.data.toList := data_append X P
    have hXs : X.size = 6 := by rw [size_data X, hXd, List.length_take_of_le (by omega)]
    have hPs : P.size ≤ 65536 := by rw [size_data P, hPd, List.length_take]; omega
    have hQs : (X ++ P).size = X.size + P.size := ByteArray.size_append
    rw [← hXd, ← hPd, ← hQd] at hR
    by_cases h7 : leNum ((L.data.toList.drop (10 + n)).take 4) = Sl.crc (X ++ P).data.toList
    rotate_left
    · rw [if_pos h7] at hR; subst hR
      exact refParse_tail s L X P (X ++ P) k n _ _ w hs hk hL (by omega) hb hn (by omega) hX hP rfl hQs.symm (by omega) rfl rfl h7
    rw [if_neg (not_not_intro h7)] at hR
    subst hR
    refine (refParse_good s L X P (X ++ P) k n _ _ w hs hk hL (by omega) hb hn (by omega) hX hP rfl hQs.symm (by omega) rfl rfl h7 (L.data.toList.getD 1 0).toNat (fun h => by rw [getD_byte L 1 h])).mono fun e w' ⟨h1, h2⟩ => ⟨?_, h2⟩
    rw [h1]
    unfold parseV
    rw [str_eq (b := P) (l := P.data.toList) rfl]
    rfl
end Go.Proofs.YtifkhjihgnnpfaaGreatDoor
