/- Contracts of seal.Parse behind the head: too short, a wrong sum, a frame. Conditions: each theorem's own hypotheses. -/
import Derived.Test.YtffdplmnjlcmnaaDoorSealI
import Derived.WalkSmall
namespace Go.Proofs.YtffdplmnjlcmnaaDoor
open Go.RowKit


set_option maxRecDepth 100000 in
set_option maxHeartbeats 1000000 in
theorem parse_long (s L X Y Z W S : ByteArray) (k n : Nat) (w : World) (hk : k ≤ s.size) (hL : s.extract k s.size = L) (h1 : ∀ h : 0 < L.size, L[0].toNat = 167) (h2 : 10 ≤ L.size) (hT : TabS w)
    (hX : L.extract 0 6 = X) (hXs : X.size = 6) (hM : L.extract 6 L.size = Z) (hY : Z.extract 0 4 = Y) (hW : Z.extract 4 Z.size = W) (hZs : 4 ≤ Z.size) (hS : str (Sl.summed X.data.toList) = .string S) (heq : (Y.toList == S.toList) = true)
    (hn : Sl.beNum ((X.data.toList.drop 2).take 4) = n) (hkind : ∀ h : 1 < X.size, X[1].toNat ≠ 0) (hbig : n ≤ 65536)
    (hlong : W.size < n + 4) :
    Calls Tryd.prog 55 #[.string s, .int .i64 k] w fun e w' => e = .returned (.tuple #[.int .i64 0, .string ⟨#[]⟩, .int .i64 0, .int .i64 31]) ∧ Below w.heap.size w w' := by
  have hmf : ∀ (fn : Fn) (first cap : Array Value) (w : World), (Instr.makeFunc fn first cap).run Tryd.prog w = .ok (.func fn first cap) w := fun _ _ _ _ => rfl
  have hd1 : decide ((k : Int) < 0) = false := by simp
  have hd2 : decide (s.size < k) = false := by simp; omega
  have h0 : 0 < L.size := by omega
  have he := ne_of L h0
  have hm : ((L[0].toNat : Int) != 167) = false := by have := h1 h0; simp; omega
  have hx2 : 1 < X.size := by omega
  have hx6 : X.size ≤ 6 := by omega
  have hkl : X[1].toNat < 256 := X[1].toNat_lt
  have hfix := fun w => fix_any X 2 4 w (by omega) (by omega) (by decide) (by decide)
  simp only [hn] at hfix
  have hk0 : ((X[1].toNat : Int) == 0) = false := by have := hkind hx2; simp; omega
  have HX := Lib.hid hX
  have HXs := Lib.hid hXs
  have HM := Lib.hid hM
  have HY := Lib.hid hY
  have HW := Lib.hid hW
  have HS := Lib.hid hS
  have HT := Lib.hid hT
  have HF := Lib.hid hfix
  clear h1 hX hXs hM hY hW hS hT hfix hn hkind
  go_enter Tryd.func55, Tryd.ntmps55
  go_wp2_with fail
  refine (next_any L 6 _ _ (by omega) (World.cell?_alloc_at _ _ _ _ rfl) (World.frozen?_alloc_at _ _ _ _ rfl)).mono ?_
  rintro e w' ⟨rfl, rfl⟩
  rw [one_cell_set, HX.out, HM.out]
  go_wp2_with fail
  refine (next_any Z 4 _ _ (by omega) (World.cell?_alloc_at _ _ _ _ rfl) (World.frozen?_alloc_at _ _ _ _ rfl)).mono ?_
  rintro e w' ⟨rfl, rfl⟩
  rw [one_cell_set, HY.out, HW.out]
  go_wp2_with fail
  refine (summed_any X _ (by rw [HXs.out]; unfold maxLen; omega) (HT.out.below ((Below.refl _ _).alloc (Nat.le_refl _) _))).mono ?_
  rintro e w1 ⟨rfl, hB1⟩
  rw [HS.out]
  have hcell : w1.cell? ⟨w.heap.size, 0, none⟩ = some (.string W) := (hB1.cell (p := ⟨w.heap.size, 0, none⟩) (by simp)).trans (World.cell?_alloc_at _ _ _ _ rfl)
  have hfz : w1.frozen? ⟨w.heap.size, 0, none⟩ = false := (hB1.frozen (p := ⟨w.heap.size, 0, none⟩) (by simp)).trans (World.frozen?_alloc_at _ _ _ _ rfl)
  have hB : Below w.heap.size w w1 := ((Below.refl w.heap.size w).alloc (Nat.le_refl _) _).trans (hB1.mono (by simp))
  have hsz : w.heap.size < w1.heap.size := by have := hB1.size; simp at this; omega
  clear hB1
  go_wp2_with fail
  refine (HF.out _).mono ?_
  rintro e w' ⟨rfl, rfl⟩
  go_wp2_with fail
  exact bodyPost_ret (v := .tuple #[.int .i64 0, .string ⟨#[]⟩, .int .i64 0, .int .i64 31]) (by simp [results, Tryd.results55, go_sem]) rfl ⟨rfl, hB⟩


set_option maxRecDepth 100000 in
set_option maxHeartbeats 1000000 in
theorem parse_tail (s L X Y Z W S : ByteArray) (k n : Nat) (w : World) (hk : k ≤ s.size) (hL : s.extract k s.size = L) (h1 : ∀ h : 0 < L.size, L[0].toNat = 167) (h2 : 10 ≤ L.size) (hT : TabS w)
    (hX : L.extract 0 6 = X) (hXs : X.size = 6) (hM : L.extract 6 L.size = Z) (hY : Z.extract 0 4 = Y) (hW : Z.extract 4 Z.size = W) (hZs : 4 ≤ Z.size) (hS : str (Sl.summed X.data.toList) = .string S) (heq : (Y.toList == S.toList) = true)
    (hn : Sl.beNum ((X.data.toList.drop 2).take 4) = n) (hkind : ∀ h : 1 < X.size, X[1].toNat ≠ 0) (hbig : n ≤ 65536)
    (hlong : n + 4 ≤ W.size) (P V U E S2 : ByteArray) (hP : W.extract 0 n = P) (hPs : P.size ≤ 65536) (hV : W.extract n W.size = V) (hVs : 4 ≤ V.size) (hU : V.extract 0 4 = U) (hE : V.extract 4 V.size = E) (hS2 : str (Sl.summed (X ++ P).data.toList) = .string S2) (hne : (U.toList == S2.toList) = false) :
    Calls Tryd.prog 55 #[.string s, .int .i64 k] w fun e w' => e = .returned (.tuple #[.int .i64 0, .string ⟨#[]⟩, .int .i64 0, .int .i64 34]) ∧ Below w.heap.size w w' := by
  have hmf : ∀ (fn : Fn) (first cap : Array Value) (w : World), (Instr.makeFunc fn first cap).run Tryd.prog w = .ok (.func fn first cap) w := fun _ _ _ _ => rfl
  have hd1 : decide ((k : Int) < 0) = false := by simp
  have hd2 : decide (s.size < k) = false := by simp; omega
  have h0 : 0 < L.size := by omega
  have he := ne_of L h0
  have hm : ((L[0].toNat : Int) != 167) = false := by have := h1 h0; simp; omega
  have hx2 : 1 < X.size := by omega
  have hx6 : X.size ≤ 6 := by omega
  have hkl : X[1].toNat < 256 := X[1].toNat_lt
  have hfix := fun w => fix_any X 2 4 w (by omega) (by omega) (by decide) (by decide)
  simp only [hn] at hfix
  have hk0 : ((X[1].toNat : Int) == 0) = false := by have := hkind hx2; simp; omega
  have HP := Lib.hid hP
  have HV := Lib.hid hV
  have HU := Lib.hid hU
  have HE := Lib.hid hE
  have HT2 := Lib.hid hS2
  clear hP hV hU hE hS2
  have HX := Lib.hid hX
  have HXs := Lib.hid hXs
  have HM := Lib.hid hM
  have HY := Lib.hid hY
  have HW := Lib.hid hW
  have HS := Lib.hid hS
  have HT := Lib.hid hT
  have HF := Lib.hid hfix
  clear h1 hX hXs hM hY hW hS hT hfix hn hkind
  go_enter Tryd.func55, Tryd.ntmps55
  go_wp2_with fail
  refine (next_any L 6 _ _ (by omega) (World.cell?_alloc_at _ _ _ _ rfl) (World.frozen?_alloc_at _ _ _ _ rfl)).mono ?_
  rintro e w' ⟨rfl, rfl⟩
  rw [one_cell_set, HX.out, HM.out]
  go_wp2_with fail
  refine (next_any Z 4 _ _ (by omega) (World.cell?_alloc_at _ _ _ _ rfl) (World.frozen?_alloc_at _ _ _ _ rfl)).mono ?_
  rintro e w' ⟨rfl, rfl⟩
  rw [one_cell_set, HY.out, HW.out]
  go_wp2_with fail
  refine (summed_any X _ (by rw [HXs.out]; unfold maxLen; omega) (HT.out.below ((Below.refl _ _).alloc (Nat.le_refl _) _))).mono ?_
  rintro e w1 ⟨rfl, hB1⟩
  rw [HS.out]
  have hcell : w1.cell? ⟨w.heap.size, 0, none⟩ = some (.string W) := (hB1.cell (p := ⟨w.heap.size, 0, none⟩) (by simp)).trans (World.cell?_alloc_at _ _ _ _ rfl)
  have hfz : w1.frozen? ⟨w.heap.size, 0, none⟩ = false := (hB1.frozen (p := ⟨w.heap.size, 0, none⟩) (by simp)).trans (World.frozen?_alloc_at _ _ _ _ rfl)
  have hB : Below w.heap.size w w1 := ((Below.refl w.heap.size w).alloc (Nat.le_refl _) _).trans (hB1.mono (by simp))
  have hsz : w.heap.size < w1.heap.size := by have := hB1.size; simp at this; omega
  clear hB1
  go_wp2_with fail
  refine (HF.out _).mono ?_
  rintro e w' ⟨rfl, rfl⟩
  go_wp2_with fail
  refine (next_any W n _ _ (by omega) hcell hfz).mono ?_
  rintro e w' ⟨rfl, rfl⟩
  rw [HP.out, HV.out]
  have hB2 : Below w.heap.size w (w1.setCell ⟨w.heap.size, 0, none⟩ (.string V)) := hB.setCell (p := ⟨w.heap.size, 0, none⟩) (Nat.le_refl _) _
  have hcell2 : (w1.setCell ⟨w.heap.size, 0, none⟩ (.string V)).cell? ⟨w.heap.size, 0, none⟩ = some (.string V) := World.cell?_setCell_same' _ _ _ (by rw [hcell]; rfl)
  have hfz2 : (w1.setCell ⟨w.heap.size, 0, none⟩ (.string V)).frozen? ⟨w.heap.size, 0, none⟩ = false := (World.frozen?_setCell _ _ _ _).trans hfz
  have hsz2 : w.heap.size < (w1.setCell ⟨w.heap.size, 0, none⟩ (.string V)).heap.size := by simpa [World.setCell] using hsz
  clear hcell hfz hB hsz
  obtain ⟨w2, hw2⟩ : ∃ w2, w1.setCell ⟨w.heap.size, 0, none⟩ (.string V) = w2 := ⟨_, rfl⟩
  rw [hw2] at hB2 hcell2 hfz2 hsz2 ⊢
  clear hw2
  go_wp2_with fail
  refine (next_any V 4 _ _ (by omega) hcell2 hfz2).mono ?_
  rintro e w' ⟨rfl, rfl⟩
  rw [HU.out, HE.out]
  have hB3 : Below w.heap.size w (w2.setCell ⟨w.heap.size, 0, none⟩ (.string E)) := hB2.setCell (p := ⟨w.heap.size, 0, none⟩) (Nat.le_refl _) _
  have hcell3 : (w2.setCell ⟨w.heap.size, 0, none⟩ (.string E)).cell? ⟨w.heap.size, 0, none⟩ = some (.string E) := World.cell?_setCell_same' _ _ _ (by rw [hcell2]; rfl)
  have hsz3 : w.heap.size < (w2.setCell ⟨w.heap.size, 0, none⟩ (.string E)).heap.size := by simpa [World.setCell] using hsz2
  clear hcell2 hfz2 hB2 hsz2
  obtain ⟨w3, hw3⟩ : ∃ w3, w2.setCell ⟨w.heap.size, 0, none⟩ (.string E) = w3 := ⟨_, rfl⟩
  rw [hw3] at hB3 hcell3 hsz3 ⊢
  clear hw3
  go_wp2_with fail
  refine (summed_any (X ++ P) _ (by unfold maxLen; rw [ByteArray.size_append]; omega) (HT.out.below hB3)).mono ?_
  rintro e w4 ⟨rfl, hB4⟩
  rw [HT2.out]
  have hcell4 : w4.cell? ⟨w.heap.size, 0, none⟩ = some (.string E) := (hB4.cell (p := ⟨w.heap.size, 0, none⟩) hsz3).trans hcell3
  have hB5 := hB3.trans (hB4.mono hB3.size)
  clear hB3 hB4 hcell3
  go_wp2_with fail
  exact bodyPost_ret (v := .tuple #[.int .i64 0, .string ⟨#[]⟩, .int .i64 0, .int .i64 34]) (by simp [results, Tryd.results55, go_sem]) rfl ⟨rfl, hB5⟩


set_option maxRecDepth 100000 in
set_option maxHeartbeats 1000000 in
theorem parse_good (s L X Y Z W S : ByteArray) (k n : Nat) (w : World) (hk : k ≤ s.size) (hL : s.extract k s.size = L) (h1 : ∀ h : 0 < L.size, L[0].toNat = 167) (h2 : 10 ≤ L.size) (hT : TabS w)
    (hX : L.extract 0 6 = X) (hXs : X.size = 6) (hM : L.extract 6 L.size = Z) (hY : Z.extract 0 4 = Y) (hW : Z.extract 4 Z.size = W) (hZs : 4 ≤ Z.size) (hS : str (Sl.summed X.data.toList) = .string S) (heq : (Y.toList == S.toList) = true)
    (hn : Sl.beNum ((X.data.toList.drop 2).take 4) = n) (hkind : ∀ h : 1 < X.size, X[1].toNat ≠ 0) (hbig : n ≤ 65536)
    (hlong : n + 4 ≤ W.size) (P V U E S2 : ByteArray) (hP : W.extract 0 n = P) (hPs : P.size ≤ 65536) (hV : W.extract n W.size = V) (hVs : 4 ≤ V.size) (hU : V.extract 0 4 = U) (hE : V.extract 4 V.size = E) (hS2 : str (Sl.summed (X ++ P).data.toList) = .string S2) (hq : (U.toList == S2.toList) = true) (hEs : E.size ≤ s.size) (hs : s.size ≤ 9223372036854775807) (c m : Nat) (hc : ∀ h : 1 < X.size, X[1].toNat = c) (hm' : s.size - E.size = m) :
    Calls Tryd.prog 55 #[.string s, .int .i64 k] w fun e w' => e = .returned (.tuple #[.int .i64 (c : Int), .string P, .int .i64 (m : Int), .int .i64 0]) ∧ Below w.heap.size w w' := by
  have hmf : ∀ (fn : Fn) (first cap : Array Value) (w : World), (Instr.makeFunc fn first cap).run Tryd.prog w = .ok (.func fn first cap) w := fun _ _ _ _ => rfl
  have hd1 : decide ((k : Int) < 0) = false := by simp
  have hd2 : decide (s.size < k) = false := by simp; omega
  have h0 : 0 < L.size := by omega
  have he := ne_of L h0
  have hm : ((L[0].toNat : Int) != 167) = false := by have := h1 h0; simp; omega
  have hx2 : 1 < X.size := by omega
  have hx6 : X.size ≤ 6 := by omega
  have hkl : X[1].toNat < 256 := X[1].toNat_lt
  have hfix := fun w => fix_any X 2 4 w (by omega) (by omega) (by decide) (by decide)
  simp only [hn] at hfix
  have hk0 : ((X[1].toNat : Int) == 0) = false := by have := hkind hx2; simp; omega
  have HP := Lib.hid hP
  have HV := Lib.hid hV
  have HU := Lib.hid hU
  have HE := Lib.hid hE
  have HT2 := Lib.hid hS2
  clear hP hV hU hE hS2
  have hcc := hc hx2
  rw [hcc] at hk0 hkl
  have i1 : IntKind.i64.wrap ((s.size : Int) - (E.size : Int)) = (m : Int) := by rw [IntWalk.i64_in _ (by omega)]; omega
  have i2 : (s.size : Int) - (E.size : Int) = (m : Int) := by omega
  clear hc hm'
  have HX := Lib.hid hX
  have HXs := Lib.hid hXs
  have HM := Lib.hid hM
  have HY := Lib.hid hY
  have HW := Lib.hid hW
  have HS := Lib.hid hS
  have HT := Lib.hid hT
  have HF := Lib.hid hfix
  clear h1 hX hXs hM hY hW hS hT hfix hn hkind
  go_enter Tryd.func55, Tryd.ntmps55
  go_wp2_with fail
  refine (next_any L 6 _ _ (by omega) (World.cell?_alloc_at _ _ _ _ rfl) (World.frozen?_alloc_at _ _ _ _ rfl)).mono ?_
  rintro e w' ⟨rfl, rfl⟩
  rw [one_cell_set, HX.out, HM.out]
  go_wp2_with fail
  refine (next_any Z 4 _ _ (by omega) (World.cell?_alloc_at _ _ _ _ rfl) (World.frozen?_alloc_at _ _ _ _ rfl)).mono ?_
  rintro e w' ⟨rfl, rfl⟩
  rw [one_cell_set, HY.out, HW.out]
  go_wp2_with fail
  refine (summed_any X _ (by rw [HXs.out]; unfold maxLen; omega) (HT.out.below ((Below.refl _ _).alloc (Nat.le_refl _) _))).mono ?_
  rintro e w1 ⟨rfl, hB1⟩
  rw [HS.out]
  have hcell : w1.cell? ⟨w.heap.size, 0, none⟩ = some (.string W) := (hB1.cell (p := ⟨w.heap.size, 0, none⟩) (by simp)).trans (World.cell?_alloc_at _ _ _ _ rfl)
  have hfz : w1.frozen? ⟨w.heap.size, 0, none⟩ = false := (hB1.frozen (p := ⟨w.heap.size, 0, none⟩) (by simp)).trans (World.frozen?_alloc_at _ _ _ _ rfl)
  have hB : Below w.heap.size w w1 := ((Below.refl w.heap.size w).alloc (Nat.le_refl _) _).trans (hB1.mono (by simp))
  have hsz : w.heap.size < w1.heap.size := by have := hB1.size; simp at this; omega
  clear hB1
  go_wp2_with fail
  refine (HF.out _).mono ?_
  rintro e w' ⟨rfl, rfl⟩
  go_wp2_with fail
  refine (next_any W n _ _ (by omega) hcell hfz).mono ?_
  rintro e w' ⟨rfl, rfl⟩
  rw [HP.out, HV.out]
  have hB2 : Below w.heap.size w (w1.setCell ⟨w.heap.size, 0, none⟩ (.string V)) := hB.setCell (p := ⟨w.heap.size, 0, none⟩) (Nat.le_refl _) _
  have hcell2 : (w1.setCell ⟨w.heap.size, 0, none⟩ (.string V)).cell? ⟨w.heap.size, 0, none⟩ = some (.string V) := World.cell?_setCell_same' _ _ _ (by rw [hcell]; rfl)
  have hfz2 : (w1.setCell ⟨w.heap.size, 0, none⟩ (.string V)).frozen? ⟨w.heap.size, 0, none⟩ = false := (World.frozen?_setCell _ _ _ _).trans hfz
  have hsz2 : w.heap.size < (w1.setCell ⟨w.heap.size, 0, none⟩ (.string V)).heap.size := by simpa [World.setCell] using hsz
  clear hcell hfz hB hsz
  obtain ⟨w2, hw2⟩ : ∃ w2, w1.setCell ⟨w.heap.size, 0, none⟩ (.string V) = w2 := ⟨_, rfl⟩
  rw [hw2] at hB2 hcell2 hfz2 hsz2 ⊢
  clear hw2
  go_wp2_with fail
  refine (next_any V 4 _ _ (by omega) hcell2 hfz2).mono ?_
  rintro e w' ⟨rfl, rfl⟩
  rw [HU.out, HE.out]
  have hB3 : Below w.heap.size w (w2.setCell ⟨w.heap.size, 0, none⟩ (.string E)) := hB2.setCell (p := ⟨w.heap.size, 0, none⟩) (Nat.le_refl _) _
  have hcell3 : (w2.setCell ⟨w.heap.size, 0, none⟩ (.string E)).cell? ⟨w.heap.size, 0, none⟩ = some (.string E) := World.cell?_setCell_same' _ _ _ (by rw [hcell2]; rfl)
  have hsz3 : w.heap.size < (w2.setCell ⟨w.heap.size, 0, none⟩ (.string E)).heap.size := by simpa [World.setCell] using hsz2
  clear hcell2 hfz2 hB2 hsz2
  obtain ⟨w3, hw3⟩ : ∃ w3, w2.setCell ⟨w.heap.size, 0, none⟩ (.string E) = w3 := ⟨_, rfl⟩
  rw [hw3] at hB3 hcell3 hsz3 ⊢
  clear hw3
  go_wp2_with fail
  refine (summed_any (X ++ P) _ (by unfold maxLen; rw [ByteArray.size_append]; omega) (HT.out.below hB3)).mono ?_
  rintro e w4 ⟨rfl, hB4⟩
  rw [HT2.out]
  have hcell4 : w4.cell? ⟨w.heap.size, 0, none⟩ = some (.string E) := (hB4.cell (p := ⟨w.heap.size, 0, none⟩) hsz3).trans hcell3
  have hB5 := hB3.trans (hB4.mono hB3.size)
  clear hB3 hB4 hcell3
  go_wp2_with fail
  go_quiet (fail)
  go_wp2_with fail
  exact bodyPost_ret (v := .tuple #[.int .i64 (c : Int), .string P, .int .i64 (m : Int), .int .i64 0]) (by simp [results, Tryd.results55, go_sem]) rfl ⟨rfl, below_drewN hB5 _⟩

end Go.Proofs.YtffdplmnjlcmnaaDoor
