/- Load, the program's and the document's: every answer. Conditions: each theorem's own hypotheses. -/
import Derived.Test.YtdhnkcfmjibibaaGreatDoorMtA
import Derived.Test.YtdhnkcfmjibibaaGreatDoorMsC
import Derived.Test.YtdhnkcfmjibibaaGreatDoorMdF
namespace Go.Proofs.YtdhnkcfmjibibaaGreatDoor
open Go.RowKit
set_option linter.unusedVariables false

theorem Mt.data_len {m : Dk.M} (hG : Dk.Good m) (nm : List UInt8) : (Dk.data m nm).length ≤ 1099511627776 := by
  unfold Dk.data
  cases h : Dk.get Dk.F.name nm m.files with
  | none => exact Nat.zero_le _
  | some f => exact Nat.le_trans (hG.file f (Dk.get_mem h).1).2.1 (by decide)
section
variable {B d : Nat} {W0 w : World} {m m' : Dk.M} {K : Nat → Prop} {c : Int}
set_option maxRecDepth 100000 in
set_option maxHeartbeats 2000000 in
theorem Ms.load_bad (S : Jl.Sit B W0 w d m K) (hT : ∀ {w : World}, Below B W0 w → TabS w) {D : ByteArray} (hc : Dk.code m Ms.nm = 0) (hD : D.data.toList = Dk.data m Ms.nm) (hs : D.size ≤ 1099511627776) {X : Man} {n : Nat} (hn : ((n : Int) != 0) = true) (hX : Mf.decode D.data.toList = ⟨n, X⟩) :
    Calls Tryz.prog 11 #[.pointer (some ⟨d, 0, none⟩)] w fun e w' => (∃ A cap, e = .returned (.tuple #[.agg #[.int .i64 0, .int .i64 0, .int .i64 0, .int .i64 0, .int .i64 0, .int .i64 0, .slice A 0 cap], .int .i64 80]) ∧ Runs w' w.heap.size A cap []) ∧ Below w.heap.size w w' := by
  obtain ⟨x, hx⟩ : ∃ x, w.alloc (.cells zeroMan 31) = x := ⟨_, rfl⟩
  have hA : Below w.heap.size w x := by rw [← hx]; exact (Below.refl _ _).alloc (Nat.le_refl _) _
  have hb0 : Blk x w.heap.size 31 zeroMan := by rw [← hx]; exact Blk.new _ _ _
  have hz0 : x.heap.size = w.heap.size + 1 := by rw [← hx]; simp
  have S0 := S.later hA
  have ks := Ms.size_at S0 ⟨#[109, 97, 110, 105, 102, 101, 115, 116]⟩ (by decide)
  have kr := Ms.read_at S0 ⟨#[109, 97, 110, 105, 102, 101, 115, 116]⟩ D (by decide) hc hD hs
  have hsz : Dk.sizeV m (⟨#[109, 97, 110, 105, 102, 101, 115, 116]⟩ : ByteArray).data.toList = .tuple #[.int .i64 D.size, .int .i64 0] := by
    have hc' : Dk.code m (⟨#[109, 97, 110, 105, 102, 101, 115, 116]⟩ : ByteArray).data.toList = 0 := hc
    unfold Dk.sizeV
    rw [if_pos hc', show Dk.data m (⟨#[109, 97, 110, 105, 102, 101, 115, 116]⟩ : ByteArray).data.toList = D.data.toList from hD.symm, ← Tx.size]
  rw [hsz] at ks
  have kd := decode_any D ⟨n, X⟩ x (by omega) (hT S0.below) hX
  unfold decV manV at kd
  have HZ := Lib.hid hz0
  clear hsz hc hD hX hs hz0 S0
  go_enter Tryz.func11, Tryz.ntmps11
  go_upto_region 1 with fail
  rw [show (.cells #[.int .i64 0, .int .i64 0, .int .i64 0, .int .i64 0, .int .i64 0, .int .i64 0, .slice none 0 0] 31 : Obj) = .cells zeroMan 31 from rfl, hx]
  clear hx
  go_upto_region 8 with (first
    | (go_at_call 25; refine ks.mono ?_; clear ks; rintro e w1 ⟨rfl, hw⟩; subst hw)
    | (go_at_call 38; refine kr.mono ?_; clear kr; rintro e w1 ⟨rfl, hw⟩; subst hw)
    | (go_at_call 39; refine kd.mono ?_; clear kd; rintro e w2 ⟨⟨A2, c2, rfl, r2⟩, b2⟩))
  obtain ⟨w3, hw3⟩ : ∃ w3, w2.alloc (.cells #[.int .i64 X.w, .int .i64 X.c, .int .i64 X.m, .int .i64 X.seq, .int .i64 X.next, .int .i64 X.jr, .slice A2 X.runs.length c2] 31) = w3 := ⟨_, rfl⟩
  have hA3 : Below w2.heap.size w2 w3 := by rw [← hw3]; exact (Below.refl _ _).alloc (Nat.le_refl _) _
  have hm3 : Blk w3 w2.heap.size 31 #[.int .i64 X.w, .int .i64 X.c, .int .i64 X.m, .int .i64 X.seq, .int .i64 X.next, .int .i64 X.jr, .slice A2 X.runs.length c2] := by rw [← hw3]; exact Blk.new _ _ _
  rw [hw3]
  have b3 : Below x.heap.size x w3 := b2.trans (hA3.mono b2.size)
  have r3 : Runs w3 x.heap.size A2 c2 X.runs := own_keep r2 (Nat.le_refl _) fun b _ hb => hA3.block b hb
  have hb3 : Blk w3 w.heap.size 31 zeroMan := (b3.block _ hb0.lt).trans hb0
  have hz2 := b2.size
  clear hw3 b2 r2 hb0
  obtain ⟨x0, x1, x2, x3, x4, x5, x6⟩ := zero_seven hb3
  obtain ⟨f0, f1, f2, f3, f4, f5, f6⟩ := blk_free7 hb3
  obtain ⟨m0, m1, m2, m3, m4, m5, m6⟩ : w3.cell? ⟨w2.heap.size, 0, none⟩ = some (.int .i64 X.w) ∧ w3.cell? ⟨w2.heap.size, 1, none⟩ = some (.int .i64 X.c) ∧ w3.cell? ⟨w2.heap.size, 2, none⟩ = some (.int .i64 X.m) ∧ w3.cell? ⟨w2.heap.size, 3, none⟩ = some (.int .i64 X.seq) ∧ w3.cell? ⟨w2.heap.size, 4, none⟩ = some (.int .i64 X.next) ∧ w3.cell? ⟨w2.heap.size, 5, none⟩ = some (.int .i64 X.jr) ∧ w3.cell? ⟨w2.heap.size, 6, none⟩ = some (.slice A2 X.runs.length c2) := ⟨hm3.cell 0, hm3.cell 1, hm3.cell 2, hm3.cell 3, hm3.cell 4, hm3.cell 5, hm3.cell 6⟩
  clear hA3 hm3
  go_wp2_with fail
  refine bodyPost_ret (v := .tuple #[.agg #[.int .i64 0, .int .i64 0, .int .i64 0, .int .i64 0, .int .i64 0, .int .i64 0, .slice none 0 0], .int .i64 80]) (by simp [results, Tryz.results11, go_sem, x0, x1, x2, x3, x4, x5, x6]) rfl ⟨⟨none, 0, rfl, Runs.nil _ _⟩, ((hA.trans (b3.mono hA.size)).trans (man7_below (Nat.le_refl _) _ _ _ _ _ _ _))⟩
set_option maxRecDepth 100000 in
set_option maxHeartbeats 2000000 in
theorem Ms.load_no (S : Jl.Sit B W0 w d m K) {n : Int} (hn : (n != 0) = true) (hc : Dk.code m Ms.nm = n) :
    Calls Tryz.prog 11 #[.pointer (some ⟨d, 0, none⟩)] w fun e w' => (∃ A cap, e = .returned (.tuple #[.agg #[.int .i64 0, .int .i64 0, .int .i64 0, .int .i64 0, .int .i64 0, .int .i64 0, .slice A 0 cap], .int .i64 n]) ∧ Runs w' w.heap.size A cap []) ∧ Below w.heap.size w w' := by
  obtain ⟨x, hx⟩ : ∃ x, w.alloc (.cells zeroMan 31) = x := ⟨_, rfl⟩
  have hA : Below w.heap.size w x := by rw [← hx]; exact (Below.refl _ _).alloc (Nat.le_refl _) _
  have hb0 : Blk x w.heap.size 31 zeroMan := by rw [← hx]; exact Blk.new _ _ _
  have S0 := S.later hA
  have ks := Ms.size_at S0 ⟨#[109, 97, 110, 105, 102, 101, 115, 116]⟩ (by decide)
  have hsz : Dk.sizeV m (⟨#[109, 97, 110, 105, 102, 101, 115, 116]⟩ : ByteArray).data.toList = .tuple #[.int .i64 0, .int .i64 n] := by
    have hc' : Dk.code m (⟨#[109, 97, 110, 105, 102, 101, 115, 116]⟩ : ByteArray).data.toList = n := hc
    unfold Dk.sizeV
    rw [if_neg (by rw [hc']; exact bne_iff_ne.1 hn), hc']
  rw [hsz] at ks
  clear hsz hc S0
  go_enter Tryz.func11, Tryz.ntmps11
  go_upto_region 1 with fail
  rw [show (.cells #[.int .i64 0, .int .i64 0, .int .i64 0, .int .i64 0, .int .i64 0, .int .i64 0, .slice none 0 0] 31 : Obj) = .cells zeroMan 31 from rfl, hx]
  clear hx
  obtain ⟨x0, x1, x2, x3, x4, x5, x6⟩ := zero_seven hb0
  obtain ⟨f0, f1, f2, f3, f4, f5, f6⟩ := blk_free7 hb0
  go_wp2_with (go_at_call 25; refine ks.mono ?_; clear ks; rintro e w1 ⟨rfl, hw⟩; subst hw)
  refine bodyPost_ret (v := .tuple #[.agg #[.int .i64 0, .int .i64 0, .int .i64 0, .int .i64 0, .int .i64 0, .int .i64 0, .slice none 0 0], .int .i64 n]) (by simp [results, Tryz.results11, go_sem, x0, x1, x2, x3, x4, x5, x6]) rfl ⟨⟨none, 0, rfl, Runs.nil _ _⟩, hA.trans (man7_below (Nat.le_refl _) _ _ _ _ _ _ _)⟩
theorem Ms.load_any (S : Jl.Sit B W0 w d m K) (hT : ∀ {w : World}, Below B W0 w → TabS w) :
    Calls Tryz.prog 11 #[.pointer (some ⟨d, 0, none⟩)] w fun e w' => (∃ A cap, e = .returned (.tuple #[manV (Ms.load m).2 A cap, .int .i64 (Ms.load m).1]) ∧ Runs w' w.heap.size A cap (Ms.load m).2.runs) ∧ Below w.heap.size w w' := by
  unfold Ms.load
  by_cases hc : Dk.code m Ms.nm = 0
  · obtain ⟨D, hD, hDs⟩ := Tx.of (Dk.data m Ms.nm)
    have hs : D.size ≤ 1099511627776 := by rw [hDs]; exact Mt.data_len S.good _
    rw [if_pos hc]
    obtain ⟨Z, hZ⟩ : ∃ Z, Mf.decode (Dk.data m Ms.nm) = Z := ⟨_, rfl⟩
    rw [hZ]
    obtain ⟨n, X⟩ := Z
    by_cases h0 : n = 0
    · subst h0
      rw [if_pos rfl]
      exact Ms.load_some S hT hc hD hs (by rw [hD]; exact hZ)
    · rw [if_neg h0]
      exact Ms.load_bad S hT hc hD hs (n := n) (X := X) (bne_iff_ne.2 fun e => h0 (Int.ofNat.inj e)) (by rw [hD]; exact hZ)
  · rw [if_neg hc]
    exact Ms.load_no S (bne_iff_ne.2 hc) rfl
theorem Mt.read_at (S : Mt.Sit B W0 w d m K) (nb D : ByteArray) (hn : nb.size ≤ 1000) (hc : Dk.code m nb.data.toList = 0) (hD : D.data.toList = Dk.data m nb.data.toList) (hs : D.size ≤ 1099511627776) : Calls Tryz.prog 40 #[.pointer (some ⟨d, 0, none⟩), .string nb, .int .i64 0, .int .i64 D.size] w fun r w' => r = .returned (.tuple #[.string D, .int .i64 0]) ∧ w = w' := by
  refine (S.ask fun F hA hG => Dr.read_any hA hG nb (by omega) 0 D.size (by decide) (by omega)).mono ?_
  rintro e w' ⟨h1, h2⟩
  refine ⟨h1.trans ?_, h2⟩
  have hl : (Dk.data m nb.data.toList).length = D.size := by rw [← hD, Tx.size]
  unfold Dk.readV
  rw [if_pos hc, if_neg (by omega), ← hD, show Int.toNat 0 = 0 from rfl, List.drop_zero, Int.toNat_natCast, List.take_of_length_le (by rw [Tx.size]; exact Nat.le_refl _), Tx.v_eq rfl]
set_option maxRecDepth 100000 in
set_option maxHeartbeats 2000000 in
theorem Mt.load_some (S : Mt.Sit B W0 w d m K) {D : ByteArray} (hc : Dk.code m Ms.nm = 0) (hD : D.data.toList = Dk.data m Ms.nm) (hs : D.size ≤ 1099511627776) {X : Man} (hX : Mf.decode D.data.toList = ⟨0, X⟩) :
    Calls Tryz.prog 12 #[.pointer (some ⟨d, 0, none⟩)] w fun e w' => (∃ A cap, e = .returned (.tuple #[.agg #[.int .i64 X.w, .int .i64 X.c, .int .i64 X.m, .int .i64 X.seq, .int .i64 X.next, .int .i64 X.jr, .slice A X.runs.length cap], .int .i64 0]) ∧ Runs w' w.heap.size A cap X.runs) ∧ Below w.heap.size w w' := by
  obtain ⟨x, hx⟩ : ∃ x, w.alloc (.cells zeroMan 31) = x := ⟨_, rfl⟩
  have hA : Below w.heap.size w x := by rw [← hx]; exact (Below.refl _ _).alloc (Nat.le_refl _) _
  have hb0 : Blk x w.heap.size 31 zeroMan := by rw [← hx]; exact Blk.new _ _ _
  have hz0 : x.heap.size = w.heap.size + 1 := by rw [← hx]; simp
  have S0 := S.later hA
  have ks := Mt.size_at S0 ⟨#[109, 97, 110, 105, 102, 101, 115, 116]⟩ (by decide)
  have kr := Mt.read_at S0 ⟨#[109, 97, 110, 105, 102, 101, 115, 116]⟩ D (by decide) hc hD hs
  have hsz : Dk.sizeV m (⟨#[109, 97, 110, 105, 102, 101, 115, 116]⟩ : ByteArray).data.toList = .tuple #[.int .i64 D.size, .int .i64 0] := by
    have hc' : Dk.code m (⟨#[109, 97, 110, 105, 102, 101, 115, 116]⟩ : ByteArray).data.toList = 0 := hc
    unfold Dk.sizeV
    rw [if_pos hc', show Dk.data m (⟨#[109, 97, 110, 105, 102, 101, 115, 116]⟩ : ByteArray).data.toList = D.data.toList from hD.symm, ← Tx.size]
  rw [hsz] at ks
  have kd := refDecode_any D ⟨0, X⟩ x (by omega) hX
  unfold decV manV at kd
  have HZ := Lib.hid hz0
  clear hsz hc hD hX hs hz0 S0
  go_enter Tryz.func12, Tryz.ntmps12
  go_upto_region 1 with fail
  rw [show (.cells #[.int .i64 0, .int .i64 0, .int .i64 0, .int .i64 0, .int .i64 0, .int .i64 0, .slice none 0 0] 31 : Obj) = .cells zeroMan 31 from rfl, hx]
  clear hx
  go_upto_region 8 with (first
    | (go_at_call 32; refine ks.mono ?_; clear ks; rintro e w1 ⟨rfl, hw⟩; subst hw)
    | (go_at_call 40; refine kr.mono ?_; clear kr; rintro e w1 ⟨rfl, hw⟩; subst hw)
    | (go_at_call 41; refine kd.mono ?_; clear kd; rintro e w2 ⟨⟨A2, c2, rfl, r2⟩, b2⟩))
  obtain ⟨w3, hw3⟩ : ∃ w3, w2.alloc (.cells #[.int .i64 X.w, .int .i64 X.c, .int .i64 X.m, .int .i64 X.seq, .int .i64 X.next, .int .i64 X.jr, .slice A2 X.runs.length c2] 31) = w3 := ⟨_, rfl⟩
  have hA3 : Below w2.heap.size w2 w3 := by rw [← hw3]; exact (Below.refl _ _).alloc (Nat.le_refl _) _
  have hm3 : Blk w3 w2.heap.size 31 #[.int .i64 X.w, .int .i64 X.c, .int .i64 X.m, .int .i64 X.seq, .int .i64 X.next, .int .i64 X.jr, .slice A2 X.runs.length c2] := by rw [← hw3]; exact Blk.new _ _ _
  rw [hw3]
  have b3 : Below x.heap.size x w3 := b2.trans (hA3.mono b2.size)
  have r3 : Runs w3 x.heap.size A2 c2 X.runs := own_keep r2 (Nat.le_refl _) fun b _ hb => hA3.block b hb
  have hb3 : Blk w3 w.heap.size 31 zeroMan := (b3.block _ hb0.lt).trans hb0
  have hz2 := b2.size
  clear hw3 b2 r2 hb0
  obtain ⟨x0, x1, x2, x3, x4, x5, x6⟩ := zero_seven hb3
  obtain ⟨f0, f1, f2, f3, f4, f5, f6⟩ := blk_free7 hb3
  obtain ⟨m0, m1, m2, m3, m4, m5, m6⟩ : w3.cell? ⟨w2.heap.size, 0, none⟩ = some (.int .i64 X.w) ∧ w3.cell? ⟨w2.heap.size, 1, none⟩ = some (.int .i64 X.c) ∧ w3.cell? ⟨w2.heap.size, 2, none⟩ = some (.int .i64 X.m) ∧ w3.cell? ⟨w2.heap.size, 3, none⟩ = some (.int .i64 X.seq) ∧ w3.cell? ⟨w2.heap.size, 4, none⟩ = some (.int .i64 X.next) ∧ w3.cell? ⟨w2.heap.size, 5, none⟩ = some (.int .i64 X.jr) ∧ w3.cell? ⟨w2.heap.size, 6, none⟩ = some (.slice A2 X.runs.length c2) := ⟨hm3.cell 0, hm3.cell 1, hm3.cell 2, hm3.cell 3, hm3.cell 4, hm3.cell 5, hm3.cell 6⟩
  clear hA3 hm3
  go_wp2_with fail
  refine bodyPost_ret (v := .tuple #[.agg #[.int .i64 X.w, .int .i64 X.c, .int .i64 X.m, .int .i64 X.seq, .int .i64 X.next, .int .i64 X.jr, .slice A2 X.runs.length c2], .int .i64 0]) (by simp [results, Tryz.results12, go_sem, x0, x1, x2, x3, x4, x5, x6]) rfl ⟨⟨A2, c2, rfl, ?_⟩, ((hA.trans (b3.mono hA.size)).trans (man7_below (Nat.le_refl _) _ _ _ _ _ _ _))⟩
  refine World.ownsRow.lower (own_keep r3 (Nat.le_refl _) fun b hb _ => ?_) (show w.heap.size ≤ x.heap.size from hA.size)
  exact man7_heap (show b ≠ w.heap.size by have := HZ.out; omega) _ _ _ _ _ _ _
set_option maxRecDepth 100000 in
set_option maxHeartbeats 2000000 in
theorem Mt.load_bad (S : Mt.Sit B W0 w d m K) {D : ByteArray} (hc : Dk.code m Ms.nm = 0) (hD : D.data.toList = Dk.data m Ms.nm) (hs : D.size ≤ 1099511627776) {X : Man} {n : Nat} (hn : ((n : Int) != 0) = true) (hX : Mf.decode D.data.toList = ⟨n, X⟩) :
    Calls Tryz.prog 12 #[.pointer (some ⟨d, 0, none⟩)] w fun e w' => (∃ A cap, e = .returned (.tuple #[.agg #[.int .i64 0, .int .i64 0, .int .i64 0, .int .i64 0, .int .i64 0, .int .i64 0, .slice A 0 cap], .int .i64 80]) ∧ Runs w' w.heap.size A cap []) ∧ Below w.heap.size w w' := by
  obtain ⟨x, hx⟩ : ∃ x, w.alloc (.cells zeroMan 31) = x := ⟨_, rfl⟩
  have hA : Below w.heap.size w x := by rw [← hx]; exact (Below.refl _ _).alloc (Nat.le_refl _) _
  have hb0 : Blk x w.heap.size 31 zeroMan := by rw [← hx]; exact Blk.new _ _ _
  have hz0 : x.heap.size = w.heap.size + 1 := by rw [← hx]; simp
  have S0 := S.later hA
  have ks := Mt.size_at S0 ⟨#[109, 97, 110, 105, 102, 101, 115, 116]⟩ (by decide)
  have kr := Mt.read_at S0 ⟨#[109, 97, 110, 105, 102, 101, 115, 116]⟩ D (by decide) hc hD hs
  have hsz : Dk.sizeV m (⟨#[109, 97, 110, 105, 102, 101, 115, 116]⟩ : ByteArray).data.toList = .tuple #[.int .i64 D.size, .int .i64 0] := by
    have hc' : Dk.code m (⟨#[109, 97, 110, 105, 102, 101, 115, 116]⟩ : ByteArray).data.toList = 0 := hc
    unfold Dk.sizeV
    rw [if_pos hc', show Dk.data m (⟨#[109, 97, 110, 105, 102, 101, 115, 116]⟩ : ByteArray).data.toList = D.data.toList from hD.symm, ← Tx.size]
  rw [hsz] at ks
  have kd := refDecode_any D ⟨n, X⟩ x (by omega) hX
  unfold decV manV at kd
  have HZ := Lib.hid hz0
  clear hsz hc hD hX hs hz0 S0
  go_enter Tryz.func12, Tryz.ntmps12
  go_upto_region 1 with fail
  rw [show (.cells #[.int .i64 0, .int .i64 0, .int .i64 0, .int .i64 0, .int .i64 0, .int .i64 0, .slice none 0 0] 31 : Obj) = .cells zeroMan 31 from rfl, hx]
  clear hx
  go_upto_region 8 with (first
    | (go_at_call 32; refine ks.mono ?_; clear ks; rintro e w1 ⟨rfl, hw⟩; subst hw)
    | (go_at_call 40; refine kr.mono ?_; clear kr; rintro e w1 ⟨rfl, hw⟩; subst hw)
    | (go_at_call 41; refine kd.mono ?_; clear kd; rintro e w2 ⟨⟨A2, c2, rfl, r2⟩, b2⟩))
  obtain ⟨w3, hw3⟩ : ∃ w3, w2.alloc (.cells #[.int .i64 X.w, .int .i64 X.c, .int .i64 X.m, .int .i64 X.seq, .int .i64 X.next, .int .i64 X.jr, .slice A2 X.runs.length c2] 31) = w3 := ⟨_, rfl⟩
  have hA3 : Below w2.heap.size w2 w3 := by rw [← hw3]; exact (Below.refl _ _).alloc (Nat.le_refl _) _
  have hm3 : Blk w3 w2.heap.size 31 #[.int .i64 X.w, .int .i64 X.c, .int .i64 X.m, .int .i64 X.seq, .int .i64 X.next, .int .i64 X.jr, .slice A2 X.runs.length c2] := by rw [← hw3]; exact Blk.new _ _ _
  rw [hw3]
  have b3 : Below x.heap.size x w3 := b2.trans (hA3.mono b2.size)
  have r3 : Runs w3 x.heap.size A2 c2 X.runs := own_keep r2 (Nat.le_refl _) fun b _ hb => hA3.block b hb
  have hb3 : Blk w3 w.heap.size 31 zeroMan := (b3.block _ hb0.lt).trans hb0
  have hz2 := b2.size
  clear hw3 b2 r2 hb0
  obtain ⟨x0, x1, x2, x3, x4, x5, x6⟩ := zero_seven hb3
  obtain ⟨f0, f1, f2, f3, f4, f5, f6⟩ := blk_free7 hb3
  obtain ⟨m0, m1, m2, m3, m4, m5, m6⟩ : w3.cell? ⟨w2.heap.size, 0, none⟩ = some (.int .i64 X.w) ∧ w3.cell? ⟨w2.heap.size, 1, none⟩ = some (.int .i64 X.c) ∧ w3.cell? ⟨w2.heap.size, 2, none⟩ = some (.int .i64 X.m) ∧ w3.cell? ⟨w2.heap.size, 3, none⟩ = some (.int .i64 X.seq) ∧ w3.cell? ⟨w2.heap.size, 4, none⟩ = some (.int .i64 X.next) ∧ w3.cell? ⟨w2.heap.size, 5, none⟩ = some (.int .i64 X.jr) ∧ w3.cell? ⟨w2.heap.size, 6, none⟩ = some (.slice A2 X.runs.length c2) := ⟨hm3.cell 0, hm3.cell 1, hm3.cell 2, hm3.cell 3, hm3.cell 4, hm3.cell 5, hm3.cell 6⟩
  clear hA3 hm3
  go_wp2_with fail
  refine bodyPost_ret (v := .tuple #[.agg #[.int .i64 0, .int .i64 0, .int .i64 0, .int .i64 0, .int .i64 0, .int .i64 0, .slice none 0 0], .int .i64 80]) (by simp [results, Tryz.results12, go_sem, x0, x1, x2, x3, x4, x5, x6]) rfl ⟨⟨none, 0, rfl, Runs.nil _ _⟩, ((hA.trans (b3.mono hA.size)).trans (man7_below (Nat.le_refl _) _ _ _ _ _ _ _))⟩
set_option maxRecDepth 100000 in
set_option maxHeartbeats 2000000 in
theorem Mt.load_no (S : Mt.Sit B W0 w d m K) {n : Int} (hn : (n != 0) = true) (hc : Dk.code m Ms.nm = n) :
    Calls Tryz.prog 12 #[.pointer (some ⟨d, 0, none⟩)] w fun e w' => (∃ A cap, e = .returned (.tuple #[.agg #[.int .i64 0, .int .i64 0, .int .i64 0, .int .i64 0, .int .i64 0, .int .i64 0, .slice A 0 cap], .int .i64 n]) ∧ Runs w' w.heap.size A cap []) ∧ Below w.heap.size w w' := by
  obtain ⟨x, hx⟩ : ∃ x, w.alloc (.cells zeroMan 31) = x := ⟨_, rfl⟩
  have hA : Below w.heap.size w x := by rw [← hx]; exact (Below.refl _ _).alloc (Nat.le_refl _) _
  have hb0 : Blk x w.heap.size 31 zeroMan := by rw [← hx]; exact Blk.new _ _ _
  have S0 := S.later hA
  have ks := Mt.size_at S0 ⟨#[109, 97, 110, 105, 102, 101, 115, 116]⟩ (by decide)
  have hsz : Dk.sizeV m (⟨#[109, 97, 110, 105, 102, 101, 115, 116]⟩ : ByteArray).data.toList = .tuple #[.int .i64 0, .int .i64 n] := by
    have hc' : Dk.code m (⟨#[109, 97, 110, 105, 102, 101, 115, 116]⟩ : ByteArray).data.toList = n := hc
    unfold Dk.sizeV
    rw [if_neg (by rw [hc']; exact bne_iff_ne.1 hn), hc']
  rw [hsz] at ks
  clear hsz hc S0
  go_enter Tryz.func12, Tryz.ntmps12
  go_upto_region 1 with fail
  rw [show (.cells #[.int .i64 0, .int .i64 0, .int .i64 0, .int .i64 0, .int .i64 0, .int .i64 0, .slice none 0 0] 31 : Obj) = .cells zeroMan 31 from rfl, hx]
  clear hx
  obtain ⟨x0, x1, x2, x3, x4, x5, x6⟩ := zero_seven hb0
  obtain ⟨f0, f1, f2, f3, f4, f5, f6⟩ := blk_free7 hb0
  go_wp2_with (go_at_call 32; refine ks.mono ?_; clear ks; rintro e w1 ⟨rfl, hw⟩; subst hw)
  refine bodyPost_ret (v := .tuple #[.agg #[.int .i64 0, .int .i64 0, .int .i64 0, .int .i64 0, .int .i64 0, .int .i64 0, .slice none 0 0], .int .i64 n]) (by simp [results, Tryz.results12, go_sem, x0, x1, x2, x3, x4, x5, x6]) rfl ⟨⟨none, 0, rfl, Runs.nil _ _⟩, hA.trans (man7_below (Nat.le_refl _) _ _ _ _ _ _ _)⟩
theorem Mt.load_any (S : Mt.Sit B W0 w d m K) :
    Calls Tryz.prog 12 #[.pointer (some ⟨d, 0, none⟩)] w fun e w' => (∃ A cap, e = .returned (.tuple #[manV (Ms.load m).2 A cap, .int .i64 (Ms.load m).1]) ∧ Runs w' w.heap.size A cap (Ms.load m).2.runs) ∧ Below w.heap.size w w' := by
  unfold Ms.load
  by_cases hc : Dk.code m Ms.nm = 0
  · obtain ⟨D, hD, hDs⟩ := Tx.of (Dk.data m Ms.nm)
    have hs : D.size ≤ 1099511627776 := by rw [hDs]; exact Mt.data_len S.good _
    rw [if_pos hc]
    obtain ⟨Z, hZ⟩ : ∃ Z, Mf.decode (Dk.data m Ms.nm) = Z := ⟨_, rfl⟩
    rw [hZ]
    obtain ⟨n, X⟩ := Z
    by_cases h0 : n = 0
    · subst h0
      rw [if_pos rfl]
      exact Mt.load_some S hc hD hs (by rw [hD]; exact hZ)
    · rw [if_neg h0]
      exact Mt.load_bad S hc hD hs (n := n) (X := X) (bne_iff_ne.2 fun e => h0 (Int.ofNat.inj e)) (by rw [hD]; exact hZ)
  · rw [if_neg hc]
    exact Mt.load_no S (bne_iff_ne.2 hc) rfl
end
end Go.Proofs.YtdhnkcfmjibibaaGreatDoor
