/- The law's helper begins, an Open. Conditions: each theorem's own hypotheses. -/
import Derived.Test.YtifkhjihgnnpfaaGreatDoorZJsL
namespace Go.Proofs.YtifkhjihgnnpfaaGreatDoor
open Go.RowKit
set_option linter.unusedVariables false

section
variable {d r bb : Nat} {W0 w w' : World} {m m' : Dk.M} {o : Option (Nat × Nat × Jl.Js × Int)} {N : Int}
set_option maxRecDepth 100000 in
set_option maxHeartbeats 16000000 in
theorem Js.begins2 (h : Js.Be W0 w d r bb m m' o N) (hl : Dp.Like m m') (t : Js.Op) (hf : Js.OpFit W0 t) (hkd : t.kind = 2) (hT : ∀ {w : World}, Below W0.heap.size W0 w → TabS w) (hP : ∀ {w : World}, Below W0.heap.size W0 w → PowT w) :
    Calls Tryz.prog 6 #[.pointer (some ⟨bb, 0, none⟩), .agg (Js.Op.arr t)] w fun e w' => e = .returned (.bool true) ∧ ∃ M1 M2 o', Hid (Dp.Like M1 M2) ∧ Js.Be W0 w' d r bb M1 M2 o' t.n := by
  obtain ⟨K, hK, T0, kx, hA⟩ := h.two.block_step (.cells (Js.Op.arr t) 36)
  obtain ⟨y0, hx⟩ : ∃ x, w.alloc (.cells (Js.Op.arr t) 36) = x := ⟨_, rfl⟩
  have PX0 : Blk y0 w.heap.size 36 (Js.Op.arr t) := by rw [← hx]; exact Blk.new _ _ _
  rw [hx] at T0 hA
  have PB0 : Blk y0 bb 31 #[.pointer (some ⟨d, 0, none⟩), .pointer (some ⟨r, 0, none⟩), Js.jp o, Js.rp o, .int .i64 N] := (hA.block _ h.blk.lt).trans h.blk
  have nx : w.heap.size ≠ bb := fun e => by have := h.blk.lt; omega
  have kb : K bb := hK _ (.inl rfl)
  obtain ⟨kd, on, om, ow, zq, zk, zi, c, b, dn, cv, cuts⟩ := t
  have hcf := hf.cuts.form
  simp only at hcf hkd ⊢
  obtain ⟨ca, cc, rfl⟩ := hcf
  subst hkd
  unfold Js.Op.arr at hx PX0 ⊢
  simp only at hx PX0 ⊢
  generalize cuts.length = cl at hx PX0 ⊢
  have f2 := PB0.frozen 2
  have f3 := PB0.frozen 3
  have f4 := PB0.frozen 4
  have g2 : y0.cell? ⟨bb, 2, none⟩ = some (Js.jp o) := PB0.cell 2
  have g3 : y0.cell? ⟨bb, 3, none⟩ = some (Js.rp o) := PB0.cell 3
  have g4 : y0.cell? ⟨bb, 4, none⟩ = some (.int .i64 N) := PB0.cell 4
  have x1 : y0.cell? ⟨w.heap.size, 1, none⟩ = some (.int .i64 on) := PX0.cell 1
  obtain ⟨nb, hnb, _, _⟩ := str_of (Jn.name on)
  obtain ⟨⟨m1, us, c1⟩, e1⟩ : ∃ z, Js.openR m on om ow = z := ⟨_, rfl⟩
  obtain ⟨⟨m2, us2, c2⟩, e2⟩ : ∃ z, Js.openR m' on om ow = z := ⟨_, rfl⟩
  have hlk := Js.like_open hl on om ow
  rw [e1, e2] at hlk
  obtain ⟨hlk, hcc⟩ := hlk
  obtain ⟨rfl, rfl⟩ : us = us2 ∧ c1 = c2 := by simpa using hcc
  have HL : Hid (Dp.Like m1 m2) := Lib.hid hlk
  have ucc : (c1 == c1) = true := by simp
  have hage : m2.age = m1.age := hlk.age.symm
  have HE := Lib.hid e1
  obtain ⟨T1a, z1⟩ := Js.Be.two_only (p := ⟨bb, 2, none⟩) T0 kb (.pointer none)
  obtain ⟨T1b, z2⟩ := Js.Be.two_only (p := ⟨bb, 3, none⟩) T1a kb (.pointer none)
  obtain ⟨T1, z3⟩ := Js.Be.two_only (p := ⟨bb, 4, none⟩) T1b kb (.int .i64 on)
  have PB1 : Blk (((y0.setCell ⟨bb, 2, none⟩ (.pointer none)).setCell ⟨bb, 3, none⟩ (.pointer none)).setCell ⟨bb, 4, none⟩ (.int .i64 on)) bb 31 #[.pointer (some ⟨d, 0, none⟩), .pointer (some ⟨r, 0, none⟩), .pointer none, .pointer none, .int .i64 on] := ((PB0.set_ 2 (.pointer none)).set_ 3 (.pointer none)).set_ 4 (.int .i64 on)
  have PX1 : Blk (((y0.setCell ⟨bb, 2, none⟩ (.pointer none)).setCell ⟨bb, 3, none⟩ (.pointer none)).setCell ⟨bb, 4, none⟩ (.int .i64 on)) w.heap.size 36 #[.int .i64 2, .int .i64 on, .int .i64 om, .int .i64 ow, .int .i64 zq, .int .i64 zk, .int .i64 zi, .string c, .string b, .bool dn, .slice ca cl cc] := ((PX0.far (p := ⟨bb, 2, none⟩) nx _).far (p := ⟨bb, 3, none⟩) nx _).far (p := ⟨bb, 4, none⟩) nx _
  have T0g := T0.good1
  clear hf h hA hK hl hlk T1a T1b PB0 T0 z1 z2 z3
  go_enter Tryz.func6, Tryz.ntmps6
  go_upto_region 4 with fail
  generalize ((y0.setCell ⟨bb, 2, none⟩ (.pointer none)).setCell ⟨bb, 3, none⟩ (.pointer none)).setCell ⟨bb, 4, none⟩ (.int .i64 on) = y1 at T1 PB1 PX1 ⊢
  clear f2 f3 f4 g2 g3 g4 x1 PX0 hx y0
  have x0 : y1.cell? ⟨w.heap.size, 0, none⟩ = some (.int .i64 2) := PX1.cell 0
  go_upto_region 10 with fail
  have TD := T1.later (below_dn (Below.refl _ _) 1)
  rw [show y1.drewN 1 = y1.drew from rfl] at TD
  have PBD : Blk y1.drew bb 31 _ := PB1
  have PXD : Blk y1.drew w.heap.size 36 _ := PX1
  have SD : y1.drew.cell? ⟨bb, 0, none⟩ = some (.pointer (some ⟨d, 0, none⟩)) ∧ y1.drew.cell? ⟨w.heap.size, 1, none⟩ = some (.int .i64 on) ∧ y1.drew.cell? ⟨w.heap.size, 2, none⟩ = some (.int .i64 om) ∧ y1.drew.cell? ⟨w.heap.size, 3, none⟩ = some (.int .i64 ow) := ⟨PBD.cell 0, PXD.cell 1, PXD.cell 2, PXD.cell 3⟩
  have hW0 : W0.heap.size ≤ y1.heap.size := TD.size
  clear T1 PB1 PX1 x0
  have k1 := Js.open1 TD hT hP on om ow nb hnb e1
  have k2 := fun {y : World} {K : Nat → Prop} (T : Mt.Two W0.heap.size W0 y d m1 r m' K) => Js.open2 T hP on om ow nb hnb e2
  rw [hage] at k2
  have HB := Lib.hid hnb
  clear e1 e2 hage hnb
  go_region_held3 (fun W' => W'.cell? ⟨bb, 0, none⟩ = some (.pointer (some ⟨d, 0, none⟩)) ∧ W'.cell? ⟨w.heap.size, 1, none⟩ = some (.int .i64 on) ∧ W'.cell? ⟨w.heap.size, 2, none⟩ = some (.int .i64 om) ∧ W'.cell? ⟨w.heap.size, 3, none⟩ = some (.int .i64 ow))
    (first
      | with_reducible assumption)
    (first
      | (go_at_call 24; refine k1.mono ?_; clear k1; rintro e y2 ⟨N1, po, A1, cp1, rfl, ol, nl, hN1, T2, q2, hpo⟩; have PB2 : Blk y2 bb 31 _ := (q2.2 _ kb).trans PBD; have PX2 : Blk y2 w.heap.size 36 _ := (q2.2 _ kx).trans PXD; have S2 : y2.cell? ⟨bb, 0, none⟩ = some (.pointer (some ⟨d, 0, none⟩)) ∧ y2.cell? ⟨w.heap.size, 1, none⟩ = some (.int .i64 on) ∧ y2.cell? ⟨w.heap.size, 2, none⟩ = some (.int .i64 om) ∧ y2.cell? ⟨w.heap.size, 3, none⟩ = some (.int .i64 ow) := ⟨PB2.cell 0, PX2.cell 1, PX2.cell 2, PX2.cell 3⟩))
  all_goals
    have hsz1 := PBD.lt
    have hsz2 := PXD.lt
    clear SD S2 TD PBD PXD
    go_upto_region 11 with fail
    have TE := T2.later (below_dn (Below.refl _ _) 1)
    rw [show y2.drewN 1 = y2.drew from rfl] at TE
    have PBE : Blk y2.drew bb 31 _ := PB2
    have PXE : Blk y2.drew w.heap.size 36 _ := PX2
    have SE : y2.drew.cell? ⟨bb, 1, none⟩ = some (.pointer (some ⟨r, 0, none⟩)) ∧ y2.drew.cell? ⟨w.heap.size, 1, none⟩ = some (.int .i64 on) ∧ y2.drew.cell? ⟨w.heap.size, 2, none⟩ = some (.int .i64 om) ∧ y2.drew.cell? ⟨w.heap.size, 3, none⟩ = some (.int .i64 ow) := ⟨PBE.cell 1, PXE.cell 1, PXE.cell 2, PXE.cell 3⟩
    have k3 := k2 TE
    clear T2 PB2 PX2 k2
    go_region_held3 (fun W' => W'.cell? ⟨bb, 1, none⟩ = some (.pointer (some ⟨r, 0, none⟩)) ∧ W'.cell? ⟨w.heap.size, 1, none⟩ = some (.int .i64 on) ∧ W'.cell? ⟨w.heap.size, 2, none⟩ = some (.int .i64 om) ∧ W'.cell? ⟨w.heap.size, 3, none⟩ = some (.int .i64 ow))
      (first
        | with_reducible assumption)
      (first
        | (go_at_call 25; refine k3.mono ?_; clear k3; rintro e y3 ⟨N2, pr, A2, cp2, rfl, om3, nm, hN2, T3, q3, hpr⟩; have PB3 : Blk y3 bb 31 _ := (q3.2 _ (.inl kb)).trans PBE; have PX3 : Blk y3 w.heap.size 36 _ := (q3.2 _ (.inl kx)).trans PXE; have S3 : y3.cell? ⟨bb, 1, none⟩ = some (.pointer (some ⟨r, 0, none⟩)) ∧ y3.cell? ⟨w.heap.size, 1, none⟩ = some (.int .i64 on) ∧ y3.cell? ⟨w.heap.size, 2, none⟩ = some (.int .i64 om) ∧ y3.cell? ⟨w.heap.size, 3, none⟩ = some (.int .i64 ow) := ⟨PB3.cell 1, PX3.cell 1, PX3.cell 2, PX3.cell 3⟩))
    all_goals
      clear SE S3 TE PBE PXE
      have hz12 : y1.heap.size ≤ y2.heap.size := q2.1
      have hz23 : y2.heap.size ≤ y3.heap.size := q3.1
      have hsz1' : bb < y1.heap.size := hsz1
      have hsz2' : w.heap.size < y1.heap.size := hsz2
      have hl : ∀ k, (Value.slice A1 us.length cp1).ownBlock = some k → y1.heap.size ≤ k ∧ k < y2.heap.size := fun k e => ol.lt e
      have hm : ∀ k, (Value.slice A2 us.length cp2).ownBlock = some k → y2.heap.size ≤ k ∧ k < y3.heap.size := fun k e => om3.lt e
      have ol3 : Jl.Own y3 y1.drew.heap.size (.slice A1 us.length cp1) us := ol.kept q3 fun k e => .inr (nl k e)
      have hJ3 : c1 ≠ 0 ∧ po = none ∧ pr = none ∨ c1 = 0 ∧ ∃ j rj, po = some ⟨j, 0, none⟩ ∧ pr = some ⟨rj, 0, none⟩ ∧ N1 j ∧ N2 rj ∧ Blk y3 j 79 (Jl.jc d m1.age false nb ow (om + us.length) om) ∧ Blk y3 rj 81 (Js.rc r ⟨m1.age, false, nb, ow, om + us.length, om⟩ on) ∧ bb ≠ j ∧ bb ≠ rj ∧ j ≠ rj ∧ ∀ k, (Value.slice A1 us.length cp1).ownBlock = some k → k ≠ j ∧ k ≠ rj := by
        rcases hpo with ⟨hc, rfl⟩ | ⟨hc, j, rfl, nj, bj⟩
        · rcases hpr with ⟨_, rfl⟩ | ⟨hc2, _⟩
          · exact .inl ⟨hc, rfl, rfl⟩
          · exact absurd hc2 hc
        · rcases hpr with ⟨hc2, _⟩ | ⟨_, rj, rfl, nrj, brj⟩
          · exact absurd hc hc2
          · have g1 : y1.heap.size ≤ j := hN1 j nj
            have g2 : y2.heap.size ≤ rj := hN2 rj nrj
            have g3 := bj.lt
            exact .inr ⟨hc, j, rj, rfl, rfl, nj, nrj, (q3.2 j (.inr nj)).trans bj, brj, by omega, by omega, by omega, fun k e => ⟨Js.ne_row bj (by decide) ol e, by have := hl k e; omega⟩⟩
      obtain ⟨KK, hKK⟩ : ∃ KK : Nat → Prop, (fun k => (K k ∨ N1 k) ∨ N2 k) = KK := ⟨_, rfl⟩
      have i1 : ∀ k, K k → KK k := fun k hk => by rw [← hKK]; exact .inl (.inl hk)
      have i2 : ∀ k, N1 k → KK k := fun k hk => by rw [← hKK]; exact .inl (.inr hk)
      have i3 : ∀ k, N2 k → KK k := fun k hk => by rw [← hKK]; exact .inr hk
      rw [hKK] at T3
      have f2 := PB3.frozen 2
      have f3 := PB3.frozen 3
      have g2 : y3.cell? ⟨bb, 2, none⟩ = some (.pointer none) := PB3.cell 2
      have g3 : y3.cell? ⟨bb, 3, none⟩ = some (.pointer none) := PB3.cell 3
      obtain ⟨T4a, z4a⟩ := Js.Be.two_only (p := ⟨bb, 2, none⟩) T3 (i1 _ kb) (.pointer po)
      obtain ⟨T4, z4b⟩ := Js.Be.two_only (p := ⟨bb, 3, none⟩) T4a (i1 _ kb) (.pointer pr)
      have z4 : Jl.KeptB KK bb y3 ((y3.setCell ⟨bb, 2, none⟩ (.pointer po)).setCell ⟨bb, 3, none⟩ (.pointer pr)) := z4a.trans z4b
      have hzs : ((y3.setCell ⟨bb, 2, none⟩ (.pointer po)).setCell ⟨bb, 3, none⟩ (.pointer pr)).heap.size = y3.heap.size := by simp [World.setCell]
      have PB4 : Blk ((y3.setCell ⟨bb, 2, none⟩ (.pointer po)).setCell ⟨bb, 3, none⟩ (.pointer pr)) bb 31 #[.pointer (some ⟨d, 0, none⟩), .pointer (some ⟨r, 0, none⟩), .pointer po, .pointer pr, .int .i64 on] := (PB3.set_ 2 (.pointer po)).set_ 3 (.pointer pr)
      have PX4 : Blk ((y3.setCell ⟨bb, 2, none⟩ (.pointer po)).setCell ⟨bb, 3, none⟩ (.pointer pr)) w.heap.size 36 _ := (PX3.far (p := ⟨bb, 2, none⟩) nx _).far (p := ⟨bb, 3, none⟩) nx _
      have kl : ∀ k, (Value.slice A1 us.length cp1).ownBlock = some k → KK k := fun k e => i2 k (nl k e)
      have km : ∀ k, (Value.slice A2 us.length cp2).ownBlock = some k → KK k := fun k e => i3 k (nm k e)
      have OL4 : Jl.Own ((y3.setCell ⟨bb, 2, none⟩ (.pointer po)).setCell ⟨bb, 3, none⟩ (.pointer pr)) y1.drew.heap.size (.slice A1 us.length cp1) us := ol3.keep fun k e => z4.2 k (kl k e) (by have := hl k e; omega)
      have OM4 : Jl.Own ((y3.setCell ⟨bb, 2, none⟩ (.pointer po)).setCell ⟨bb, 3, none⟩ (.pointer pr)) y2.drew.heap.size (.slice A2 us.length cp2) us := om3.keep fun k e => z4.2 k (km k e) (by have := hm k e; omega)
      have hJ4 : Js.JJ d r bb c1 po pr (.slice A1 us.length cp1) KK (Jl.jc d m1.age false nb ow (om + us.length) om) (Js.rc r ⟨m1.age, false, nb, ow, om + us.length, om⟩ on) ((y3.setCell ⟨bb, 2, none⟩ (.pointer po)).setCell ⟨bb, 3, none⟩ (.pointer pr)) := by
        rcases hJ3 with h | ⟨h1, j, rj, h2, h3, h4, h5, h6, h7, h8, h9, h10, h11⟩
        · exact .inl h
        · exact .inr ⟨h1, j, rj, h2, h3, i2 _ h4, i3 _ h5, (z4.2 j (i2 _ h4) h8.symm).trans h6, (z4.2 rj (i3 _ h5) h9.symm).trans h7, h8, h9, h10, h11⟩
      have kb4 := i1 _ kb
      have kx4 := i1 _ kx
      have hJ := Lib.hid hJ4
      clear hJ3 hJ4 hpo hpr ol ol3 om3 nl nm hN1 hN2 q2 q3 z4 z4a z4b T4a T3 i1 i2 i3 hKK kb kx hsz1 hsz2
      go_upto_region 14 with fail
      generalize ((y3.setCell ⟨bb, 2, none⟩ (.pointer po)).setCell ⟨bb, 3, none⟩ (.pointer pr)) = y4 at T4 PB4 PX4 OL4 OM4 hJ hzs ⊢
      clear PB3 PX3 f2 f3 g2 g3
      have hus : us.length ≤ 268435456 := Js.open_len T0g HE.out
      have hW1 := T4.size
      obtain ⟨r0, hr0, hr1, hr2, hr3⟩ := info_parts infoUpd
      have k14 := Js.aside_any y4
      go_upto_region 18 with (first
        | (go_at_call 26; refine k14.mono ?_; clear k14; rintro e y5 ⟨⟨dx, A3, c3, rfl, Sx, ow⟩, b5⟩; have k15 := Js.aside_any y5)
        | (go_at_call 26; refine k15.mono ?_; clear k15; rintro e y6 ⟨⟨dy, A4, c4, rfl, Sy, ow4⟩, b6⟩; have T6 := (T4.later b5).later b6; have k16 := Js.open_aside (Sx.later b6) (hT T6.below) (hP T6.below))
        | (go_at_call 24; refine k16.mono ?_; clear k16; rintro e y7 ⟨⟨jx, A5, c5, rfl, oc⟩, b7⟩; have T7 := T6.later b7; have k17 := Js.open_aside (Sy.later b7) (hT T7.below) (hP T7.below))
        | (go_at_call 24; refine k17.mono ?_; clear k17; rintro e y8 ⟨⟨jy, A6, c6, rfl, ok⟩, b8⟩))
      have hz45 := b5.size
      have hz56 := b6.size
      have hz67 := b7.size
      have hz78 := b8.size
      have b68 := b7.trans (b8.mono b7.size)
      have b58 := b6.trans (b68.mono b6.size)
      have b48 := b5.trans (b58.mono b5.size)
      have T8 := T4.grow b48
      have OL8 := OL4.later_ b48
      have OM8 := OM4.later_ b48
      have OW8 := ow.later_ b58
      have OC8 := oc.later_ b8
      have hw : ∀ k, (Value.slice A3 2 c3).ownBlock = some k → y4.heap.size ≤ k ∧ k < y5.heap.size := fun k e => ow.lt e
      have hc : ∀ k, (Value.slice A5 2 c5).ownBlock = some k → y6.heap.size ≤ k ∧ k < y7.heap.size := fun k e => oc.lt e
      have hk : ∀ k, (Value.slice A6 2 c6).ownBlock = some k → y7.heap.size ≤ k ∧ k < y8.heap.size := fun k e => ok.lt e
      have PB8 : Blk y8 bb 31 _ := (b48.block _ PB4.lt).trans PB4
      have PX8 : Blk y8 w.heap.size 36 _ := (b48.block _ PX4.lt).trans PX4
      have hJ8 := Lib.hid (Js.JJ.to (K' := fun k => KK k ∧ k < y4.heap.size) (Js.keepJ (K := KK) (T4.kept b48) hJ.out) fun k hk _ => ⟨hk, (T4.lt hk).2⟩)
      obtain ⟨K8, hK8⟩ : ∃ K8 : Nat → Prop, (fun k => KK k ∨ (y4.heap.size ≤ k ∧ k < y8.heap.size)) = K8 := ⟨_, rfl⟩
      have i1 : ∀ k, KK k → K8 k := fun k hk => by rw [← hK8]; exact .inl hk
      have i2 : ∀ k, y4.heap.size ≤ k ∧ k < y8.heap.size → K8 k := fun k hk => by rw [← hK8]; exact .inr hk
      rw [hK8] at T8
      clear Sx Sy T6 T7 b5 b6 b7 b58 b68 T4 OL4 OM4 ow ow4 oc PB4 PX4 hJ b48 b8
      have hs1 := Jl.same_true A1 A2 cp1 cp2 us y8 OL8.lie OM8.lie (by omega)
      have hs2 := fun {X : World} (b : Below y8.heap.size y8 X) => Js.same2 (c := c5) (c' := c3) (OC8.later_ b).lie (OW8.later_ b).lie
      have hs3 := fun {X : World} (b : Below y8.heap.size y8 X) => Js.same2 (c := c6) (c' := c3) (ok.later_ b).lie (OW8.later_ b).lie
      go_upto_region 19 with (first
        | (go_at_call 27; refine hs1.mono ?_; clear hs1; rintro e x1 ⟨rfl, d1⟩; have hs4 := hs2 d1; clear hs2)
        | (go_at_call 27; refine hs4.mono ?_; clear hs4; rintro e x2 ⟨rfl, d2⟩; have d12 := d1.trans (d2.mono d1.size); have hs5 := hs3 d12; clear hs3)
        | (go_at_call 27; refine hs5.mono ?_; clear hs5; rintro e y9 ⟨rfl, d3⟩; have b9 := d12.trans (d3.mono d12.size)))
      have T9 := T8.later b9
      have PB9 : Blk y9 bb 31 _ := (b9.block _ PB8.lt).trans PB8
      have PX9 : Blk y9 w.heap.size 36 _ := (b9.block _ PX8.lt).trans PX8
      have J9 := Js.keepJ (K := fun k => K8 k ∧ k < y4.heap.size) ⟨(T8.kept b9).1, fun k hk => (T8.kept b9).2 k hk.1⟩ (hJ8.out.to fun k hk _ => ⟨i1 k hk.1, hk.2⟩)
      have al : Jl.Any y9 W0.heap.size (.slice A1 us.length cp1) us.length := ⟨_, (OL8.later_ b9).more hW0⟩
      have ac : Jl.Any y9 W0.heap.size (.slice A5 2 c5) 2 := ⟨_, (OC8.later_ b9).more (show W0.heap.size ≤ y6.heap.size by omega)⟩
      have RL : Js.Rw y9 K8 (.slice A1 us.length cp1) us := ⟨⟨_, OL8.later_ b9⟩, fun k e => i1 k (kl k e)⟩
      have RM : Js.Rw y9 K8 (.slice A2 us.length cp2) us := ⟨⟨_, OM8.later_ b9⟩, fun k e => i1 k (km k e)⟩
      have RW : Js.Rw y9 K8 (.slice A3 2 c3) [Js.u1, Js.u2] := ⟨⟨_, OW8.later_ b9⟩, fun k e => i2 k (by have := hw k e; omega)⟩
      have RK : Js.Rw y9 K8 (.slice A6 2 c6) [Js.u1, Js.u2] := ⟨⟨_, ok.later_ b9⟩, fun k e => i2 k (by have := hk k e; omega)⟩
      have kc8 : ∀ k, (Value.slice A5 2 c5).ownBlock = some k → K8 k := fun k e => i2 k (by have := hc k e; omega)
      have kb8 := i1 _ kb4
      have kx8 := i1 _ kx4
      have R0 := Js.Ro.start T9 ac kc8
      obtain ⟨KA, hKA⟩ : ∃ KA : Nat → Prop, (fun k => K8 k ∧ (Value.slice A5 2 c5).ownBlock ≠ some k) = KA := ⟨_, rfl⟩
      rw [hKA] at R0
      have j1 : ∀ k, K8 k → (Value.slice A5 2 c5).ownBlock ≠ some k → KA k := fun k h1 h2 => by rw [← hKA]; exact ⟨h1, h2⟩
      have RL1 := RL.to (K' := KA) fun k e => j1 k (RL.mem k e) fun e' => by have := hc k e'; have := hl k e; omega
      have RM1 := RM.to (K' := KA) fun k e => j1 k (RM.mem k e) fun e' => by have := hc k e'; have := hm k e; omega
      have RW1 := RW.to (K' := KA) fun k e => j1 k (RW.mem k e) fun e' => by have := hc k e'; have := hw k e; omega
      have RK1 := RK.to (K' := KA) fun k e => j1 k (RK.mem k e) fun e' => by have := hc k e'; have := hk k e; omega
      have kb9 := j1 _ kb8 fun e' => by have := hc _ e'; omega
      have kx9 := j1 _ kx8 fun e' => by have := hc _ e'; omega
      have HJ := Lib.hid (Js.JJ.to (K' := KA) J9 fun k hk _ => j1 k hk.1 fun e' => by have := hc k e'; omega)
      have HO := Lib.hid (And.intro hl (And.intro hm (And.intro hw (And.intro hk hc))))
      clear RL RM RW RK T9 PB8 PX8 OL8 OM8 OW8 OC8 ok hJ8 J9 T8 b9 d1 d12 d2 d3 ac i1 i2 kl km kb4 kx4 kb8 kx8 hKA hK8 hl hm hw hk hc
      go_wp2_with fail
      go_loopw [26] (fun vi wr => ∃ k : Nat, k ≤ 2 ∧ vi = .int .i64 (k : Nat) ∧ Js.Ro W0.heap.size W0 d m1 r m2 KA y9 2 (.slice A5 2 c5) wr) (fun vi _ => 2 - (intOf vi).toNat)
      case atStart => exact ⟨0, by decide, rfl, R0⟩
      case round =>
        clear R0
        obtain ⟨k, hk, rfl, R⟩ := hrel
        by_cases hlt : k < 2
        · obtain ⟨g, cur', rfl, _, hgb, _, hq1, hq2, hq3⟩ := R.open_ (by decide)
          have cell : ∀ i, i < c5 * 4 → ∃ u, wr.cell? ⟨g, i, none⟩ = some u := fun i hi => ⟨cur'[i]'(by omega), (hgb.cell i).trans (Array.getElem?_eq_getElem (by omega))⟩
          obtain ⟨u0, e0⟩ := cell (k * 4) (by omega)
          obtain ⟨u1, e1⟩ := cell (k * 4 + 1) (by omega)
          obtain ⟨u2, e2⟩ := cell (k * 4 + 2) (by omega)
          obtain ⟨u3, e3⟩ := cell (k * 4 + 3) (by omega)
          have f0 := hgb.frozen (k * 4)
          have f1 := hgb.frozen (k * 4 + 1)
          have f2 := hgb.frozen (k * 4 + 2)
          have f3 := hgb.frozen (k * 4 + 3)
          clear cell hq1 hq2 hq3 hgb
          go_wp2_with fail
          go_roundw
          case rel => exact ⟨k + 1, by omega, by go_num, R.put4 (by decide)⟩
          case measure => simp [intOf]; omega
        · obtain rfl : k = 2 := by omega
          obtain ⟨hl, hm, hw, hk', hc⟩ := HO.out
          have RL2 := RL1.kept R.kept
          have RM2 := RM1.kept R.kept
          have RW2 := RW1.kept R.kept
          have RK2 := RK1.kept R.kept
          have al2 : Jl.Any wr W0.heap.size (.slice A1 us.length cp1) us.length := al.keep fun k e => R.kept.2 k (RL1.mem k e)
          have PB10 : Blk wr bb 31 _ := (R.kept.2 _ kb9).trans PB9
          have PX10 : Blk wr w.heap.size 36 _ := (R.kept.2 _ kx9).trans PX9
          have hs1 := Jl.same_true A1 A2 cp1 cp2 us wr RL2.lie RM2.lie (by omega)
          have hs2 := fun {X : World} (b : Below wr.heap.size wr X) => Js.same2 (c := c6) (c' := c3) (RK2.later b).lie (RW2.later b).lie
          have J10 := Js.keepJ R.kept HJ.out
          go_upto_region 24 with (first
            | (go_at_call 27; refine hs1.mono ?_; clear hs1; rintro e x1 ⟨rfl, d1⟩; have hs4 := hs2 d1; clear hs2)
            | (go_at_call 27; refine hs4.mono ?_; clear hs4; rintro e z ⟨rfl, d2⟩; have dz := d1.trans (d2.mono d1.size)))
          have Tz := R.two.later dz
          have alz : Jl.Any z W0.heap.size (.slice A1 us.length cp1) us.length := al2.keep fun k e => dz.block k (R.two.lt (.inl (RL1.mem k e))).2
          have RMz := RM2.later dz
          have RWz := RW2.later dz
          have RKz := RK2.later dz
          have PBz : Blk z bb 31 _ := (dz.block _ PB10.lt).trans PB10
          have PXz : Blk z w.heap.size 36 _ := (dz.block _ PX10.lt).trans PX10
          have Jz := Js.keepJ (K := KA) ⟨dz.size, fun k hk => dz.block k (R.two.lt (.inl hk)).2⟩ J10
          have S0 := Js.Ro.start Tz alz fun k e => .inl (RL1.mem k e)
          obtain ⟨KB, hKB⟩ : ∃ KB : Nat → Prop, (fun k => (KA k ∨ (Value.slice A5 2 c5).ownBlock = some k) ∧ (Value.slice A1 us.length cp1).ownBlock ≠ some k) = KB := ⟨_, rfl⟩
          rw [hKB] at S0
          have j2 : ∀ k, KA k → (Value.slice A1 us.length cp1).ownBlock ≠ some k → KB k := fun k h1 h2 => by rw [← hKB]; exact ⟨.inl h1, h2⟩
          have RM3 := RMz.to (K' := KB) fun k e => j2 k (RM1.mem k e) fun e' => by have := hl k e'; have := hm k e; omega
          have RW3 := RWz.to (K' := KB) fun k e => j2 k (RW1.mem k e) fun e' => by have := hl k e'; have := hw k e; omega
          have RK3 := RKz.to (K' := KB) fun k e => j2 k (RK1.mem k e) fun e' => by have := hl k e'; have := hk' k e; omega
          have kb3 := j2 _ kb9 fun e' => by have := hl _ e'; omega
          have kx3 := j2 _ kx9 fun e' => by have := hl _ e'; omega
          have HJ3 := Lib.hid (Js.JJ.to (K' := KB) Jz j2)
          have HI := Lib.hid (And.intro hr0 (And.intro hr1 (And.intro hr2 hr3)))
          have HU := Lib.hid hus
          clear RL1 RM1 RW1 RK1 RL2 RM2 RW2 RK2 al al2 PB9 PX9 PB10 PX10 HJ J10 Jz R Tz alz RMz RWz RKz dz d1 d2 hKB j1 j2 kb9 kx9 kc8 hl hm hw hk' hc HO hk hlt hr0 hr1 hr2 hr3
          go_wp2_with fail
          go_loopw [27] (fun vi wr => ∃ k : Nat, k ≤ us.length ∧ vi = .int .i64 (k : Nat) ∧ Js.Ro W0.heap.size W0 d m1 r m2 KB z us.length (.slice A1 us.length cp1) wr) (fun vi _ => us.length - (intOf vi).toNat)
          case atStart => exact ⟨0, Nat.zero_le _, rfl, S0⟩
          case round =>
            clear S0
            obtain ⟨k, hk, rfl, R⟩ := hrel
            by_cases hlt : k < us.length
            · obtain ⟨g, cur', rfl, _, hgb, _, hq1, hq2, hq3⟩ := R.open_ (by omega)
              have cell : ∀ i, i < cp1 * 4 → ∃ u, wr.cell? ⟨g, i, none⟩ = some u := fun i hi => ⟨cur'[i]'(by omega), (hgb.cell i).trans (Array.getElem?_eq_getElem (by omega))⟩
              obtain ⟨u0, e0⟩ := cell (k * 4) (by omega)
              obtain ⟨u1, e1⟩ := cell (k * 4 + 1) (by omega)
              obtain ⟨u2, e2⟩ := cell (k * 4 + 2) (by omega)
              obtain ⟨u3, e3⟩ := cell (k * 4 + 3) (by omega)
              have f0 := hgb.frozen (k * 4)
              have f1 := hgb.frozen (k * 4 + 1)
              have f2 := hgb.frozen (k * 4 + 2)
              have f3 := hgb.frozen (k * 4 + 3)
              clear cell hq1 hq2 hq3 hgb
              go_wp2_with fail
              go_roundw
              case rel => exact ⟨k + 1, by omega, by go_num, R.put4 (by omega)⟩
              case measure => simp [intOf]; omega
            · obtain rfl : k = us.length := by omega
              obtain ⟨xs, hown⟩ := R.own
              obtain ⟨hr0, hr1, hr2, hr3⟩ := HI.out
              have hap1 : us.length + 1 ≤ maxLen := by unfold maxLen; omega
              have hap2 : (us.length + 1) * 40 ≤ 140737488355328 := by omega
              have hap3 : W0.heap.size ≤ (wr.alloc (.cells #[.int .i64 (-2), .int .i64 0, .int .i64 0, .string ⟨#[]⟩] 33)).heap.size := by have := R.two.size; rw [World.size_alloc]; omega
              go_wp2_with (at_builtin; refine wpList_append_lies (hs := ?e1) (hx := ?e2) (hown := World.ownsRow.alloc hown _) (hnews := Jl.news (Blk.new wr 33 #[.int .i64 (-2), .int .i64 0, .int .i64 0, .string ⟨#[]⟩])) _ rfl (.tmp 196) (.tmp 198) 54 ?e0 W0.heap.size 33 r0 (.agg #[.int .i64 0, .int .i64 0, .int .i64 0, .string ⟨#[]⟩]) 4 40 Tryz.underlying54 hr0 hr1 hr2 hr3 ?e3 (by decide) (.slice A1 us.length cp1) us.length xs ⟨wr.heap.size, 0, none⟩ 1 1 [.int .i64 (-2), .int .i64 0, .int .i64 0, .string ⟨#[]⟩] ?e4 (by simp [Value.oneCell']) (by decide) hap1 hap2 hap3 _ rfl ?_)
              case e0 => rfl
              (try (case e3 => rfl))
              (try (case e4 => rfl))
              (try (case e1 => simp [Act.eval]))
              (try (case e2 => simp [Act.eval]))
              intro g2 cap2 w13 hown3 hgr3 hat3 _
              have R1 := R.grown hown3 hgr3 hat3
              clear hown hown3 hgr3 hat3 R hap1 hap2 hap3 hlt hk
              go_wp2_with fail
              go_loopw [28, 29] (fun v i wr => ∃ (j g cap nl : Nat), i = .int .i64 j ∧ j ≤ 64 ∧ nl = us.length + 1 + j ∧ v = .slice (some ⟨g, 0, none⟩) nl cap ∧ Js.Ro W0.heap.size W0 d m1 r m2 KB z nl (.slice (some ⟨g, 0, none⟩) nl cap) wr) (fun _ i _ => 64 - (intOf i).toNat)
              case atStart => exact ⟨0, g2, cap2, us.length + 1, rfl, Nat.zero_le _, rfl, rfl, R1⟩
              case round =>
                clear R1
                obtain ⟨j, g, cap, nl, rfl, hj, hnl, rfl, R⟩ := hrel
                by_cases hjl : j < 64
                · obtain ⟨xs, hown⟩ := R.own
                  have hap1 : nl + 1 ≤ maxLen := by unfold maxLen; omega
                  have hap2 : (nl + 1) * 40 ≤ 140737488355328 := by omega
                  have hap3 : W0.heap.size ≤ (wr.alloc (.cells #[.int .i64 (-2), .int .i64 0, .int .i64 0, .string ⟨#[]⟩] 33)).heap.size := by have := R.two.size; rw [World.size_alloc]; omega
                  have HNL := Lib.hid hnl
                  clear hnl
                  go_wp2_with (at_builtin; refine wpList_append_lies (hs := ?e1) (hx := ?e2) (hown := World.ownsRow.alloc hown _) (hnews := Jl.news (Blk.new wr 33 #[.int .i64 (-2), .int .i64 0, .int .i64 0, .string ⟨#[]⟩])) _ rfl (.tmp 204) (.tmp 206) 54 ?e0 W0.heap.size 33 r0 (.agg #[.int .i64 0, .int .i64 0, .int .i64 0, .string ⟨#[]⟩]) 4 40 Tryz.underlying54 hr0 hr1 hr2 hr3 ?e3 (by decide) (.slice (some ⟨g, 0, none⟩) nl cap) nl xs ⟨wr.heap.size, 0, none⟩ 1 1 [.int .i64 (-2), .int .i64 0, .int .i64 0, .string ⟨#[]⟩] ?e4 (by simp [Value.oneCell']) (by decide) hap1 hap2 hap3 _ rfl ?_)
                  case e0 => rfl
                  (try (case e3 => rfl))
                  (try (case e4 => rfl))
                  (try (case e1 => simp [Act.eval]))
                  (try (case e2 => simp [Act.eval]))
                  intro g3 cap3 w14 hown4 hgr4 hat4 _
                  have R2 := R.grown hown4 hgr4 hat4
                  clear hown hown4 hgr4 hat4 R hap1 hap2 hap3
                  go_wp2_with fail
                  go_roundw
                  case rel => exact ⟨j + 1, g3, cap3, nl + 1, by go_num, by omega, by have := HNL.out; omega, rfl, R2⟩
                  case measure => simp only [intOf]; omega
                · obtain rfl : j = 64 := by omega
                  have hnlb : (((nl : Nat) : Int) == ((us.length : Nat) : Int) + 65) = true := by rw [beq_iff_eq]; omega
                  have RM4 := RM3.kept R.kept
                  have RW4 := RW3.kept R.kept
                  have RK4 := RK3.kept R.kept
                  have PB4 : Blk wr bb 31 _ := (R.kept.2 _ kb3).trans PBz
                  have PX4 : Blk wr w.heap.size 36 _ := (R.kept.2 _ kx3).trans PXz
                  have J4 := Js.keepJ R.kept HJ3.out
                  have T4 := R.two.sub (K' := KB) fun k hk => .inl hk
                  have hs1 := Js.same2 (c := c6) (c' := c3) RK4.lie RW4.lie
                  clear hnl R RM3 RW3 RK3 PBz PXz HJ3 hjl hj
                  rcases J4 with ⟨hc0, rfl, rfl⟩ | ⟨hc0, j, rj, rfl, rfl, kj, kr, PJ, PR, n1, n2, n3, _⟩
                  · have uc : (c1 == 0) = false := beq_eq_false_iff_ne.2 hc0
                    go_wp2_with (first
                      | (go_at_call 27; refine hs1.mono ?_; clear hs1; rintro e x1 ⟨rfl, d1⟩)
                      | (go_at_call 23; refine (Js.num_r _ _).mono ?_; rintro e w ⟨rfl, rfl⟩))
                    go_ret
                    exact ⟨rfl, _, _, none, HL, Js.Be.none_ (T4.later d1) kb3 ((d1.block _ PB4.lt).trans PB4)⟩
                  · subst hc0
                    obtain ⟨g5, hL⟩ := Js.look_open HE.out
                    have hFi := Js.Fine.new (Js.open_zero HE.out) HB.out m1.age false us.length (by omega)
                    go_upto_region 35 with (go_at_call 27; refine hs1.mono ?_; clear hs1; rintro e x1 ⟨rfl, d1⟩)
                    have dd := d1.drew
                    have T5 := T4.later dd
                    have PB5 : Blk x1.drew bb 31 _ := (dd.block _ PB4.lt).trans PB4
                    have PX5 : Blk x1.drew w.heap.size 36 _ := (dd.block _ PX4.lt).trans PX4
                    have PJ5 : Blk x1.drew j 79 _ := (dd.block _ PJ.lt).trans PJ
                    have PR5 : Blk x1.drew rj 81 _ := (dd.block _ PR.lt).trans PR
                    have RM5 := RM4.later dd
                    have S5 : x1.drew.cell? ⟨bb, 0, none⟩ = some (.pointer (some ⟨d, 0, none⟩)) ∧ x1.drew.cell? ⟨w.heap.size, 1, none⟩ = some (.int .i64 on) ∧ x1.drew.cell? ⟨w.heap.size, 2, none⟩ = some (.int .i64 om) ∧ x1.drew.cell? ⟨w.heap.size, 3, none⟩ = some (.int .i64 ow) := ⟨PB5.cell 0, PX5.cell 1, PX5.cell 2, PX5.cell 3⟩
                    have kl := T5.sit1.ask fun F hA hG => Jl.look_any hA hG on om ow (hT T5.below) (hP T5.below) hL
                    clear d1 dd T4 PB4 PX4 PJ PR RM4 RW4 RK4 hL
                    go_region_held3 (fun W' => W'.cell? ⟨bb, 0, none⟩ = some (.pointer (some ⟨d, 0, none⟩)) ∧ W'.cell? ⟨w.heap.size, 1, none⟩ = some (.int .i64 on) ∧ W'.cell? ⟨w.heap.size, 2, none⟩ = some (.int .i64 om) ∧ W'.cell? ⟨w.heap.size, 3, none⟩ = some (.int .i64 ow))
                      (first
                        | with_reducible assumption)
                      (first
                        | (go_at_call 28; refine kl.mono ?_; clear kl; rintro e x2 ⟨⟨v, rfl, r2⟩, b2⟩; have PB6 : Blk x2 bb 31 _ := (b2.block _ PB5.lt).trans PB5; have PX6 : Blk x2 w.heap.size 36 _ := (b2.block _ PX5.lt).trans PX5; have S6 : x2.cell? ⟨bb, 0, none⟩ = some (.pointer (some ⟨d, 0, none⟩)) ∧ x2.cell? ⟨w.heap.size, 1, none⟩ = some (.int .i64 on) ∧ x2.cell? ⟨w.heap.size, 2, none⟩ = some (.int .i64 om) ∧ x2.cell? ⟨w.heap.size, 3, none⟩ = some (.int .i64 ow) := ⟨PB6.cell 0, PX6.cell 1, PX6.cell 2, PX6.cell 3⟩))
                    all_goals
                      obtain ⟨A7, c7, rfl⟩ := Jl.slice_form r2
                      have r2' : Jl.Own x2 x1.drew.heap.size (.slice A7 us.length c7) us := r2
                      have hs2 := Jl.same_true A7 A2 c7 cp2 us x2 r2'.lie (RM5.later b2).lie (by omega)
                      go_wp2_with (first
                        | (go_at_call 27; refine hs2.mono ?_; clear hs2; rintro e x3 ⟨rfl, d3⟩; have b3 := b2.trans (d3.mono b2.size))
                        | (go_at_call 23; refine (Js.num_r _ _).mono ?_; rintro e w ⟨rfl, rfl⟩))
                      go_ret
                      exact ⟨rfl, _, _, _, HL, Js.Be.anew (J := ⟨m1.age, false, nb, ow, om + us.length, om⟩) (T5.later b3) kb3 kj kr ((b3.block _ PB5.lt).trans PB5) ((b3.block _ PJ5.lt).trans PJ5) ((b3.block _ PR5.lt).trans PR5) n1 n2 n3 hFi⟩
end
end Go.Proofs.YtifkhjihgnnpfaaGreatDoor
/- The law JournalScript: its walk. Conditions: each theorem's own hypotheses. -/
namespace Go.Proofs.YtifkhjihgnnpfaaGreatDoor
open Go.RowKit
set_option linter.unusedVariables false

theorem Js.make {B d r : Nat} {W0 w3 w4 : World} {m : Dk.M} {F G : Nat → Prop} (A1 : Dk.At w3 d m F) (f1 : ∀ k, F k → B ≤ k) (hz : B ≤ w3.heap.size) (hB : Below w3.heap.size w3 w4) (A2 : Dr.At w4 r m G) (g2 : ∀ k, G k → w3.heap.size ≤ k) (hb : Below B W0 w4) (hG : Dk.Good m) : Mt.Two B W0 w4 d m r m (fun _ => False) :=
  ⟨F, G, A1.later hB (Nat.le_refl _), A2, fun k hk => ⟨f1 k hk, fun h => by have := A1.lt hk; have := g2 k h; omega⟩, fun k hk => Nat.le_trans hz (g2 k hk), fun k hk => hk.elim, hG, hG, hb⟩
section
variable {d r bb : Nat} {W0 w w' : World} {m m' : Dk.M} {o : Option (Nat × Nat × Jl.Js × Int)} {N : Int}
theorem Js.Be.later (h : Js.Be W0 w d r bb m m' o N) (hB : Below w.heap.size w w') : Js.Be W0 w' d r bb m m' o N := by
  refine ⟨h.two.later hB, (hB.block _ h.blk.lt).trans h.blk, fun j rj J n e => ?_⟩
  obtain ⟨h1, h2, h3⟩ := h.js j rj J n e
  exact ⟨(hB.block _ h1.lt).trans h1, (hB.block _ h2.lt).trans h2, h3⟩
theorem Js.tells {B : Nat} {K : Nat → Prop} (T : Mt.Two B W0 w d m r m' K) (hl : Dp.Like m m') {z u : Int} {o : Bool} (h1 : m.writes = z) (h2 : (Dk.used m.files : Int) = u) (h3 : m.off = o) (i : Nat) :
    (Calls Tryz.prog 15 #[.pointer (some ⟨d, 0, none⟩)] (w.drewN i) fun e W' => e = .returned (.int .i64 z) ∧ W' = w.drewN i) ∧ (Calls Tryz.prog 16 #[.pointer (some ⟨r, 0, none⟩)] (w.drewN i) fun e W' => e = .returned (.int .i64 z) ∧ W' = w.drewN i) ∧
    (Calls Tryz.prog 13 #[.pointer (some ⟨d, 0, none⟩)] (w.drewN i) fun e W' => e = .returned (.int .i64 u) ∧ W' = w.drewN i) ∧ (Calls Tryz.prog 14 #[.pointer (some ⟨r, 0, none⟩)] (w.drewN i) fun e W' => e = .returned (.int .i64 u) ∧ W' = w.drewN i) ∧
    (Calls Tryz.prog 17 #[.pointer (some ⟨d, 0, none⟩)] (w.drewN i) fun e W' => e = .returned (.bool o) ∧ W' = w.drewN i) ∧ (Calls Tryz.prog 18 #[.pointer (some ⟨r, 0, none⟩)] (w.drewN i) fun e W' => e = .returned (.bool o) ∧ W' = w.drewN i) := by
  subst h1 h2 h3
  obtain ⟨F, G, h1, h2, h3, h4, h5, h6, h7, h8⟩ := T.later (below_dn (Below.refl _ _) i)
  have q1 := Dr.writes_any h2
  have q2 := Dr.used_any h2 (by have := h7.used; have := h7.cap; omega) h7.many
  have q3 := Dr.down_any h2
  rw [← hl.writes] at q1
  rw [← hl.files] at q2
  rw [← hl.off] at q3
  exact ⟨(Dk.writes_any h1).mono fun e w' ⟨a, b⟩ => ⟨a, b.symm⟩, q1.mono fun e w' ⟨a, b⟩ => ⟨a, b.symm⟩, (Dk.used_any h1).mono fun e w' ⟨a, b⟩ => ⟨a, b.symm⟩, q2.mono fun e w' ⟨a, b⟩ => ⟨a, b.symm⟩, (Dk.down_any h1).mono fun e w' ⟨a, b⟩ => ⟨a, b.symm⟩, q3.mono fun e w' ⟨a, b⟩ => ⟨a, b.symm⟩⟩
theorem Js.image1 {B : Nat} {K : Nat → Prop} (T : Mt.Two B W0 w d m r m' K) {ib : ByteArray} (h : ib.data.toList = Dk.image m) : Calls Tryz.prog 19 #[.pointer (some ⟨d, 0, none⟩)] w fun e W' => e = .returned (.string ib) ∧ Below w.heap.size w W' := by
  obtain ⟨F, G, h1, h2, h3, h4, h5, h6, h7, h8⟩ := T
  have := Dk.image_any h1 h6
  rwa [Tx.v_eq h] at this
theorem Js.image2 {B : Nat} {K : Nat → Prop} (T : Mt.Two B W0 w d m r m' K) {ib : ByteArray} (h : ib.data.toList = Dk.image m') : Calls Tryz.prog 20 #[.pointer (some ⟨r, 0, none⟩)] w fun e W' => e = .returned (.string ib) ∧ Below w.heap.size w W' := by
  obtain ⟨F, G, h1, h2, h3, h4, h5, h6, h7, h8⟩ := T
  have := Dr.image_any h2 h7
  rwa [Tx.v_eq h] at this
end
theorem Js.two_cells {d r bb : Nat} {x : World} {v1 v2 v3 : Value} (p : Blk x bb 31 #[.pointer (some ⟨d, 0, none⟩), .pointer (some ⟨r, 0, none⟩), v1, v2, v3]) : x.cell? ⟨bb, 0, none⟩ = some (.pointer (some ⟨d, 0, none⟩)) ∧ x.cell? ⟨bb, 1, none⟩ = some (.pointer (some ⟨r, 0, none⟩)) := ⟨p.cell 0, p.cell 1⟩
set_option maxRecDepth 100000 in
set_option maxHeartbeats 16000000 in
theorem Js.script_law (cap : Int) (L : List Js.Op) (A : Option Addr) (cp : Nat) (W : World) (HO : Js.Ops W W.heap.size A L) (HF : ∀ t ∈ L, Js.OpFit W t) (hlen : L.length ≤ 1172812402944) (hTS : TabS W) (hPT : PowT W) :
    Calls Tryz.prog 3 #[.int .i64 cap, .slice A L.length cp] W fun e W' => e = .returned (.bool true) ∧ Below W.heap.size W W' := by
  have hT : ∀ {w : World}, Below W.heap.size W w → TabS w := fun h => hTS.below h
  have hP : ∀ {w : World}, Below W.heap.size W w → PowT w := fun h => hPT.below h
  clear hTS hPT
  by_cases hcap : cap < 0 ∨ 1073741824 < cap
  · have k1 : ∀ w, _ := fun w => Dk.new_none cap hcap w
    have k2 : ∀ w, _ := fun w => Dr.new_none cap hcap w
    go_enter Tryz.func3, Tryz.ntmps3
    go_upto_region 2 with (first
      | (go_at_call 4; refine (k1 _).mono ?_; clear k1; rintro e w3 ⟨rfl, h3⟩)
      | (go_at_call 5; refine (k2 _).mono ?_; clear k2; rintro e w4 ⟨rfl, h4⟩))
    subst h3 h4
    have hA : Below W.heap.size W (W.alloc (.cells #[.pointer none, .pointer none, .pointer none, .pointer none, .int .i64 0] 31)) := (Below.refl _ _).alloc (Nat.le_refl _) _
    have PB : Blk (W.alloc (.cells #[.pointer none, .pointer none, .pointer none, .pointer none, .int .i64 0] 31)) W.heap.size 31 #[.pointer none, .pointer none, .pointer none, .pointer none, .int .i64 0] := Blk.new _ _ _
    generalize W.alloc (.cells #[.pointer none, .pointer none, .pointer none, .pointer none, .int .i64 0] 31) = x at hA PB ⊢
    obtain ⟨p0, p1⟩ : x.cell? ⟨W.heap.size, 0, none⟩ = some (.pointer none) ∧ x.cell? ⟨W.heap.size, 1, none⟩ = some (.pointer none) := ⟨PB.cell 0, PB.cell 1⟩
    go_quiet (fail)
    go_wp2_with fail
    go_ret
    exact ⟨rfl, below_dn hA _⟩
  obtain ⟨n, rfl⟩ : ∃ n : Nat, cap = (n : Int) := ⟨cap.toNat, by omega⟩
  have hn : n ≤ 1073741824 := by omega
  have hfg : Dk.Good (Dk.fresh n) := Dk.fresh_good n hn
  have k1 : ∀ w, _ := fun w => Dk.new_any n hn w
  have k2 : ∀ w, _ := fun w => Dr.new_any n hn w
  clear hcap
  go_enter Tryz.func3, Tryz.ntmps3
  go_upto_region 2 with (first
    | (go_at_call 4; refine (k1 _).mono ?_; clear k1; rintro e w3 ⟨d, F3, rfl, A3, b3, f3⟩)
    | (go_at_call 5; refine (k2 _).mono ?_; clear k2; rintro e w4 ⟨r, F4, rfl, A4, b4, f4⟩))
  have T0 : Mt.Two W.heap.size W w4 d (Dk.fresh n) r (Dk.fresh n) (fun _ => False) := Js.make A3 f3 b3.size b4 A4 f4 (b3.trans (b4.mono b3.size)) hfg
  obtain ⟨K, hK, T1, kb, hA⟩ := T0.block_step (.cells #[.pointer (some ⟨d, 0, none⟩), .pointer (some ⟨r, 0, none⟩), .pointer none, .pointer none, .int .i64 0] 31)
  have PB : Blk (w4.alloc (.cells #[.pointer (some ⟨d, 0, none⟩), .pointer (some ⟨r, 0, none⟩), .pointer none, .pointer none, .int .i64 0] 31)) w4.heap.size 31 #[.pointer (some ⟨d, 0, none⟩), .pointer (some ⟨r, 0, none⟩), .pointer none, .pointer none, .int .i64 0] := Blk.new _ _ _
  have B0 := Js.Be.none_ (N := 0) T1 kb PB
  generalize w4.alloc (.cells #[.pointer (some ⟨d, 0, none⟩), .pointer (some ⟨r, 0, none⟩), .pointer none, .pointer none, .int .i64 0] 31) = w5 at B0 PB ⊢
  generalize w4.heap.size = bb at B0 PB ⊢
  obtain ⟨p0, p1⟩ : w5.cell? ⟨bb, 0, none⟩ = some (.pointer (some ⟨d, 0, none⟩)) ∧ w5.cell? ⟨bb, 1, none⟩ = some (.pointer (some ⟨r, 0, none⟩)) := ⟨PB.cell 0, PB.cell 1⟩
  clear A3 A4 b3 b4 f3 f4 hfg w3 T0 T1 kb hA hK K PB w4
  have HL0 := Lib.hid (Dp.Like.refl (Dk.fresh n))
  have HFH := Lib.hid HF
  have HOH := Lib.hid HO
  clear HF HO
  go_quiet (fail)
  replace B0 := B0.later (below_dn (Below.refl _ _) nq)
  generalize w5.drewN nq = w6 at B0 ⊢
  clear p0 p1
  have p1 : w6.cell? ⟨bb, 1, none⟩ = some (.pointer (some ⟨r, 0, none⟩)) := B0.blk.cell 1
  go_wp2_with fail
  go_loopw [6] (fun vi wr => ∃ (k : Nat) (M1 M2 : Dk.M) (o : Option (Nat × Nat × Jl.Js × Int)) (N : Int), k ≤ L.length ∧ vi = .int .i64 (k : Nat) ∧ Hid (Dp.Like M1 M2) ∧ Js.Be W wr d r bb M1 M2 o N) (fun vi _ => L.length - (intOf vi).toNat)
  case atStart => exact ⟨0, _, _, none, 0, Nat.zero_le _, rfl, HL0, B0⟩
  case round =>
    clear B0 HL0 p1
    obtain ⟨k, M1, M2, o, N, hk, rfl, HL, Bh⟩ := hrel
    by_cases hlt : k < L.length
    · obtain ⟨t, ht⟩ : ∃ t, L[k]? = some t := ⟨_, List.getElem?_eq_getElem hlt⟩
      have hf := HFH.out t (List.mem_of_getElem? ht)
      obtain ⟨lb, lo, rfl, hlb, hcl⟩ := HOH.out (by omega)
      have hcl := hcl k t ht
      have hcl2 := fun i v (h : t.cells[i]? = some v) => (Bh.two.below.cell (p := ⟨lb, lo + (k * 11 + i), none⟩) hlb).trans (hcl i v h)
      clear hcl
      obtain ⟨kd, on, om, ow, zq, zk, zi, c, b, dn, cv, cuts⟩ := t
      have hcf := hf.cuts.form
      simp only at hcf
      obtain ⟨ca, cc, rfl⟩ := hcf
      have kas := fun {x : World} {j rj : Nat} {J : Jl.Js} {n : Int} (B : Js.Be W x d r bb M1 M2 (some (j, rj, J, n)) N) => Js.asks_any B HL.out _ hf hT hP
      have kds := fun {x : World} (B : Js.Be W x d r bb M1 M2 o N) => Js.disks_any B HL.out _ hf hT hP
      have kb1 := fun {x : World} (B : Js.Be W x d r bb M1 M2 o N) (h : kd = 1) => Js.begins1 B HL.out _ hf h hP
      have kb2 := fun {x : World} (B : Js.Be W x d r bb M1 M2 o N) (h : kd = 2) => Js.begins2 B HL.out _ hf h hT hP
      unfold Js.Op.arr at kas kds kb1 kb2
      unfold Js.Op.cells at hcl2
      simp only at kas kds kb1 kb2 hcl2
      generalize cuts.length = cn at kas kds kb1 kb2 hcl2
      have x0 := hcl2 0 _ rfl
      have x1 := hcl2 1 _ rfl
      have x2 := hcl2 2 _ rfl
      have x3 := hcl2 3 _ rfl
      have x4 := hcl2 4 _ rfl
      have x5 := hcl2 5 _ rfl
      have x6 := hcl2 6 _ rfl
      have x7 := hcl2 7 _ rfl
      have x8 := hcl2 8 _ rfl
      have x9 := hcl2 9 _ rfl
      have x10 := hcl2 10 _ rfl
      simp only [Nat.add_zero, ← Nat.add_assoc] at x0 x1 x2 x3 x4 x5 x6 x7 x8 x9 x10
      clear hcl2 hf ht
      go_upto_region 10 with fail
      have hA : Below wr.heap.size wr (wr.alloc (.cells #[.int .i64 kd, .int .i64 on, .int .i64 om, .int .i64 ow, .int .i64 zq, .int .i64 zk, .int .i64 zi, .string c, .string b, .bool dn, .slice ca cn cc] 36)) := (Below.refl _ _).alloc (Nat.le_refl _) _
      have PX : Blk (wr.alloc (.cells #[.int .i64 kd, .int .i64 on, .int .i64 om, .int .i64 ow, .int .i64 zq, .int .i64 zk, .int .i64 zi, .string c, .string b, .bool dn, .slice ca cn cc] 36)) wr.heap.size 36 #[.int .i64 kd, .int .i64 on, .int .i64 om, .int .i64 ow, .int .i64 zq, .int .i64 zk, .int .i64 zi, .string c, .string b, .bool dn, .slice ca cn cc] := Blk.new _ _ _
      have B7 := Bh.later hA
      generalize wr.alloc (.cells #[.int .i64 kd, .int .i64 on, .int .i64 om, .int .i64 ow, .int .i64 zq, .int .i64 zk, .int .i64 zi, .string c, .string b, .bool dn, .slice ca cn cc] 36) = y at PX B7 ⊢
      generalize wr.heap.size = b7 at PX ⊢
      clear x0 x1 x2 x3 x4 x5 x6 x7 x8 x9 x10 hA Bh
      obtain ⟨x0, x1, x2, x3, x4, x5, x6, x7, x8, x9, x10⟩ : y.cell? ⟨b7, 0, none⟩ = some (.int .i64 kd) ∧ y.cell? ⟨b7, 1, none⟩ = some (.int .i64 on) ∧ y.cell? ⟨b7, 2, none⟩ = some (.int .i64 om) ∧ y.cell? ⟨b7, 3, none⟩ = some (.int .i64 ow) ∧ y.cell? ⟨b7, 4, none⟩ = some (.int .i64 zq) ∧ y.cell? ⟨b7, 5, none⟩ = some (.int .i64 zk) ∧ y.cell? ⟨b7, 6, none⟩ = some (.int .i64 zi) ∧ y.cell? ⟨b7, 7, none⟩ = some (.string c) ∧ y.cell? ⟨b7, 8, none⟩ = some (.string b) ∧ y.cell? ⟨b7, 9, none⟩ = some (.bool dn) ∧ y.cell? ⟨b7, 10, none⟩ = some (.slice ca cn cc) := ⟨PX.cell 0, PX.cell 1, PX.cell 2, PX.cell 3, PX.cell 4, PX.cell 5, PX.cell 6, PX.cell 7, PX.cell 8, PX.cell 9, PX.cell 10⟩
      go_upto_region 11 with fail
      obtain ⟨q12, hq12⟩ : ∃ q : Bool, decide (kd = 1 ∨ kd = 2) = q := ⟨_, rfl⟩
      go_cut [48] (fun v X => v = .bool q12 ∧ y = X)
      case first =>
        by_cases k1 : kd = 1
        · have u1 : (kd == 1) = true := by rw [k1]; rfl
          obtain rfl : true = q12 := by rw [← hq12]; exact (decide_eq_true (.inl k1)).symm
          clear k1 hq12
          go_wp2_with fail
          go_meet
          exact ⟨rfl, rfl⟩
        · have u1 : (kd == 1) = false := beq_eq_false_iff_ne.2 k1
          by_cases k2 : kd = 2
          · have u2 : (kd == 2) = true := by rw [k2]; rfl
            obtain rfl : true = q12 := by rw [← hq12]; exact (decide_eq_true (.inr k2)).symm
            clear k1 k2 hq12
            go_wp2_with fail
            go_meet
            exact ⟨rfl, rfl⟩
          · have u2 : (kd == 2) = false := beq_eq_false_iff_ne.2 k2
            obtain rfl : false = q12 := by rw [← hq12]; exact (decide_eq_false (by rintro (h | h); exact k1 h; exact k2 h)).symm
            clear k1 k2 hq12
            go_wp2_with fail
            go_meet
            exact ⟨rfl, rfl⟩
      case rest =>
      obtain ⟨rfl, hX⟩ := hcut
      subst hX
      go_upto_if 48 with fail
      go_cut [8] (fun v X => v = .bool true ∧ ∃ (x : World) (N1 N2 : Dk.M) (o' : Option (Nat × Nat × Jl.Js × Int)) (N' : Int), x = X ∧ Hid (Dp.Like N1 N2) ∧ Js.Be W x d r bb N1 N2 o' N')
      case first =>
        by_cases k12 : kd = 1 ∨ kd = 2
        · obtain rfl : true = q12 := by rw [← hq12]; exact (decide_eq_true k12).symm
          have kbb : Calls Tryz.prog 6 #[.pointer (some ⟨bb, 0, none⟩), .agg #[.int .i64 kd, .int .i64 on, .int .i64 om, .int .i64 ow, .int .i64 zq, .int .i64 zk, .int .i64 zi, .string c, .string b, .bool dn, .slice ca cn cc]] y fun e w' => e = .returned (.bool true) ∧ ∃ M1 M2 o', Hid (Dp.Like M1 M2) ∧ Js.Be W w' d r bb M1 M2 o' on := by
            rcases k12 with h | h
            · exact kb1 B7 h
            · exact kb2 B7 h
          clear kas kds kb1 kb2 k12 hq12
          go_wp2_with (go_at_call 6; refine kbb.mono ?_; clear kbb; rintro e z ⟨rfl, N1, N2, o', HL', B8⟩)
          go_meet
          exact ⟨rfl, _, _, _, _, _, rfl, HL', B8⟩
        obtain rfl : false = q12 := by rw [← hq12]; exact (decide_eq_false k12).symm
        clear kb1 kb2 k12 hq12
        by_cases k6 : 6 ≤ kd
        · have u6 : decide (6 ≤ kd) = true := decide_eq_true k6
          have kdd := kds B7
          clear kas kds k6
          go_wp2_with (go_at_call 7; refine kdd.mono ?_; clear kdd; rintro e z ⟨rfl, N1, N2, o', HL', B8⟩)
          go_meet
          exact ⟨rfl, _, _, _, _, _, rfl, HL', B8⟩
        have u6 : decide (6 ≤ kd) = false := decide_eq_false k6
        clear kds k6
        have pb := B7.blk
        rcases o with _ | ⟨j, rj, J, nn⟩
        · have p2 : y.cell? ⟨bb, 2, none⟩ = some (.pointer none) := pb.cell 2
          have p3 : y.cell? ⟨bb, 3, none⟩ = some (.pointer none) := pb.cell 3
          clear kas pb
          go_wp2_with fail
          go_meet
          exact ⟨rfl, _, _, _, _, _, rfl, HL, B7⟩
        · have p2 : y.cell? ⟨bb, 2, none⟩ = some (.pointer (some ⟨j, 0, none⟩)) := pb.cell 2
          have p3 : y.cell? ⟨bb, 3, none⟩ = some (.pointer (some ⟨rj, 0, none⟩)) := pb.cell 3
          have kaa := kas B7
          clear kas pb
          go_wp2_with (go_at_call 8; refine kaa.mono ?_; clear kaa; rintro e z ⟨rfl, N1, N2, J', HL', B8⟩)
          go_meet
          exact ⟨rfl, _, _, _, _, _, rfl, HL', B8⟩
      case rest =>
      obtain ⟨rfl, z, N1, N2, o', N', rfl, HL', B8⟩ := hcut
      clear kas kds kb1 kb2 B7 PX HL hq12 x0 x1 x2 x3 x4 x5 x6 x7 x8 x9 x10
      have pb := B8.blk
      have p0 : z.cell? ⟨bb, 0, none⟩ = some (.pointer (some ⟨d, 0, none⟩)) := pb.cell 0
      have p1 : z.cell? ⟨bb, 1, none⟩ = some (.pointer (some ⟨r, 0, none⟩)) := pb.cell 1
      go_upto_region 17 with fail
      go_cut [110] (fun v X => v = .bool false ∧ ∃ i, X = z.drewN i)
      case first =>
        rcases o' with _ | ⟨j, rj, J, nn⟩
        · have p2 : z.cell? ⟨bb, 2, none⟩ = some (.pointer none) := pb.cell 2
          have p3 : z.cell? ⟨bb, 3, none⟩ = some (.pointer none) := pb.cell 3
          go_quiet (fail)
          go_wp2_with fail
          go_meet
          exact ⟨rfl, _, rfl⟩
        · have p2 : z.cell? ⟨bb, 2, none⟩ = some (.pointer (some ⟨j, 0, none⟩)) := pb.cell 2
          have p3 : z.cell? ⟨bb, 3, none⟩ = some (.pointer (some ⟨rj, 0, none⟩)) := pb.cell 3
          obtain ⟨pj, pr, _⟩ := B8.js j rj J nn rfl
          have t1 := fun i => Js.tell1 B8.two pj (.inr ⟨_, _, _, _, rfl, .inl rfl⟩) i
          have t2 := fun i => Js.tell2 B8.two pr (.inr ⟨_, _, _, _, rfl, .inr rfl⟩) i
          have v1 : (J.last != J.last) = false := by simp
          have v2 : (J.synced != J.synced) = false := by simp
          go_quiet (first
            | (go_at_call 9; exact Calls.quiet_of_same (t1 _).1)
            | (go_at_call 10; exact Calls.quiet_of_same (t2 _).1)
            | (go_at_call 11; exact Calls.quiet_of_same (t1 _).2)
            | (go_at_call 12; exact Calls.quiet_of_same (t2 _).2))
          go_wp2_with fail
          go_meet
          exact ⟨rfl, _, rfl⟩
      case rest =>
      obtain ⟨rfl, i, rfl⟩ := hcut
      have B9 := B8.later (below_dn (Below.refl _ _) i)
      generalize z.drewN i = z1 at B9 ⊢
      clear B8 pb p0 p1 z
      have pb := B9.blk
      have p0 : z1.cell? ⟨bb, 0, none⟩ = some (.pointer (some ⟨d, 0, none⟩)) := pb.cell 0
      have p1 : z1.cell? ⟨bb, 1, none⟩ = some (.pointer (some ⟨r, 0, none⟩)) := pb.cell 1
      obtain ⟨wv, hwv⟩ : ∃ z, N1.writes = z := ⟨_, rfl⟩
      obtain ⟨uv, huv⟩ : ∃ z, (Dk.used N1.files : Int) = z := ⟨_, rfl⟩
      obtain ⟨ov, hov⟩ : ∃ z, N1.off = z := ⟨_, rfl⟩
      have tl := fun i => Js.tells B9.two HL'.out hwv huv hov i
      have v1 : (wv != wv) = false := by simp
      have v2 : (uv != uv) = false := by simp
      have v3 : (ov != ov) = false := by simp
      clear hwv huv hov
      go_upto_region 19 with fail
      go_quiet (first
        | (go_at_call 15; exact Calls.quiet_of_same (tl _).1)
        | (go_at_call 16; exact Calls.quiet_of_same (tl _).2.1)
        | (go_at_call 13; exact Calls.quiet_of_same (tl _).2.2.1)
        | (go_at_call 14; exact Calls.quiet_of_same (tl _).2.2.2.1)
        | (go_at_call 17; exact Calls.quiet_of_same (tl _).2.2.2.2.1)
        | (go_at_call 18; exact Calls.quiet_of_same (tl _).2.2.2.2.2))
      go_wp2_with fail
      go_roundw
      case rel => exact ⟨k + 1, _, _, _, _, hlt, by go_num, HL', B9.later (below_dn (Below.refl _ _) _)⟩
      case measure => simp [intOf]; omega
    · obtain rfl : k = L.length := by omega
      obtain ⟨ib, hib, _⟩ := Tx.of (Dk.image M1)
      have i1 := fun {X : World} (b : Below wr.heap.size wr X) => Js.image1 (Bh.two.later b) hib
      have i2 := fun {X : World} (b : Below wr.heap.size wr X) => Js.image2 (Bh.two.later b) (hib.trans HL.out.image)
      have hS := fun {X : World} (b : Below wr.heap.size wr X) => Js.two_cells ((Bh.later b).blk)
      have hend := fun {X : World} (b : Below wr.heap.size wr X) => (Bh.two.later b).below
      have bc : Below wr.heap.size wr wr.drew := (Below.refl _ _).drew
      have S0 := hS bc
      clear Bh hib HL
      go_upto_region 21 with fail
      go_region_held3 (fun W' => W'.cell? ⟨bb, 0, none⟩ = some (.pointer (some ⟨d, 0, none⟩)) ∧ W'.cell? ⟨bb, 1, none⟩ = some (.pointer (some ⟨r, 0, none⟩)))
        (first
          | with_reducible assumption)
        (first
          | (go_at_call 19; refine (i1 bc).mono ?_; clear i1; rintro e x1 ⟨rfl, b1⟩; replace bc := bc.trans (b1.mono bc.size); have S1 := hS bc)
          | (go_at_call 20; refine (i2 bc).mono ?_; clear i2; rintro e x2 ⟨rfl, b2⟩; replace bc := bc.trans (b2.mono bc.size); have S2 := hS bc))
      all_goals
        go_wp2_with fail
        go_ret
        exact ⟨rfl, hend bc⟩
end Go.Proofs.YtifkhjihgnnpfaaGreatDoor
