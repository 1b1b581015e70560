/- The law's helper disks: a step of the disk, on both. Conditions: each theorem's own hypotheses. (Printed by gen_jsg.py.) -/
import Derived.Test.YtifkhjihgnnpfaaGreatDoorJsF
namespace Go.Proofs.YtifkhjihgnnpfaaGreatDoor
open Go.RowKit
set_option linter.unusedVariables false

theorem Js.lookR_len {m : Dk.M} {n sq l : Int} {us : List Jn.Upd} {g : Nat} {c : Int} (hG : Dk.Good m) (h : Jl.lookR m n sq l = (us, g, c)) : us.length ≤ 268435456 := by
  by_cases hc : c = 0
  · subst hc
    have h3 := Jn.look_len (Jl.lookR_zero h).2.2
    have := Jl.data_len hG (Jn.name n)
    omega
  · unfold Jl.lookR at h
    split at h
    · split at h
      · split at h
        · simp only [Prod.mk.injEq] at h; exact absurd h.2.2.symm hc
        · simp only [Prod.mk.injEq] at h; rw [← h.1]; exact Nat.zero_le _
      · simp only [Prod.mk.injEq] at h; rw [← h.1]; exact Nat.zero_le _
    · simp only [Prod.mk.injEq] at h; rw [← h.1]; exact Nat.zero_le _
section
variable {d r bb : Nat} {W0 w w' : World} {m m' : Dk.M} {o : Option (Nat × Nat × Jl.Js × Int)} {N : Int}
/-- The bench behind calls that left the journals as they were. -/
theorem Js.Be.same {K : Nat → Prop} {y : World} {M1 M2 : Dk.M} (h : Js.Be W0 w d r bb m m' o N) (hK : ∀ k, Js.KO bb o k → K k) (T : Mt.Two W0.heap.size W0 y d M1 r M2 K) (hk : Jl.KeptB (Js.KO bb o) bb w y) (p : Blk y bb 31 #[.pointer (some ⟨d, 0, none⟩), .pointer (some ⟨r, 0, none⟩), Js.jp o, Js.rp o, .int .i64 N]) : Js.Be W0 y d r bb M1 M2 o N := by
  refine ⟨T.sub hK, p, fun j rj J n e => ?_⟩
  obtain ⟨h1, h2, h3, h4, h5, h6⟩ := h.js j rj J n e
  exact ⟨(hk.2 j (.inr ⟨_, _, _, _, e, .inl rfl⟩) h3.symm).trans h1, (hk.2 rj (.inr ⟨_, _, _, _, e, .inr rfl⟩) h4.symm).trans h2, h3, h4, h5, h6⟩
/-- .. and no journal is there any more. -/
theorem Js.Be.none_ {K : Nat → Prop} {y : World} {M1 M2 : Dk.M} (T : Mt.Two W0.heap.size W0 y d M1 r M2 K) (hb : K bb) (p : Blk y bb 31 #[.pointer (some ⟨d, 0, none⟩), .pointer (some ⟨r, 0, none⟩), .pointer none, .pointer none, .int .i64 N]) : Js.Be W0 y d r bb M1 M2 none N := by
  refine ⟨T.sub fun k hk => ?_, p, fun j rj J n e => by cases e⟩
  rcases hk with rfl | ⟨_, _, _, _, e, _⟩
  · exact hb
  · cases e
theorem Js.Be.two_only {K : Nat → Prop} {B : Nat} {x : World} {p : Addr} (T : Mt.Two B W0 x d m r m' K) (hk : K p.block) (v : Value) : Mt.Two B W0 (x.setCell p v) d m r m' K ∧ Jl.KeptB K p.block x (x.setCell p v) :=
  ⟨(T.only (G := fun k => k = p.block) (Dk.Only.setCell (F := fun k => k = p.block) (Dk.Only.refl _ x) (p := p) (.inl rfl) v) fun k e => e ▸ hk).sub fun k hk => .inl hk, by simp [World.setCell], fun k hk hn => Below.heap_setCell x p v k hn⟩
set_option maxRecDepth 100000 in
set_option maxHeartbeats 16000000 in
theorem Js.disks_any (h : Js.Be W0 w d r bb m m' o N) (hl : Dp.Like m m') (t : Js.Op) (hf : Js.OpFit W0 t) (hT : ∀ {w : World}, Below W0.heap.size W0 w → TabS w) (hP : ∀ {w : World}, Below W0.heap.size W0 w → PowT w) :
    Calls Tryz.prog 7 #[.pointer (some ⟨bb, 0, none⟩), .agg (Js.Op.arr t)] w fun e w' => e = .returned (.bool true) ∧ ∃ M1 M2 o', Hid (Dp.Like M1 M2) ∧ Js.Be W0 w' d r bb M1 M2 o' N := by
  obtain ⟨K, hK, T0, kx, hA⟩ := h.two.block_step (.cells (Js.Op.arr t) 36)
  obtain ⟨y0, hx⟩ : ∃ x, w.alloc (.cells (Js.Op.arr t) 36) = x := ⟨_, rfl⟩
  have PX0 : Blk y0 w.heap.size 36 (Js.Op.arr t) := by rw [← hx]; exact Blk.new _ _ _
  rw [hx] at T0 hA
  have PB0 : Blk y0 bb 31 #[.pointer (some ⟨d, 0, none⟩), .pointer (some ⟨r, 0, none⟩), Js.jp o, Js.rp o, .int .i64 N] := (hA.block _ h.blk.lt).trans h.blk
  have nx : w.heap.size ≠ bb := fun e => by have := h.blk.lt; omega
  have kb : K bb := hK _ (.inl rfl)
  have hkw : Jl.KeptB (Js.KO bb o) bb w y0 := (h.two.kept hA).b bb
  have Q0 := Jl.KeptB.refl K bb y0
  have fin := fun {y : World} {M1 M2 : Dk.M} (T : Mt.Two W0.heap.size W0 y d M1 r M2 K) (q : Jl.KeptB K bb y0 y) (p : Blk y bb 31 #[.pointer (some ⟨d, 0, none⟩), .pointer (some ⟨r, 0, none⟩), Js.jp o, Js.rp o, .int .i64 N]) => h.same hK T (hkw.trans ⟨q.1, fun k hk hn => q.2 k (hK k hk) hn⟩) p
  have finN := fun {y : World} {M1 M2 : Dk.M} {N : Int} (T : Mt.Two W0.heap.size W0 y d M1 r M2 K) (p : Blk y bb 31 #[.pointer (some ⟨d, 0, none⟩), .pointer (some ⟨r, 0, none⟩), .pointer none, .pointer none, .int .i64 N]) => Js.Be.none_ T kb p
  obtain ⟨kd, on, om, ow, zq, zk, zi, c, b, dn, cv, cuts⟩ := t
  have hb1 : b.size ≤ 140737488355328 := hf.b
  have hon : -9223372036854775808 ≤ on ∧ on < 9223372036854775808 := hf.n
  have hom : -9223372036854775808 ≤ om ∧ om < 9223372036854775808 := hf.m
  have hcts := fun {w1 : World} (hB : Below W0.heap.size W0 w1) => hf.cuts.keep hB.size hB.block
  have hcm : cuts.length ≤ 4398046511104 := hf.many
  have hcn : ∀ c ∈ cuts, c.name.length ≤ 140737488355328 := hf.names
  have hcf := hf.cuts.form
  simp only at hcf hcts
  obtain ⟨ca, cc, rfl⟩ := hcf
  unfold Js.Op.arr at hx PX0 ⊢
  simp only at hx PX0 ⊢
  obtain ⟨cl, hcl⟩ : ∃ cl, cuts.length = cl := ⟨_, rfl⟩
  rw [hcl] at hcts hx PX0 ⊢
  obtain ⟨nb, hnb, _, _⟩ := str_of (Jn.name on)
  obtain ⟨hns, hname⟩ := Jl.name_is on nb hnb
  have kn := refName_any on y0 (hP T0.below) nb hnb
  have c0 : y0.cell? ⟨w.heap.size, 0, none⟩ = some (.int .i64 kd) := PX0.cell 0
  have c1 : y0.cell? ⟨w.heap.size, 1, none⟩ = some (.int .i64 on) := PX0.cell 1
  clear h hf hA hkw hnb
  by_cases k6 : kd = 6
  · subst k6
    obtain ⟨⟨us, g, x⟩, hL⟩ : ∃ z, Jl.lookR m on om ow = z := ⟨_, rfl⟩
    have hL2 : Jl.lookR m' on om ow = (us, g, x) := by rw [← Js.like_look hl]; exact hL
    have hus : us.length ≤ 4398046511104 := by
      have := Js.lookR_len T0.good1 hL
      omega
    have k1 := fun {y : World} (T : Mt.Two W0.heap.size W0 y d m r m' K) => T.sit1.ask fun F hA hG => Jl.look_any hA hG on om ow (hT T.below) (hP T.below) hL
    have k2 := fun {y : World} (T : Mt.Two W0.heap.size W0 y d m r m' K) => T.sit2.ask fun F hA hG => Jl.refLook_any hA hG on om ow (hP T.below) hL2
    have HL := Lib.hid hl
    have ug : ((g : Int) == (g : Int)) = true := by simp
    have ux : (x == x) = true := by simp
    clear hl hL hL2 hcts hb1 hom hcm hcn hns hname hcl finN hT hP
    go_enter Tryz.func7, Tryz.ntmps7
    go_upto_region 4 with (first
      | (go_at_call 29; refine kn.mono ?_; clear kn; rintro e y1 ⟨rfl, b1⟩; have T1 := T0.later b1; have Q1 : Jl.KeptB K bb y0 y1 := (T0.kept b1).b bb; have PB1 : Blk y1 bb 31 #[.pointer (some ⟨d, 0, none⟩), .pointer (some ⟨r, 0, none⟩), Js.jp o, Js.rp o, .int .i64 N] := (b1.block _ PB0.lt).trans PB0; have PX1 : Blk y1 w.heap.size 36 #[.int .i64 6, .int .i64 on, .int .i64 om, .int .i64 ow, .int .i64 zq, .int .i64 zk, .int .i64 zi, .string c, .string b, .bool dn, .slice ca cl cc] := (b1.block _ PX0.lt).trans PX0; have d0 : y1.cell? ⟨w.heap.size, 0, none⟩ = some (.int .i64 6) := PX1.cell 0))
    have TD1 := T1.later (below_dn (Below.refl _ _) 1)
    rw [show y1.drewN 1 = y1.drew from rfl] at TD1
    have PBD1 : Blk y1.drew bb 31 #[.pointer (some ⟨d, 0, none⟩), .pointer (some ⟨r, 0, none⟩), Js.jp o, Js.rp o, .int .i64 N] := PB1
    have PXD1 : Blk y1.drew w.heap.size 36 #[.int .i64 6, .int .i64 on, .int .i64 om, .int .i64 ow, .int .i64 zq, .int .i64 zk, .int .i64 zi, .string c, .string b, .bool dn, .slice ca cl cc] := PX1
    have QD1 : Jl.KeptB K bb y0 y1.drew := Q1
    have SD1 : y1.drew.cell? ⟨bb, 0, none⟩ = some (.pointer (some ⟨d, 0, none⟩)) ∧ y1.drew.cell? ⟨w.heap.size, 1, none⟩ = some (.int .i64 on) ∧ y1.drew.cell? ⟨w.heap.size, 2, none⟩ = some (.int .i64 om) ∧ y1.drew.cell? ⟨w.heap.size, 3, none⟩ = some (.int .i64 ow) := ⟨PBD1.cell 0, PXD1.cell 1, PXD1.cell 2, PXD1.cell 3⟩
    have kc1 := k1 TD1
    clear T1 PB1 PX1 Q1
    go_region_held3 (fun W' => W'.cell? ⟨bb, 0, none⟩ = some (.pointer (some ⟨d, 0, none⟩)) ∧ W'.cell? ⟨w.heap.size, 1, none⟩ = some (.int .i64 on) ∧ W'.cell? ⟨w.heap.size, 2, none⟩ = some (.int .i64 om) ∧ W'.cell? ⟨w.heap.size, 3, none⟩ = some (.int .i64 ow))
      (first
        | with_reducible assumption)
      (first
        | (go_at_call 28; refine kc1.mono ?_; clear kc1; rintro e y2 ⟨⟨v1, rfl, r1⟩, bq⟩; have T2 := TD1.later bq; have Q2 := QD1.trans ((TD1.kept bq).b bb); have PB2 : Blk y2 bb 31 #[.pointer (some ⟨d, 0, none⟩), .pointer (some ⟨r, 0, none⟩), Js.jp o, Js.rp o, .int .i64 N] := (bq.block _ PBD1.lt).trans PBD1; have PX2 : Blk y2 w.heap.size 36 #[.int .i64 6, .int .i64 on, .int .i64 om, .int .i64 ow, .int .i64 zq, .int .i64 zk, .int .i64 zi, .string c, .string b, .bool dn, .slice ca cl cc] := (bq.block _ PXD1.lt).trans PXD1; have SE2 : y2.cell? ⟨bb, 0, none⟩ = some (.pointer (some ⟨d, 0, none⟩)) ∧ y2.cell? ⟨w.heap.size, 1, none⟩ = some (.int .i64 on) ∧ y2.cell? ⟨w.heap.size, 2, none⟩ = some (.int .i64 om) ∧ y2.cell? ⟨w.heap.size, 3, none⟩ = some (.int .i64 ow) := ⟨PB2.cell 0, PX2.cell 1, PX2.cell 2, PX2.cell 3⟩))
    all_goals
      clear SD1 SE2 TD1 PBD1 PXD1 QD1
      obtain ⟨A1, cp1, rfl⟩ := Jl.slice_form r1
      go_upto_region 5 with fail
      have TD2 := T2.later (below_dn (Below.refl _ _) 1)
      rw [show y2.drewN 1 = y2.drew from rfl] at TD2
      have PBD2 : Blk y2.drew bb 31 #[.pointer (some ⟨d, 0, none⟩), .pointer (some ⟨r, 0, none⟩), Js.jp o, Js.rp o, .int .i64 N] := PB2
      have PXD2 : Blk y2.drew w.heap.size 36 #[.int .i64 6, .int .i64 on, .int .i64 om, .int .i64 ow, .int .i64 zq, .int .i64 zk, .int .i64 zi, .string c, .string b, .bool dn, .slice ca cl cc] := PX2
      have QD2 : Jl.KeptB K bb y0 y2.drew := Q2
      have SD2 : y2.drew.cell? ⟨bb, 1, none⟩ = some (.pointer (some ⟨r, 0, none⟩)) ∧ y2.drew.cell? ⟨w.heap.size, 1, none⟩ = some (.int .i64 on) ∧ y2.drew.cell? ⟨w.heap.size, 2, none⟩ = some (.int .i64 om) ∧ y2.drew.cell? ⟨w.heap.size, 3, none⟩ = some (.int .i64 ow) := ⟨PBD2.cell 1, PXD2.cell 1, PXD2.cell 2, PXD2.cell 3⟩
      have kc2 := k2 TD2
      clear T2 PB2 PX2 Q2
      go_region_held3 (fun W' => W'.cell? ⟨bb, 1, none⟩ = some (.pointer (some ⟨r, 0, none⟩)) ∧ W'.cell? ⟨w.heap.size, 1, none⟩ = some (.int .i64 on) ∧ W'.cell? ⟨w.heap.size, 2, none⟩ = some (.int .i64 om) ∧ W'.cell? ⟨w.heap.size, 3, none⟩ = some (.int .i64 ow))
        (first
          | with_reducible assumption)
        (first
          | (go_at_call 30; refine kc2.mono ?_; clear kc2; rintro e y3 ⟨⟨v2, rfl, r2⟩, bq⟩; have T3 := TD2.later bq; have Q3 := QD2.trans ((TD2.kept bq).b bb); have PB3 : Blk y3 bb 31 #[.pointer (some ⟨d, 0, none⟩), .pointer (some ⟨r, 0, none⟩), Js.jp o, Js.rp o, .int .i64 N] := (bq.block _ PBD2.lt).trans PBD2; have PX3 : Blk y3 w.heap.size 36 #[.int .i64 6, .int .i64 on, .int .i64 om, .int .i64 ow, .int .i64 zq, .int .i64 zk, .int .i64 zi, .string c, .string b, .bool dn, .slice ca cl cc] := (bq.block _ PXD2.lt).trans PXD2; have SE3 : y3.cell? ⟨bb, 1, none⟩ = some (.pointer (some ⟨r, 0, none⟩)) ∧ y3.cell? ⟨w.heap.size, 1, none⟩ = some (.int .i64 on) ∧ y3.cell? ⟨w.heap.size, 2, none⟩ = some (.int .i64 om) ∧ y3.cell? ⟨w.heap.size, 3, none⟩ = some (.int .i64 ow) := ⟨PB3.cell 1, PX3.cell 1, PX3.cell 2, PX3.cell 3⟩))
      all_goals
        clear SD2 SE3 TD2 PBD2 PXD2 QD2
        obtain ⟨A2, cp2, rfl⟩ := r2.form
        have r1' : Jl.Own y3 y1.drew.heap.size (.slice A1 us.length cp1) us := Jl.row_grown (Jl.row_grown r1 (Jl.grown_of (below_dn (Below.refl _ _) 1))) (Jl.grown_of bq)
        have ks := Jl.same_true A1 A2 cp1 cp2 us y3 r1'.lie r2.lie hus
        go_wp2_with (first
          | (go_at_call 27; refine ks.mono ?_; clear ks; rintro e y4 ⟨rfl, b4⟩)
          | (go_at_call 23; refine (Js.num_r _ _).mono ?_; rintro e w ⟨rfl, rfl⟩))
        go_ret
        exact ⟨rfl, _, _, o, HL, fin (T3.later b4) (Q3.trans ((T3.kept b4).b bb)) ((b4.block _ PB3.lt).trans PB3)⟩
  by_cases k7 : kd = 7
  · subst k7
    have hlk := (Dp.like_ops hl).2.2.2.2.2.2.1 on dn
    have k1 := fun {y : World} (T : Mt.Two W0.heap.size W0 y d m r m' K) => T.one fun K0 S => S.call (Dk.arm_good S.good on hon.2 dn) fun F hA hG => (Dk.arm_any hA on hon dn).mono fun e W' ⟨a, b, c⟩ => ⟨a, F, b, c, fun k hk => .inl hk⟩
    generalize Dk.arm m on dn = M1 at k1 hlk
    have k2 := fun {y : World} (T : Mt.Two W0.heap.size W0 y d M1 r m' K) => T.two fun K0 S => S.call (Dk.arm_good S.good on hon.2 dn) fun F hA hG => (Dr.arm_any hA on hon dn).mono fun e W' ⟨a, b, c⟩ => ⟨a, F, b, c, fun k hk => .inl hk⟩
    generalize Dk.arm m' on dn = M2 at k2 hlk
    have HL := Lib.hid hlk
    clear hl hlk hcts hb1 hom hcm hcn hns hname hcl finN hT hP k6
    go_enter Tryz.func7, Tryz.ntmps7
    go_upto_region 8 with (first
      | (go_at_call 29; refine kn.mono ?_; clear kn; rintro e y1 ⟨rfl, b1⟩; have T1 := T0.later b1; have Q1 : Jl.KeptB K bb y0 y1 := (T0.kept b1).b bb; have PB1 : Blk y1 bb 31 #[.pointer (some ⟨d, 0, none⟩), .pointer (some ⟨r, 0, none⟩), Js.jp o, Js.rp o, .int .i64 N] := (b1.block _ PB0.lt).trans PB0; have PX1 : Blk y1 w.heap.size 36 #[.int .i64 7, .int .i64 on, .int .i64 om, .int .i64 ow, .int .i64 zq, .int .i64 zk, .int .i64 zi, .string c, .string b, .bool dn, .slice ca cl cc] := (b1.block _ PX0.lt).trans PX0; have d0 : y1.cell? ⟨w.heap.size, 0, none⟩ = some (.int .i64 7) := PX1.cell 0))
    have TD1 := T1.later (below_dn (Below.refl _ _) 1)
    rw [show y1.drewN 1 = y1.drew from rfl] at TD1
    have PBD1 : Blk y1.drew bb 31 #[.pointer (some ⟨d, 0, none⟩), .pointer (some ⟨r, 0, none⟩), Js.jp o, Js.rp o, .int .i64 N] := PB1
    have PXD1 : Blk y1.drew w.heap.size 36 #[.int .i64 7, .int .i64 on, .int .i64 om, .int .i64 ow, .int .i64 zq, .int .i64 zk, .int .i64 zi, .string c, .string b, .bool dn, .slice ca cl cc] := PX1
    have QD1 : Jl.KeptB K bb y0 y1.drew := Q1
    have SD1 : y1.drew.cell? ⟨bb, 0, none⟩ = some (.pointer (some ⟨d, 0, none⟩)) ∧ y1.drew.cell? ⟨w.heap.size, 1, none⟩ = some (.int .i64 on) ∧ y1.drew.cell? ⟨w.heap.size, 9, none⟩ = some (.bool dn) := ⟨PBD1.cell 0, PXD1.cell 1, PXD1.cell 9⟩
    have kc1 := k1 TD1
    clear T1 PB1 PX1 Q1
    go_region_held3 (fun W' => W'.cell? ⟨bb, 0, none⟩ = some (.pointer (some ⟨d, 0, none⟩)) ∧ W'.cell? ⟨w.heap.size, 1, none⟩ = some (.int .i64 on) ∧ W'.cell? ⟨w.heap.size, 9, none⟩ = some (.bool dn))
      (first
        | with_reducible assumption)
      (first
        | (go_at_call 31; refine kc1.mono ?_; clear kc1; rintro e y2 ⟨rfl, T2, q⟩; have Q2 := QD1.trans (q.b bb); have PB2 : Blk y2 bb 31 #[.pointer (some ⟨d, 0, none⟩), .pointer (some ⟨r, 0, none⟩), Js.jp o, Js.rp o, .int .i64 N] := (q.2 _ kb).trans PBD1; have PX2 : Blk y2 w.heap.size 36 #[.int .i64 7, .int .i64 on, .int .i64 om, .int .i64 ow, .int .i64 zq, .int .i64 zk, .int .i64 zi, .string c, .string b, .bool dn, .slice ca cl cc] := (q.2 _ kx).trans PXD1; have SE2 : y2.cell? ⟨bb, 0, none⟩ = some (.pointer (some ⟨d, 0, none⟩)) ∧ y2.cell? ⟨w.heap.size, 1, none⟩ = some (.int .i64 on) ∧ y2.cell? ⟨w.heap.size, 9, none⟩ = some (.bool dn) := ⟨PB2.cell 0, PX2.cell 1, PX2.cell 9⟩))
    all_goals
      clear SD1 SE2 TD1 PBD1 PXD1 QD1
      go_upto_region 9 with fail
      have TD2 := T2.later (below_dn (Below.refl _ _) 1)
      rw [show y2.drewN 1 = y2.drew from rfl] at TD2
      have PBD2 : Blk y2.drew bb 31 #[.pointer (some ⟨d, 0, none⟩), .pointer (some ⟨r, 0, none⟩), Js.jp o, Js.rp o, .int .i64 N] := PB2
      have PXD2 : Blk y2.drew w.heap.size 36 #[.int .i64 7, .int .i64 on, .int .i64 om, .int .i64 ow, .int .i64 zq, .int .i64 zk, .int .i64 zi, .string c, .string b, .bool dn, .slice ca cl cc] := PX2
      have QD2 : Jl.KeptB K bb y0 y2.drew := Q2
      have SD2 : y2.drew.cell? ⟨bb, 1, none⟩ = some (.pointer (some ⟨r, 0, none⟩)) ∧ y2.drew.cell? ⟨w.heap.size, 1, none⟩ = some (.int .i64 on) ∧ y2.drew.cell? ⟨w.heap.size, 9, none⟩ = some (.bool dn) := ⟨PBD2.cell 1, PXD2.cell 1, PXD2.cell 9⟩
      have kc2 := k2 TD2
      clear T2 PB2 PX2 Q2
      go_region_held3 (fun W' => W'.cell? ⟨bb, 1, none⟩ = some (.pointer (some ⟨r, 0, none⟩)) ∧ W'.cell? ⟨w.heap.size, 1, none⟩ = some (.int .i64 on) ∧ W'.cell? ⟨w.heap.size, 9, none⟩ = some (.bool dn))
        (first
          | with_reducible assumption)
        (first
          | (go_at_call 32; refine kc2.mono ?_; clear kc2; rintro e y3 ⟨rfl, T3, q⟩; have Q3 := QD2.trans (q.b bb); have PB3 : Blk y3 bb 31 #[.pointer (some ⟨d, 0, none⟩), .pointer (some ⟨r, 0, none⟩), Js.jp o, Js.rp o, .int .i64 N] := (q.2 _ kb).trans PBD2; have PX3 : Blk y3 w.heap.size 36 #[.int .i64 7, .int .i64 on, .int .i64 om, .int .i64 ow, .int .i64 zq, .int .i64 zk, .int .i64 zi, .string c, .string b, .bool dn, .slice ca cl cc] := (q.2 _ kx).trans PXD2; have SE3 : y3.cell? ⟨bb, 1, none⟩ = some (.pointer (some ⟨r, 0, none⟩)) ∧ y3.cell? ⟨w.heap.size, 1, none⟩ = some (.int .i64 on) ∧ y3.cell? ⟨w.heap.size, 9, none⟩ = some (.bool dn) := ⟨PB3.cell 1, PX3.cell 1, PX3.cell 9⟩))
      all_goals
        clear SD2 SE3 TD2 PBD2 PXD2 QD2
        go_wp2_with fail
        go_ret
        exact ⟨rfl, _, _, o, HL, fin T3 Q3 PB3⟩
  by_cases k8 : kd = 8
  · subst k8
    have hlk := Dp.like_crash hl cuts
    have k1 := fun {y : World} (T : Mt.Two W0.heap.size W0 y d m r m' K) => T.one fun K0 S => S.call (Dk.crash_good S.good cuts) fun F hA hG => Dk.crash_any hA hG (hcts S.below) (by omega) fun c hc => Nat.le_trans (hcn c hc) (by decide)
    generalize Dk.crash m cuts = M1 at k1 hlk
    have k2 := fun {y : World} (T : Mt.Two W0.heap.size W0 y d M1 r m' K) => T.two fun K0 S => S.call (Dr.crash_good S.good cuts) fun F hA hG => Dr.crash_any hA hG (hcts S.below) (by omega)
    generalize Dr.crash m' cuts = M2 at k2 hlk
    have HL := Lib.hid hlk
    clear hl hlk hcts hb1 hom hcm hcn hns hname hcl finN hT hP k6 k7
    go_enter Tryz.func7, Tryz.ntmps7
    go_upto_region 11 with (first
      | (go_at_call 29; refine kn.mono ?_; clear kn; rintro e y1 ⟨rfl, b1⟩; have T1 := T0.later b1; have Q1 : Jl.KeptB K bb y0 y1 := (T0.kept b1).b bb; have PB1 : Blk y1 bb 31 #[.pointer (some ⟨d, 0, none⟩), .pointer (some ⟨r, 0, none⟩), Js.jp o, Js.rp o, .int .i64 N] := (b1.block _ PB0.lt).trans PB0; have PX1 : Blk y1 w.heap.size 36 #[.int .i64 8, .int .i64 on, .int .i64 om, .int .i64 ow, .int .i64 zq, .int .i64 zk, .int .i64 zi, .string c, .string b, .bool dn, .slice ca cl cc] := (b1.block _ PX0.lt).trans PX0; have d0 : y1.cell? ⟨w.heap.size, 0, none⟩ = some (.int .i64 8) := PX1.cell 0))
    have TD1 := T1.later (below_dn (Below.refl _ _) 1)
    rw [show y1.drewN 1 = y1.drew from rfl] at TD1
    have PBD1 : Blk y1.drew bb 31 #[.pointer (some ⟨d, 0, none⟩), .pointer (some ⟨r, 0, none⟩), Js.jp o, Js.rp o, .int .i64 N] := PB1
    have PXD1 : Blk y1.drew w.heap.size 36 #[.int .i64 8, .int .i64 on, .int .i64 om, .int .i64 ow, .int .i64 zq, .int .i64 zk, .int .i64 zi, .string c, .string b, .bool dn, .slice ca cl cc] := PX1
    have QD1 : Jl.KeptB K bb y0 y1.drew := Q1
    have SD1 : y1.drew.cell? ⟨bb, 0, none⟩ = some (.pointer (some ⟨d, 0, none⟩)) ∧ y1.drew.cell? ⟨w.heap.size, 10, none⟩ = some (.slice ca cl cc) := ⟨PBD1.cell 0, PXD1.cell 10⟩
    have kc1 := k1 TD1
    clear T1 PB1 PX1 Q1
    go_region_held3 (fun W' => W'.cell? ⟨bb, 0, none⟩ = some (.pointer (some ⟨d, 0, none⟩)) ∧ W'.cell? ⟨w.heap.size, 10, none⟩ = some (.slice ca cl cc))
      (first
        | with_reducible assumption)
      (first
        | (go_at_call 33; refine kc1.mono ?_; clear kc1; rintro e y2 ⟨rfl, T2, q⟩; have Q2 := QD1.trans (q.b bb); have PB2 : Blk y2 bb 31 #[.pointer (some ⟨d, 0, none⟩), .pointer (some ⟨r, 0, none⟩), Js.jp o, Js.rp o, .int .i64 N] := (q.2 _ kb).trans PBD1; have PX2 : Blk y2 w.heap.size 36 #[.int .i64 8, .int .i64 on, .int .i64 om, .int .i64 ow, .int .i64 zq, .int .i64 zk, .int .i64 zi, .string c, .string b, .bool dn, .slice ca cl cc] := (q.2 _ kx).trans PXD1; have SE2 : y2.cell? ⟨bb, 0, none⟩ = some (.pointer (some ⟨d, 0, none⟩)) ∧ y2.cell? ⟨w.heap.size, 10, none⟩ = some (.slice ca cl cc) := ⟨PB2.cell 0, PX2.cell 10⟩))
    all_goals
      clear SD1 SE2 TD1 PBD1 PXD1 QD1
      go_upto_region 12 with fail
      have TD2 := T2.later (below_dn (Below.refl _ _) 1)
      rw [show y2.drewN 1 = y2.drew from rfl] at TD2
      have PBD2 : Blk y2.drew bb 31 #[.pointer (some ⟨d, 0, none⟩), .pointer (some ⟨r, 0, none⟩), Js.jp o, Js.rp o, .int .i64 N] := PB2
      have PXD2 : Blk y2.drew w.heap.size 36 #[.int .i64 8, .int .i64 on, .int .i64 om, .int .i64 ow, .int .i64 zq, .int .i64 zk, .int .i64 zi, .string c, .string b, .bool dn, .slice ca cl cc] := PX2
      have QD2 : Jl.KeptB K bb y0 y2.drew := Q2
      have SD2 : y2.drew.cell? ⟨bb, 1, none⟩ = some (.pointer (some ⟨r, 0, none⟩)) ∧ y2.drew.cell? ⟨w.heap.size, 10, none⟩ = some (.slice ca cl cc) := ⟨PBD2.cell 1, PXD2.cell 10⟩
      have kc2 := k2 TD2
      clear T2 PB2 PX2 Q2
      go_region_held3 (fun W' => W'.cell? ⟨bb, 1, none⟩ = some (.pointer (some ⟨r, 0, none⟩)) ∧ W'.cell? ⟨w.heap.size, 10, none⟩ = some (.slice ca cl cc))
        (first
          | with_reducible assumption)
        (first
          | (go_at_call 34; refine kc2.mono ?_; clear kc2; rintro e y3 ⟨rfl, T3, q⟩; have Q3 := QD2.trans (q.b bb); have PB3 : Blk y3 bb 31 #[.pointer (some ⟨d, 0, none⟩), .pointer (some ⟨r, 0, none⟩), Js.jp o, Js.rp o, .int .i64 N] := (q.2 _ kb).trans PBD2; have PX3 : Blk y3 w.heap.size 36 #[.int .i64 8, .int .i64 on, .int .i64 om, .int .i64 ow, .int .i64 zq, .int .i64 zk, .int .i64 zi, .string c, .string b, .bool dn, .slice ca cl cc] := (q.2 _ kx).trans PXD2; have SE3 : y3.cell? ⟨bb, 1, none⟩ = some (.pointer (some ⟨r, 0, none⟩)) ∧ y3.cell? ⟨w.heap.size, 10, none⟩ = some (.slice ca cl cc) := ⟨PB3.cell 1, PX3.cell 10⟩))
      all_goals
        clear SD2 SE3 TD2 PBD2 PXD2 QD2
        go_wp2_with fail
        go_ret
        exact ⟨rfl, _, _, o, HL, fin T3 Q3 PB3⟩
  have u6 : (kd == 6) = false := beq_eq_false_iff_ne.2 k6
  have u7 : (kd == 7) = false := beq_eq_false_iff_ne.2 k7
  have u8 : (kd == 8) = false := beq_eq_false_iff_ne.2 k8
  by_cases k9 : kd = 9 ∨ kd = 10
  rotate_left
  · have u9 : (kd == 9) = false := beq_eq_false_iff_ne.2 fun e => k9 (.inl e)
    have u10 : (kd == 10) = false := beq_eq_false_iff_ne.2 fun e => k9 (.inr e)
    have HL := Lib.hid hl
    clear hl hcts hb1 hom hcm hcn hns hname hcl finN hT hP k6 k7 k8 k9
    go_enter Tryz.func7, Tryz.ntmps7
    go_wp2_with (first
      | (go_at_call 29; refine kn.mono ?_; clear kn; rintro e y1 ⟨rfl, b1⟩; have T1 := T0.later b1; have Q1 : Jl.KeptB K bb y0 y1 := (T0.kept b1).b bb; have PB1 : Blk y1 bb 31 #[.pointer (some ⟨d, 0, none⟩), .pointer (some ⟨r, 0, none⟩), Js.jp o, Js.rp o, .int .i64 N] := (b1.block _ PB0.lt).trans PB0; have PX1 : Blk y1 w.heap.size 36 #[.int .i64 kd, .int .i64 on, .int .i64 om, .int .i64 ow, .int .i64 zq, .int .i64 zk, .int .i64 zi, .string c, .string b, .bool dn, .slice ca cl cc] := (b1.block _ PX0.lt).trans PX0; have d0 : y1.cell? ⟨w.heap.size, 0, none⟩ = some (.int .i64 kd) := PX1.cell 0))
    go_ret
    exact ⟨rfl, _, _, o, HL, fin T1 Q1 PB1⟩
  clear k6 k7 k8 u6 u7 u8
  by_cases hN : on = N
  · rcases k9 with rfl | rfl
    all_goals skip
    · skip
      obtain ⟨l1, _⟩ := (Dp.like_ops hl).1 nb.data.toList
      have k1 := fun {y : World} (T : Mt.Two W0.heap.size W0 y d m r m' K) => T.one fun K0 S => S.call (Jl.create_good S.good nb.data.toList) fun F hA hG => Dk.create_any hA hG nb hname
      generalize (Dk.create m nb.data.toList).2 = x1 at k1
      generalize (Dk.create m nb.data.toList).1 = M1 at k1 l1
      have k2 := fun {y : World} (T : Mt.Two W0.heap.size W0 y d M1 r m' K) => T.two fun K0 S => S.call (Jl.create_good S.good nb.data.toList) fun F hA hG => Dr.create_any hA hG nb hname
      generalize (Dk.create m' nb.data.toList).2 = x2 at k2
      generalize (Dk.create m' nb.data.toList).1 = M2 at k2 l1
      obtain ⟨hlk, _⟩ := (Dp.like_ops l1).2.1 nb.data.toList b.data.toList
      have k3 := fun {y : World} (T : Mt.Two W0.heap.size W0 y d M1 r M2 K) => T.one fun K0 S => S.call (Dk.append_good S.good nb.data.toList b.data.toList) fun F hA hG => Dk.append_any hA hG nb b hname (by omega)
      generalize (Dk.append M1 nb.data.toList b.data.toList).2 = x3 at k3
      generalize (Dk.append M1 nb.data.toList b.data.toList).1 = M3 at k3 hlk
      have k4 := fun {y : World} (T : Mt.Two W0.heap.size W0 y d M3 r M2 K) => T.two fun K0 S => S.call (Dk.append_good S.good nb.data.toList b.data.toList) fun F hA hG => Dr.append_any hA hG nb b hname hb1
      generalize (Dk.append M2 nb.data.toList b.data.toList).2 = x4 at k4
      generalize (Dk.append M2 nb.data.toList b.data.toList).1 = M4 at k4 hlk
      have HL := Lib.hid hlk
      subst hN
      have uN : (on == on) = true := beq_self_eq_true _
      clear hl hlk hcts hb1 hom hcm hcn hns hname hcl hT hP l1 fin
      go_enter Tryz.func7, Tryz.ntmps7
      go_upto_region 15 with (first
        | (go_at_call 29; refine kn.mono ?_; clear kn; rintro e y1 ⟨rfl, b1⟩; have T1 := T0.later b1; have Q1 : Jl.KeptB K bb y0 y1 := (T0.kept b1).b bb; have PB1 : Blk y1 bb 31 #[.pointer (some ⟨d, 0, none⟩), .pointer (some ⟨r, 0, none⟩), Js.jp o, Js.rp o, .int .i64 on] := (b1.block _ PB0.lt).trans PB0; have PX1 : Blk y1 w.heap.size 36 #[.int .i64 9, .int .i64 on, .int .i64 om, .int .i64 ow, .int .i64 zq, .int .i64 zk, .int .i64 zi, .string c, .string b, .bool dn, .slice ca cl cc] := (b1.block _ PX0.lt).trans PX0; have d0 : y1.cell? ⟨w.heap.size, 0, none⟩ = some (.int .i64 9) := PX1.cell 0))
      have e1 : y1.cell? ⟨bb, 4, none⟩ = some (.int .i64 on) := PB1.cell 4
      have e2 : y1.cell? ⟨w.heap.size, 1, none⟩ = some (.int .i64 on) := PX1.cell 1
      go_quiet (fail)
      have T2 := T1.later (below_dn (Below.refl _ _) nq)
      have PB2 : Blk (y1.drewN nq) bb 31 #[.pointer (some ⟨d, 0, none⟩), .pointer (some ⟨r, 0, none⟩), Js.jp o, Js.rp o, .int .i64 on] := PB1
      have PX2 : Blk (y1.drewN nq) w.heap.size 36 #[.int .i64 9, .int .i64 on, .int .i64 om, .int .i64 ow, .int .i64 zq, .int .i64 zk, .int .i64 zi, .string c, .string b, .bool dn, .slice ca cl cc] := PX1
      have Q2 : Jl.KeptB K bb y0 (y1.drewN nq) := Q1
      generalize y1.drewN nq = y2 at T2 PB2 PX2 Q2 ⊢
      clear T1 PB1 PX1 Q1 e1 e2 d0
      have f2 := PB2.frozen 2
      have f3 := PB2.frozen 3
      have g2 : y2.cell? ⟨bb, 2, none⟩ = some (Js.jp o) := PB2.cell 2
      have g3 : y2.cell? ⟨bb, 3, none⟩ = some (Js.rp o) := PB2.cell 3
      have x0 : y2.cell? ⟨w.heap.size, 0, none⟩ = some (.int .i64 9) := PX2.cell 0
      go_upto_region 18 with fail
      obtain ⟨T3a, Q3a⟩ := Js.Be.two_only (p := ⟨bb, 2, none⟩) T2 kb (.pointer none)
      obtain ⟨T3, Q3b⟩ := Js.Be.two_only (p := ⟨bb, 3, none⟩) T3a kb (.pointer none)
      have Q3 := (Q2.trans Q3a).trans Q3b
      have PB3 : Blk ((y2.setCell ⟨bb, 2, none⟩ (.pointer none)).setCell ⟨bb, 3, none⟩ (.pointer none)) bb 31 #[.pointer (some ⟨d, 0, none⟩), .pointer (some ⟨r, 0, none⟩), .pointer none, .pointer none, .int .i64 on] := (PB2.set_ 2 (.pointer none)).set_ 3 (.pointer none)
      have PX3 : Blk ((y2.setCell ⟨bb, 2, none⟩ (.pointer none)).setCell ⟨bb, 3, none⟩ (.pointer none)) w.heap.size 36 #[.int .i64 9, .int .i64 on, .int .i64 om, .int .i64 ow, .int .i64 zq, .int .i64 zk, .int .i64 zi, .string c, .string b, .bool dn, .slice ca cl cc] := (PX2.far (p := ⟨bb, 2, none⟩) nx _).far (p := ⟨bb, 3, none⟩) nx _
      generalize (y2.setCell ⟨bb, 2, none⟩ (.pointer none)).setCell ⟨bb, 3, none⟩ (.pointer none) = y3 at T3 PB3 PX3 Q3 ⊢
      clear T2 PB2 PX2 Q2 T3a Q3a Q3b f2 f3 g2 g3 x0
      have x0 : y3.cell? ⟨w.heap.size, 0, none⟩ = some (.int .i64 9) := PX3.cell 0
      go_upto_region 22 with fail
      have cb3 : y3.cell? ⟨bb, 0, none⟩ = some (.pointer (some ⟨d, 0, none⟩)) := PB3.cell 0
      have kc3 := k1 T3
      go_upto_region 23 with (go_at_call 37; refine kc3.mono ?_; clear kc3; rintro e y4 ⟨rfl, T4, q⟩; have Q4 := Q3.trans (q.b bb); have PB4 : Blk y4 bb 31 #[.pointer (some ⟨d, 0, none⟩), .pointer (some ⟨r, 0, none⟩), .pointer none, .pointer none, .int .i64 on] := (q.2 _ kb).trans PB3; have PX4 : Blk y4 w.heap.size 36 #[.int .i64 9, .int .i64 on, .int .i64 om, .int .i64 ow, .int .i64 zq, .int .i64 zk, .int .i64 zi, .string c, .string b, .bool dn, .slice ca cl cc] := (q.2 _ kx).trans PX3)
      clear cb3 T3 PB3 PX3 Q3
      go_upto_region 23 with fail
      have cb4 : y4.cell? ⟨bb, 1, none⟩ = some (.pointer (some ⟨r, 0, none⟩)) := PB4.cell 1
      have kc4 := k2 T4
      go_upto_region 24 with (go_at_call 38; refine kc4.mono ?_; clear kc4; rintro e y5 ⟨rfl, T5, q⟩; have Q5 := Q4.trans (q.b bb); have PB5 : Blk y5 bb 31 #[.pointer (some ⟨d, 0, none⟩), .pointer (some ⟨r, 0, none⟩), .pointer none, .pointer none, .int .i64 on] := (q.2 _ kb).trans PB4; have PX5 : Blk y5 w.heap.size 36 #[.int .i64 9, .int .i64 on, .int .i64 om, .int .i64 ow, .int .i64 zq, .int .i64 zk, .int .i64 zi, .string c, .string b, .bool dn, .slice ca cl cc] := (q.2 _ kx).trans PX4)
      clear cb4 T4 PB4 PX4 Q4
      go_upto_region 24 with fail
      have TD5 := T5.later (below_dn (Below.refl _ _) 1)
      rw [show y5.drewN 1 = y5.drew from rfl] at TD5
      have PBD5 : Blk y5.drew bb 31 #[.pointer (some ⟨d, 0, none⟩), .pointer (some ⟨r, 0, none⟩), .pointer none, .pointer none, .int .i64 on] := PB5
      have PXD5 : Blk y5.drew w.heap.size 36 #[.int .i64 9, .int .i64 on, .int .i64 om, .int .i64 ow, .int .i64 zq, .int .i64 zk, .int .i64 zi, .string c, .string b, .bool dn, .slice ca cl cc] := PX5
      have QD5 : Jl.KeptB K bb y0 y5.drew := Q5
      have SD5 : y5.drew.cell? ⟨bb, 0, none⟩ = some (.pointer (some ⟨d, 0, none⟩)) ∧ y5.drew.cell? ⟨w.heap.size, 8, none⟩ = some (.string b) := ⟨PBD5.cell 0, PXD5.cell 8⟩
      have kc5 := k3 TD5
      clear T5 PB5 PX5 Q5
      go_region_held3 (fun W' => W'.cell? ⟨bb, 0, none⟩ = some (.pointer (some ⟨d, 0, none⟩)) ∧ W'.cell? ⟨w.heap.size, 8, none⟩ = some (.string b))
        (first
          | with_reducible assumption)
        (first
          | (go_at_call 39; refine kc5.mono ?_; clear kc5; rintro e y6 ⟨rfl, T6, q⟩; have Q6 := QD5.trans (q.b bb); have PB6 : Blk y6 bb 31 #[.pointer (some ⟨d, 0, none⟩), .pointer (some ⟨r, 0, none⟩), .pointer none, .pointer none, .int .i64 on] := (q.2 _ kb).trans PBD5; have PX6 : Blk y6 w.heap.size 36 #[.int .i64 9, .int .i64 on, .int .i64 om, .int .i64 ow, .int .i64 zq, .int .i64 zk, .int .i64 zi, .string c, .string b, .bool dn, .slice ca cl cc] := (q.2 _ kx).trans PXD5; have SE6 : y6.cell? ⟨bb, 0, none⟩ = some (.pointer (some ⟨d, 0, none⟩)) ∧ y6.cell? ⟨w.heap.size, 8, none⟩ = some (.string b) := ⟨PB6.cell 0, PX6.cell 8⟩))
      all_goals
        clear SD5 SE6 TD5 PBD5 PXD5 QD5
        go_upto_region 25 with fail
        have TD6 := T6.later (below_dn (Below.refl _ _) 1)
        rw [show y6.drewN 1 = y6.drew from rfl] at TD6
        have PBD6 : Blk y6.drew bb 31 #[.pointer (some ⟨d, 0, none⟩), .pointer (some ⟨r, 0, none⟩), .pointer none, .pointer none, .int .i64 on] := PB6
        have PXD6 : Blk y6.drew w.heap.size 36 #[.int .i64 9, .int .i64 on, .int .i64 om, .int .i64 ow, .int .i64 zq, .int .i64 zk, .int .i64 zi, .string c, .string b, .bool dn, .slice ca cl cc] := PX6
        have QD6 : Jl.KeptB K bb y0 y6.drew := Q6
        have SD6 : y6.drew.cell? ⟨bb, 1, none⟩ = some (.pointer (some ⟨r, 0, none⟩)) ∧ y6.drew.cell? ⟨w.heap.size, 8, none⟩ = some (.string b) := ⟨PBD6.cell 1, PXD6.cell 8⟩
        have kc6 := k4 TD6
        clear T6 PB6 PX6 Q6
        go_region_held3 (fun W' => W'.cell? ⟨bb, 1, none⟩ = some (.pointer (some ⟨r, 0, none⟩)) ∧ W'.cell? ⟨w.heap.size, 8, none⟩ = some (.string b))
          (first
            | with_reducible assumption)
          (first
            | (go_at_call 40; refine kc6.mono ?_; clear kc6; rintro e y7 ⟨rfl, T7, q⟩; have Q7 := QD6.trans (q.b bb); have PB7 : Blk y7 bb 31 #[.pointer (some ⟨d, 0, none⟩), .pointer (some ⟨r, 0, none⟩), .pointer none, .pointer none, .int .i64 on] := (q.2 _ kb).trans PBD6; have PX7 : Blk y7 w.heap.size 36 #[.int .i64 9, .int .i64 on, .int .i64 om, .int .i64 ow, .int .i64 zq, .int .i64 zk, .int .i64 zi, .string c, .string b, .bool dn, .slice ca cl cc] := (q.2 _ kx).trans PXD6; have SE7 : y7.cell? ⟨bb, 1, none⟩ = some (.pointer (some ⟨r, 0, none⟩)) ∧ y7.cell? ⟨w.heap.size, 8, none⟩ = some (.string b) := ⟨PB7.cell 1, PX7.cell 8⟩))
        all_goals
          clear SD6 SE7 TD6 PBD6 PXD6 QD6
          go_wp2_with fail
          go_ret
          exact ⟨rfl, _, _, none, HL, finN T7 PB7⟩
    · skip
      obtain ⟨hlk, _⟩ := (Dp.like_ops hl).2.2.2.1 nb.data.toList om
      have k1 := fun {y : World} (T : Mt.Two W0.heap.size W0 y d m r m' K) => T.one fun K0 S => S.call (Dk.cut_good S.good nb.data.toList om) fun F hA hG => Dk.cut_any hA hG nb hname om hom
      generalize (Dk.cut m nb.data.toList om).2 = x1 at k1
      generalize (Dk.cut m nb.data.toList om).1 = M1 at k1 hlk
      have k2 := fun {y : World} (T : Mt.Two W0.heap.size W0 y d M1 r m' K) => T.two fun K0 S => S.call (Dk.cut_good S.good nb.data.toList om) fun F hA hG => Dr.cut_any hA hG nb hname om hom
      generalize (Dk.cut m' nb.data.toList om).2 = x2 at k2
      generalize (Dk.cut m' nb.data.toList om).1 = M2 at k2 hlk
      have HL := Lib.hid hlk
      subst hN
      have uN : (on == on) = true := beq_self_eq_true _
      clear hl hlk hcts hb1 hom hcm hcn hns hname hcl hT hP fin
      go_enter Tryz.func7, Tryz.ntmps7
      go_upto_region 15 with (first
        | (go_at_call 29; refine kn.mono ?_; clear kn; rintro e y1 ⟨rfl, b1⟩; have T1 := T0.later b1; have Q1 : Jl.KeptB K bb y0 y1 := (T0.kept b1).b bb; have PB1 : Blk y1 bb 31 #[.pointer (some ⟨d, 0, none⟩), .pointer (some ⟨r, 0, none⟩), Js.jp o, Js.rp o, .int .i64 on] := (b1.block _ PB0.lt).trans PB0; have PX1 : Blk y1 w.heap.size 36 #[.int .i64 10, .int .i64 on, .int .i64 om, .int .i64 ow, .int .i64 zq, .int .i64 zk, .int .i64 zi, .string c, .string b, .bool dn, .slice ca cl cc] := (b1.block _ PX0.lt).trans PX0; have d0 : y1.cell? ⟨w.heap.size, 0, none⟩ = some (.int .i64 10) := PX1.cell 0))
      have e1 : y1.cell? ⟨bb, 4, none⟩ = some (.int .i64 on) := PB1.cell 4
      have e2 : y1.cell? ⟨w.heap.size, 1, none⟩ = some (.int .i64 on) := PX1.cell 1
      go_quiet (fail)
      have T2 := T1.later (below_dn (Below.refl _ _) nq)
      have PB2 : Blk (y1.drewN nq) bb 31 #[.pointer (some ⟨d, 0, none⟩), .pointer (some ⟨r, 0, none⟩), Js.jp o, Js.rp o, .int .i64 on] := PB1
      have PX2 : Blk (y1.drewN nq) w.heap.size 36 #[.int .i64 10, .int .i64 on, .int .i64 om, .int .i64 ow, .int .i64 zq, .int .i64 zk, .int .i64 zi, .string c, .string b, .bool dn, .slice ca cl cc] := PX1
      have Q2 : Jl.KeptB K bb y0 (y1.drewN nq) := Q1
      generalize y1.drewN nq = y2 at T2 PB2 PX2 Q2 ⊢
      clear T1 PB1 PX1 Q1 e1 e2 d0
      have f2 := PB2.frozen 2
      have f3 := PB2.frozen 3
      have g2 : y2.cell? ⟨bb, 2, none⟩ = some (Js.jp o) := PB2.cell 2
      have g3 : y2.cell? ⟨bb, 3, none⟩ = some (Js.rp o) := PB2.cell 3
      have x0 : y2.cell? ⟨w.heap.size, 0, none⟩ = some (.int .i64 10) := PX2.cell 0
      go_upto_region 18 with fail
      obtain ⟨T3a, Q3a⟩ := Js.Be.two_only (p := ⟨bb, 2, none⟩) T2 kb (.pointer none)
      obtain ⟨T3, Q3b⟩ := Js.Be.two_only (p := ⟨bb, 3, none⟩) T3a kb (.pointer none)
      have Q3 := (Q2.trans Q3a).trans Q3b
      have PB3 : Blk ((y2.setCell ⟨bb, 2, none⟩ (.pointer none)).setCell ⟨bb, 3, none⟩ (.pointer none)) bb 31 #[.pointer (some ⟨d, 0, none⟩), .pointer (some ⟨r, 0, none⟩), .pointer none, .pointer none, .int .i64 on] := (PB2.set_ 2 (.pointer none)).set_ 3 (.pointer none)
      have PX3 : Blk ((y2.setCell ⟨bb, 2, none⟩ (.pointer none)).setCell ⟨bb, 3, none⟩ (.pointer none)) w.heap.size 36 #[.int .i64 10, .int .i64 on, .int .i64 om, .int .i64 ow, .int .i64 zq, .int .i64 zk, .int .i64 zi, .string c, .string b, .bool dn, .slice ca cl cc] := (PX2.far (p := ⟨bb, 2, none⟩) nx _).far (p := ⟨bb, 3, none⟩) nx _
      generalize (y2.setCell ⟨bb, 2, none⟩ (.pointer none)).setCell ⟨bb, 3, none⟩ (.pointer none) = y3 at T3 PB3 PX3 Q3 ⊢
      clear T2 PB2 PX2 Q2 T3a Q3a Q3b f2 f3 g2 g3 x0
      have x0 : y3.cell? ⟨w.heap.size, 0, none⟩ = some (.int .i64 10) := PX3.cell 0
      go_upto_region 19 with fail
      have TD3 := T3.later (below_dn (Below.refl _ _) 1)
      rw [show y3.drewN 1 = y3.drew from rfl] at TD3
      have PBD3 : Blk y3.drew bb 31 #[.pointer (some ⟨d, 0, none⟩), .pointer (some ⟨r, 0, none⟩), .pointer none, .pointer none, .int .i64 on] := PB3
      have PXD3 : Blk y3.drew w.heap.size 36 #[.int .i64 10, .int .i64 on, .int .i64 om, .int .i64 ow, .int .i64 zq, .int .i64 zk, .int .i64 zi, .string c, .string b, .bool dn, .slice ca cl cc] := PX3
      have QD3 : Jl.KeptB K bb y0 y3.drew := Q3
      have SD3 : y3.drew.cell? ⟨bb, 0, none⟩ = some (.pointer (some ⟨d, 0, none⟩)) ∧ y3.drew.cell? ⟨w.heap.size, 2, none⟩ = some (.int .i64 om) := ⟨PBD3.cell 0, PXD3.cell 2⟩
      have kc3 := k1 TD3
      clear T3 PB3 PX3 Q3
      go_region_held3 (fun W' => W'.cell? ⟨bb, 0, none⟩ = some (.pointer (some ⟨d, 0, none⟩)) ∧ W'.cell? ⟨w.heap.size, 2, none⟩ = some (.int .i64 om))
        (first
          | with_reducible assumption)
        (first
          | (go_at_call 35; refine kc3.mono ?_; clear kc3; rintro e y4 ⟨rfl, T4, q⟩; have Q4 := QD3.trans (q.b bb); have PB4 : Blk y4 bb 31 #[.pointer (some ⟨d, 0, none⟩), .pointer (some ⟨r, 0, none⟩), .pointer none, .pointer none, .int .i64 on] := (q.2 _ kb).trans PBD3; have PX4 : Blk y4 w.heap.size 36 #[.int .i64 10, .int .i64 on, .int .i64 om, .int .i64 ow, .int .i64 zq, .int .i64 zk, .int .i64 zi, .string c, .string b, .bool dn, .slice ca cl cc] := (q.2 _ kx).trans PXD3; have SE4 : y4.cell? ⟨bb, 0, none⟩ = some (.pointer (some ⟨d, 0, none⟩)) ∧ y4.cell? ⟨w.heap.size, 2, none⟩ = some (.int .i64 om) := ⟨PB4.cell 0, PX4.cell 2⟩))
      all_goals
        clear SD3 SE4 TD3 PBD3 PXD3 QD3
        go_upto_region 20 with fail
        have TD4 := T4.later (below_dn (Below.refl _ _) 1)
        rw [show y4.drewN 1 = y4.drew from rfl] at TD4
        have PBD4 : Blk y4.drew bb 31 #[.pointer (some ⟨d, 0, none⟩), .pointer (some ⟨r, 0, none⟩), .pointer none, .pointer none, .int .i64 on] := PB4
        have PXD4 : Blk y4.drew w.heap.size 36 #[.int .i64 10, .int .i64 on, .int .i64 om, .int .i64 ow, .int .i64 zq, .int .i64 zk, .int .i64 zi, .string c, .string b, .bool dn, .slice ca cl cc] := PX4
        have QD4 : Jl.KeptB K bb y0 y4.drew := Q4
        have SD4 : y4.drew.cell? ⟨bb, 1, none⟩ = some (.pointer (some ⟨r, 0, none⟩)) ∧ y4.drew.cell? ⟨w.heap.size, 2, none⟩ = some (.int .i64 om) := ⟨PBD4.cell 1, PXD4.cell 2⟩
        have kc4 := k2 TD4
        clear T4 PB4 PX4 Q4
        go_region_held3 (fun W' => W'.cell? ⟨bb, 1, none⟩ = some (.pointer (some ⟨r, 0, none⟩)) ∧ W'.cell? ⟨w.heap.size, 2, none⟩ = some (.int .i64 om))
          (first
            | with_reducible assumption)
          (first
            | (go_at_call 36; refine kc4.mono ?_; clear kc4; rintro e y5 ⟨rfl, T5, q⟩; have Q5 := QD4.trans (q.b bb); have PB5 : Blk y5 bb 31 #[.pointer (some ⟨d, 0, none⟩), .pointer (some ⟨r, 0, none⟩), .pointer none, .pointer none, .int .i64 on] := (q.2 _ kb).trans PBD4; have PX5 : Blk y5 w.heap.size 36 #[.int .i64 10, .int .i64 on, .int .i64 om, .int .i64 ow, .int .i64 zq, .int .i64 zk, .int .i64 zi, .string c, .string b, .bool dn, .slice ca cl cc] := (q.2 _ kx).trans PXD4; have SE5 : y5.cell? ⟨bb, 1, none⟩ = some (.pointer (some ⟨r, 0, none⟩)) ∧ y5.cell? ⟨w.heap.size, 2, none⟩ = some (.int .i64 om) := ⟨PB5.cell 1, PX5.cell 2⟩))
        all_goals
          clear SD4 SE5 TD4 PBD4 PXD4 QD4
          go_wp2_with fail
          go_ret
          exact ⟨rfl, _, _, none, HL, finN T5 PB5⟩
  · rcases k9 with rfl | rfl
    all_goals skip
    · skip
      obtain ⟨l1, _⟩ := (Dp.like_ops hl).1 nb.data.toList
      have k1 := fun {y : World} (T : Mt.Two W0.heap.size W0 y d m r m' K) => T.one fun K0 S => S.call (Jl.create_good S.good nb.data.toList) fun F hA hG => Dk.create_any hA hG nb hname
      generalize (Dk.create m nb.data.toList).2 = x1 at k1
      generalize (Dk.create m nb.data.toList).1 = M1 at k1 l1
      have k2 := fun {y : World} (T : Mt.Two W0.heap.size W0 y d M1 r m' K) => T.two fun K0 S => S.call (Jl.create_good S.good nb.data.toList) fun F hA hG => Dr.create_any hA hG nb hname
      generalize (Dk.create m' nb.data.toList).2 = x2 at k2
      generalize (Dk.create m' nb.data.toList).1 = M2 at k2 l1
      obtain ⟨hlk, _⟩ := (Dp.like_ops l1).2.1 nb.data.toList b.data.toList
      have k3 := fun {y : World} (T : Mt.Two W0.heap.size W0 y d M1 r M2 K) => T.one fun K0 S => S.call (Dk.append_good S.good nb.data.toList b.data.toList) fun F hA hG => Dk.append_any hA hG nb b hname (by omega)
      generalize (Dk.append M1 nb.data.toList b.data.toList).2 = x3 at k3
      generalize (Dk.append M1 nb.data.toList b.data.toList).1 = M3 at k3 hlk
      have k4 := fun {y : World} (T : Mt.Two W0.heap.size W0 y d M3 r M2 K) => T.two fun K0 S => S.call (Dk.append_good S.good nb.data.toList b.data.toList) fun F hA hG => Dr.append_any hA hG nb b hname hb1
      generalize (Dk.append M2 nb.data.toList b.data.toList).2 = x4 at k4
      generalize (Dk.append M2 nb.data.toList b.data.toList).1 = M4 at k4 hlk
      have HL := Lib.hid hlk
      have uN : (on == N) = false := beq_eq_false_iff_ne.2 hN
      clear hl hlk hcts hb1 hom hcm hcn hns hname hcl hT hP l1 finN hN
      go_enter Tryz.func7, Tryz.ntmps7
      go_upto_region 15 with (first
        | (go_at_call 29; refine kn.mono ?_; clear kn; rintro e y1 ⟨rfl, b1⟩; have T1 := T0.later b1; have Q1 : Jl.KeptB K bb y0 y1 := (T0.kept b1).b bb; have PB1 : Blk y1 bb 31 #[.pointer (some ⟨d, 0, none⟩), .pointer (some ⟨r, 0, none⟩), Js.jp o, Js.rp o, .int .i64 N] := (b1.block _ PB0.lt).trans PB0; have PX1 : Blk y1 w.heap.size 36 #[.int .i64 9, .int .i64 on, .int .i64 om, .int .i64 ow, .int .i64 zq, .int .i64 zk, .int .i64 zi, .string c, .string b, .bool dn, .slice ca cl cc] := (b1.block _ PX0.lt).trans PX0; have d0 : y1.cell? ⟨w.heap.size, 0, none⟩ = some (.int .i64 9) := PX1.cell 0))
      have e1 : y1.cell? ⟨bb, 4, none⟩ = some (.int .i64 N) := PB1.cell 4
      have e2 : y1.cell? ⟨w.heap.size, 1, none⟩ = some (.int .i64 on) := PX1.cell 1
      go_quiet (fail)
      have T2 := T1.later (below_dn (Below.refl _ _) nq)
      have PB2 : Blk (y1.drewN nq) bb 31 #[.pointer (some ⟨d, 0, none⟩), .pointer (some ⟨r, 0, none⟩), Js.jp o, Js.rp o, .int .i64 N] := PB1
      have PX2 : Blk (y1.drewN nq) w.heap.size 36 #[.int .i64 9, .int .i64 on, .int .i64 om, .int .i64 ow, .int .i64 zq, .int .i64 zk, .int .i64 zi, .string c, .string b, .bool dn, .slice ca cl cc] := PX1
      have Q2 : Jl.KeptB K bb y0 (y1.drewN nq) := Q1
      generalize y1.drewN nq = y2 at T2 PB2 PX2 Q2 ⊢
      clear T1 PB1 PX1 Q1 e1 e2 d0
      have x0 : y2.cell? ⟨w.heap.size, 0, none⟩ = some (.int .i64 9) := PX2.cell 0
      go_upto_region 22 with fail
      have cb2 : y2.cell? ⟨bb, 0, none⟩ = some (.pointer (some ⟨d, 0, none⟩)) := PB2.cell 0
      have kc2 := k1 T2
      go_upto_region 23 with (go_at_call 37; refine kc2.mono ?_; clear kc2; rintro e y3 ⟨rfl, T3, q⟩; have Q3 := Q2.trans (q.b bb); have PB3 : Blk y3 bb 31 #[.pointer (some ⟨d, 0, none⟩), .pointer (some ⟨r, 0, none⟩), Js.jp o, Js.rp o, .int .i64 N] := (q.2 _ kb).trans PB2; have PX3 : Blk y3 w.heap.size 36 #[.int .i64 9, .int .i64 on, .int .i64 om, .int .i64 ow, .int .i64 zq, .int .i64 zk, .int .i64 zi, .string c, .string b, .bool dn, .slice ca cl cc] := (q.2 _ kx).trans PX2)
      clear cb2 T2 PB2 PX2 Q2
      go_upto_region 23 with fail
      have cb3 : y3.cell? ⟨bb, 1, none⟩ = some (.pointer (some ⟨r, 0, none⟩)) := PB3.cell 1
      have kc3 := k2 T3
      go_upto_region 24 with (go_at_call 38; refine kc3.mono ?_; clear kc3; rintro e y4 ⟨rfl, T4, q⟩; have Q4 := Q3.trans (q.b bb); have PB4 : Blk y4 bb 31 #[.pointer (some ⟨d, 0, none⟩), .pointer (some ⟨r, 0, none⟩), Js.jp o, Js.rp o, .int .i64 N] := (q.2 _ kb).trans PB3; have PX4 : Blk y4 w.heap.size 36 #[.int .i64 9, .int .i64 on, .int .i64 om, .int .i64 ow, .int .i64 zq, .int .i64 zk, .int .i64 zi, .string c, .string b, .bool dn, .slice ca cl cc] := (q.2 _ kx).trans PX3)
      clear cb3 T3 PB3 PX3 Q3
      go_upto_region 24 with fail
      have TD4 := T4.later (below_dn (Below.refl _ _) 1)
      rw [show y4.drewN 1 = y4.drew from rfl] at TD4
      have PBD4 : Blk y4.drew bb 31 #[.pointer (some ⟨d, 0, none⟩), .pointer (some ⟨r, 0, none⟩), Js.jp o, Js.rp o, .int .i64 N] := PB4
      have PXD4 : Blk y4.drew w.heap.size 36 #[.int .i64 9, .int .i64 on, .int .i64 om, .int .i64 ow, .int .i64 zq, .int .i64 zk, .int .i64 zi, .string c, .string b, .bool dn, .slice ca cl cc] := PX4
      have QD4 : Jl.KeptB K bb y0 y4.drew := Q4
      have SD4 : y4.drew.cell? ⟨bb, 0, none⟩ = some (.pointer (some ⟨d, 0, none⟩)) ∧ y4.drew.cell? ⟨w.heap.size, 8, none⟩ = some (.string b) := ⟨PBD4.cell 0, PXD4.cell 8⟩
      have kc4 := k3 TD4
      clear T4 PB4 PX4 Q4
      go_region_held3 (fun W' => W'.cell? ⟨bb, 0, none⟩ = some (.pointer (some ⟨d, 0, none⟩)) ∧ W'.cell? ⟨w.heap.size, 8, none⟩ = some (.string b))
        (first
          | with_reducible assumption)
        (first
          | (go_at_call 39; refine kc4.mono ?_; clear kc4; rintro e y5 ⟨rfl, T5, q⟩; have Q5 := QD4.trans (q.b bb); have PB5 : Blk y5 bb 31 #[.pointer (some ⟨d, 0, none⟩), .pointer (some ⟨r, 0, none⟩), Js.jp o, Js.rp o, .int .i64 N] := (q.2 _ kb).trans PBD4; have PX5 : Blk y5 w.heap.size 36 #[.int .i64 9, .int .i64 on, .int .i64 om, .int .i64 ow, .int .i64 zq, .int .i64 zk, .int .i64 zi, .string c, .string b, .bool dn, .slice ca cl cc] := (q.2 _ kx).trans PXD4; have SE5 : y5.cell? ⟨bb, 0, none⟩ = some (.pointer (some ⟨d, 0, none⟩)) ∧ y5.cell? ⟨w.heap.size, 8, none⟩ = some (.string b) := ⟨PB5.cell 0, PX5.cell 8⟩))
      all_goals
        clear SD4 SE5 TD4 PBD4 PXD4 QD4
        go_upto_region 25 with fail
        have TD5 := T5.later (below_dn (Below.refl _ _) 1)
        rw [show y5.drewN 1 = y5.drew from rfl] at TD5
        have PBD5 : Blk y5.drew bb 31 #[.pointer (some ⟨d, 0, none⟩), .pointer (some ⟨r, 0, none⟩), Js.jp o, Js.rp o, .int .i64 N] := PB5
        have PXD5 : Blk y5.drew w.heap.size 36 #[.int .i64 9, .int .i64 on, .int .i64 om, .int .i64 ow, .int .i64 zq, .int .i64 zk, .int .i64 zi, .string c, .string b, .bool dn, .slice ca cl cc] := PX5
        have QD5 : Jl.KeptB K bb y0 y5.drew := Q5
        have SD5 : y5.drew.cell? ⟨bb, 1, none⟩ = some (.pointer (some ⟨r, 0, none⟩)) ∧ y5.drew.cell? ⟨w.heap.size, 8, none⟩ = some (.string b) := ⟨PBD5.cell 1, PXD5.cell 8⟩
        have kc5 := k4 TD5
        clear T5 PB5 PX5 Q5
        go_region_held3 (fun W' => W'.cell? ⟨bb, 1, none⟩ = some (.pointer (some ⟨r, 0, none⟩)) ∧ W'.cell? ⟨w.heap.size, 8, none⟩ = some (.string b))
          (first
            | with_reducible assumption)
          (first
            | (go_at_call 40; refine kc5.mono ?_; clear kc5; rintro e y6 ⟨rfl, T6, q⟩; have Q6 := QD5.trans (q.b bb); have PB6 : Blk y6 bb 31 #[.pointer (some ⟨d, 0, none⟩), .pointer (some ⟨r, 0, none⟩), Js.jp o, Js.rp o, .int .i64 N] := (q.2 _ kb).trans PBD5; have PX6 : Blk y6 w.heap.size 36 #[.int .i64 9, .int .i64 on, .int .i64 om, .int .i64 ow, .int .i64 zq, .int .i64 zk, .int .i64 zi, .string c, .string b, .bool dn, .slice ca cl cc] := (q.2 _ kx).trans PXD5; have SE6 : y6.cell? ⟨bb, 1, none⟩ = some (.pointer (some ⟨r, 0, none⟩)) ∧ y6.cell? ⟨w.heap.size, 8, none⟩ = some (.string b) := ⟨PB6.cell 1, PX6.cell 8⟩))
        all_goals
          clear SD5 SE6 TD5 PBD5 PXD5 QD5
          go_wp2_with fail
          go_ret
          exact ⟨rfl, _, _, o, HL, fin T6 Q6 PB6⟩
    · skip
      obtain ⟨hlk, _⟩ := (Dp.like_ops hl).2.2.2.1 nb.data.toList om
      have k1 := fun {y : World} (T : Mt.Two W0.heap.size W0 y d m r m' K) => T.one fun K0 S => S.call (Dk.cut_good S.good nb.data.toList om) fun F hA hG => Dk.cut_any hA hG nb hname om hom
      generalize (Dk.cut m nb.data.toList om).2 = x1 at k1
      generalize (Dk.cut m nb.data.toList om).1 = M1 at k1 hlk
      have k2 := fun {y : World} (T : Mt.Two W0.heap.size W0 y d M1 r m' K) => T.two fun K0 S => S.call (Dk.cut_good S.good nb.data.toList om) fun F hA hG => Dr.cut_any hA hG nb hname om hom
      generalize (Dk.cut m' nb.data.toList om).2 = x2 at k2
      generalize (Dk.cut m' nb.data.toList om).1 = M2 at k2 hlk
      have HL := Lib.hid hlk
      have uN : (on == N) = false := beq_eq_false_iff_ne.2 hN
      clear hl hlk hcts hb1 hom hcm hcn hns hname hcl hT hP finN hN
      go_enter Tryz.func7, Tryz.ntmps7
      go_upto_region 15 with (first
        | (go_at_call 29; refine kn.mono ?_; clear kn; rintro e y1 ⟨rfl, b1⟩; have T1 := T0.later b1; have Q1 : Jl.KeptB K bb y0 y1 := (T0.kept b1).b bb; have PB1 : Blk y1 bb 31 #[.pointer (some ⟨d, 0, none⟩), .pointer (some ⟨r, 0, none⟩), Js.jp o, Js.rp o, .int .i64 N] := (b1.block _ PB0.lt).trans PB0; have PX1 : Blk y1 w.heap.size 36 #[.int .i64 10, .int .i64 on, .int .i64 om, .int .i64 ow, .int .i64 zq, .int .i64 zk, .int .i64 zi, .string c, .string b, .bool dn, .slice ca cl cc] := (b1.block _ PX0.lt).trans PX0; have d0 : y1.cell? ⟨w.heap.size, 0, none⟩ = some (.int .i64 10) := PX1.cell 0))
      have e1 : y1.cell? ⟨bb, 4, none⟩ = some (.int .i64 N) := PB1.cell 4
      have e2 : y1.cell? ⟨w.heap.size, 1, none⟩ = some (.int .i64 on) := PX1.cell 1
      go_quiet (fail)
      have T2 := T1.later (below_dn (Below.refl _ _) nq)
      have PB2 : Blk (y1.drewN nq) bb 31 #[.pointer (some ⟨d, 0, none⟩), .pointer (some ⟨r, 0, none⟩), Js.jp o, Js.rp o, .int .i64 N] := PB1
      have PX2 : Blk (y1.drewN nq) w.heap.size 36 #[.int .i64 10, .int .i64 on, .int .i64 om, .int .i64 ow, .int .i64 zq, .int .i64 zk, .int .i64 zi, .string c, .string b, .bool dn, .slice ca cl cc] := PX1
      have Q2 : Jl.KeptB K bb y0 (y1.drewN nq) := Q1
      generalize y1.drewN nq = y2 at T2 PB2 PX2 Q2 ⊢
      clear T1 PB1 PX1 Q1 e1 e2 d0
      have x0 : y2.cell? ⟨w.heap.size, 0, none⟩ = some (.int .i64 10) := PX2.cell 0
      go_upto_region 19 with fail
      have TD2 := T2.later (below_dn (Below.refl _ _) 1)
      rw [show y2.drewN 1 = y2.drew from rfl] at TD2
      have PBD2 : Blk y2.drew bb 31 #[.pointer (some ⟨d, 0, none⟩), .pointer (some ⟨r, 0, none⟩), Js.jp o, Js.rp o, .int .i64 N] := PB2
      have PXD2 : Blk y2.drew w.heap.size 36 #[.int .i64 10, .int .i64 on, .int .i64 om, .int .i64 ow, .int .i64 zq, .int .i64 zk, .int .i64 zi, .string c, .string b, .bool dn, .slice ca cl cc] := PX2
      have QD2 : Jl.KeptB K bb y0 y2.drew := Q2
      have SD2 : y2.drew.cell? ⟨bb, 0, none⟩ = some (.pointer (some ⟨d, 0, none⟩)) ∧ y2.drew.cell? ⟨w.heap.size, 2, none⟩ = some (.int .i64 om) := ⟨PBD2.cell 0, PXD2.cell 2⟩
      have kc2 := k1 TD2
      clear T2 PB2 PX2 Q2
      go_region_held3 (fun W' => W'.cell? ⟨bb, 0, none⟩ = some (.pointer (some ⟨d, 0, none⟩)) ∧ W'.cell? ⟨w.heap.size, 2, none⟩ = some (.int .i64 om))
        (first
          | with_reducible assumption)
        (first
          | (go_at_call 35; refine kc2.mono ?_; clear kc2; rintro e y3 ⟨rfl, T3, q⟩; have Q3 := QD2.trans (q.b bb); have PB3 : Blk y3 bb 31 #[.pointer (some ⟨d, 0, none⟩), .pointer (some ⟨r, 0, none⟩), Js.jp o, Js.rp o, .int .i64 N] := (q.2 _ kb).trans PBD2; have PX3 : Blk y3 w.heap.size 36 #[.int .i64 10, .int .i64 on, .int .i64 om, .int .i64 ow, .int .i64 zq, .int .i64 zk, .int .i64 zi, .string c, .string b, .bool dn, .slice ca cl cc] := (q.2 _ kx).trans PXD2; have SE3 : y3.cell? ⟨bb, 0, none⟩ = some (.pointer (some ⟨d, 0, none⟩)) ∧ y3.cell? ⟨w.heap.size, 2, none⟩ = some (.int .i64 om) := ⟨PB3.cell 0, PX3.cell 2⟩))
      all_goals
        clear SD2 SE3 TD2 PBD2 PXD2 QD2
        go_upto_region 20 with fail
        have TD3 := T3.later (below_dn (Below.refl _ _) 1)
        rw [show y3.drewN 1 = y3.drew from rfl] at TD3
        have PBD3 : Blk y3.drew bb 31 #[.pointer (some ⟨d, 0, none⟩), .pointer (some ⟨r, 0, none⟩), Js.jp o, Js.rp o, .int .i64 N] := PB3
        have PXD3 : Blk y3.drew w.heap.size 36 #[.int .i64 10, .int .i64 on, .int .i64 om, .int .i64 ow, .int .i64 zq, .int .i64 zk, .int .i64 zi, .string c, .string b, .bool dn, .slice ca cl cc] := PX3
        have QD3 : Jl.KeptB K bb y0 y3.drew := Q3
        have SD3 : y3.drew.cell? ⟨bb, 1, none⟩ = some (.pointer (some ⟨r, 0, none⟩)) ∧ y3.drew.cell? ⟨w.heap.size, 2, none⟩ = some (.int .i64 om) := ⟨PBD3.cell 1, PXD3.cell 2⟩
        have kc3 := k2 TD3
        clear T3 PB3 PX3 Q3
        go_region_held3 (fun W' => W'.cell? ⟨bb, 1, none⟩ = some (.pointer (some ⟨r, 0, none⟩)) ∧ W'.cell? ⟨w.heap.size, 2, none⟩ = some (.int .i64 om))
          (first
            | with_reducible assumption)
          (first
            | (go_at_call 36; refine kc3.mono ?_; clear kc3; rintro e y4 ⟨rfl, T4, q⟩; have Q4 := QD3.trans (q.b bb); have PB4 : Blk y4 bb 31 #[.pointer (some ⟨d, 0, none⟩), .pointer (some ⟨r, 0, none⟩), Js.jp o, Js.rp o, .int .i64 N] := (q.2 _ kb).trans PBD3; have PX4 : Blk y4 w.heap.size 36 #[.int .i64 10, .int .i64 on, .int .i64 om, .int .i64 ow, .int .i64 zq, .int .i64 zk, .int .i64 zi, .string c, .string b, .bool dn, .slice ca cl cc] := (q.2 _ kx).trans PXD3; have SE4 : y4.cell? ⟨bb, 1, none⟩ = some (.pointer (some ⟨r, 0, none⟩)) ∧ y4.cell? ⟨w.heap.size, 2, none⟩ = some (.int .i64 om) := ⟨PB4.cell 1, PX4.cell 2⟩))
        all_goals
          clear SD3 SE4 TD3 PBD3 PXD3 QD3
          go_wp2_with fail
          go_ret
          exact ⟨rfl, _, _, o, HL, fin T4 Q4 PB4⟩
end
end Go.Proofs.YtifkhjihgnnpfaaGreatDoor
