/- A row of updates of the call's own beside two disks; the law's helper begins: Create. Conditions: each theorem's own hypotheses. -/
import Derived.Test.YtifkhjihgnnpfaaGreatDoorJsG
import Derived.Test.YtifkhjihgnnpfaaGreatDoorJsH
import Derived.Test.YtifkhjihgnnpfaaGreatDoorJsI
namespace Go.Proofs.YtifkhjihgnnpfaaGreatDoor
open Go.RowKit
set_option linter.unusedVariables false

structure Js.Ro (B : Nat) (W0 : World) (d : Nat) (m : Dk.M) (r : Nat) (m' : Dk.M) (KA : Nat → Prop) (w0 : World) (n : Nat) (v : Value) (w : World) : Prop where
  two : Mt.Two B W0 w d m r m' (fun k => KA k ∨ v.ownBlock = some k)
  own : Jl.Any w B v n
  apart : ∀ g, v.ownBlock = some g → ¬ KA g
  kept : Jl.Kept KA w0 w
section
variable {B d r n : Nat} {W0 w w0 w' : World} {m m' m2 : Dk.M} {K KA : Nat → Prop} {v : Value}
theorem Js.Ro.start (T : Mt.Two B W0 w d m r m' K) (ho : Jl.Any w B v n) (hv : ∀ g, v.ownBlock = some g → K g) : Js.Ro B W0 d m r m' (fun k => K k ∧ v.ownBlock ≠ some k) w n v w :=
  ⟨T.sub fun k hk => hk.elim (fun h => h.1) (hv k), ho, fun g e h => h.2 e, Nat.le_refl _, fun _ _ => rfl⟩
theorem Js.Ro.open_ {A : Option Addr} {cap : Nat} (h : Js.Ro B W0 d m r m' KA w0 n (.slice A n cap) w) (h0 : 0 < n) : ∃ g cur, A = some ⟨g, 0, none⟩ ∧ ¬ KA g ∧ Blk w g 33 cur ∧ B ≤ g ∧ n ≤ cap ∧ cap ≤ maxLen ∧ cur.size = cap * 4 := by
  obtain ⟨g, cap', cur, hv, hB, hb, h1, h2, h3⟩ := h.own.form h0
  injection hv with e1 _ e2
  subst e1 e2
  exact ⟨g, cur, rfl, h.apart g rfl, hb, hB, h1, h2, h3⟩
theorem Js.Ro.set_ {g cap : Nat} (h : Js.Ro B W0 d m r m' KA w0 n (.slice (some ⟨g, 0, none⟩) n cap) w) (h0 : 0 < n) (i : Nat) (u : Value) : Js.Ro B W0 d m r m' KA w0 n (.slice (some ⟨g, 0, none⟩) n cap) (w.setCell ⟨g, i, none⟩ u) := by
  obtain ⟨g', cur, e, h1, h2, h3, h4, h5, h6⟩ := h.open_ h0
  injection e with e
  injection e with e
  subst e
  refine ⟨(h.two.only (G := fun k => k = g) (Dk.Only.setCell (F := fun k => k = g) (Dk.Only.refl _ w) (p := ⟨g, i, none⟩) (.inl rfl) u) fun k hk => .inr (by rw [hk]; rfl)).sub fun k hk => .inl hk, .of h3 (h2.set_ i u) h4 h5 (by simp [h6]), h.apart, by simpa [World.setCell] using h.kept.1, fun k hk => ?_⟩
  exact (Below.heap_setCell w ⟨g, i, none⟩ u k fun e => h1 (by have e' : k = g := e; rw [← e']; exact hk)).trans (h.kept.2 k hk)
theorem Js.Ro.put4 {g cap j0 j1 j2 j3 : Nat} {u0 u1 u2 u3 : Value} (h : Js.Ro B W0 d m r m' KA w0 n (.slice (some ⟨g, 0, none⟩) n cap) w) (h0 : 0 < n) : Js.Ro B W0 d m r m' KA w0 n (.slice (some ⟨g, 0, none⟩) n cap) ((((w.setCell ⟨g, j0, none⟩ u0).setCell ⟨g, j1, none⟩ u1).setCell ⟨g, j2, none⟩ u2).setCell ⟨g, j3, none⟩ u3) :=
  (((h.set_ h0 _ _).set_ h0 _ _).set_ h0 _ _).set_ h0 _ _
theorem Js.Ro.later (h : Js.Ro B W0 d m r m' KA w0 n v w) (hB : Below w.heap.size w w') : Js.Ro B W0 d m r m' KA w0 n v w' :=
  ⟨h.two.later hB, h.own.keep fun k e => hB.block k (h.two.lt (.inr e)).2, h.apart, Nat.le_trans h.kept.1 hB.size, fun k hk => (hB.block k (h.two.lt (.inl hk)).2).trans (h.kept.2 k hk)⟩
theorem Js.Ro.grown {n' g2 cap2 : Nat} {o : Obj} {xs : List Value} (h : Js.Ro B W0 d m r m' KA w0 n v w) (ho : w'.ownsRow B 33 4 (.slice (some ⟨g2, 0, none⟩) n' cap2) n' xs) (hg : (w.alloc o).grownBy w' v.ownBlock) (hat : v.ownBlock = some g2 ∨ g2 = w.heap.size + 1) : Js.Ro B W0 d m r m' KA w0 n' (.slice (some ⟨g2, 0, none⟩) n' cap2) w' := by
  have hO : Dk.Only (fun k => v.ownBlock = some k) w w' := ((Dk.Only.refl _ w).alloc o).grown hg fun k e => .inl e
  have hlt := World.ownsRow.lt ho g2 rfl
  refine ⟨(h.two.only hO fun k hk => .inr hk).sub fun k hk => ?_, ⟨_, ho⟩, fun g e hk => ?_, Nat.le_trans h.kept.1 hO.size, fun k hk => (hO.block k (h.two.lt (.inl hk)).2 fun e => h.apart k e hk).trans (h.kept.2 k hk)⟩
  · rcases hk with hk | hk
    · exact .inl (.inl hk)
    · obtain rfl : g2 = k := Option.some.inj hk
      rcases hat with e | e
      · exact .inl (.inr e)
      · exact .inr ⟨by omega, hlt.2⟩
  · obtain rfl : g2 = g := Option.some.inj e
    rcases hat with e | e
    · exact h.apart _ e hk
    · have := (h.two.lt (.inl hk)).2
      omega
end
section
variable {B d r : Nat} {W0 W : World} {m m' : Dk.M} {K : Nat → Prop}
theorem Js.create1_no (h : Mt.Two B W0 W d m r m' K) (hP : ∀ {w : World}, Below B W0 w → PowT w) (n sq l : Int) {m1 : Dk.M} {c : Int} (e : Jl.createR m n sq l = (m1, c)) (hc : c ≠ 0) :
    Calls Tryz.prog 21 #[.pointer (some ⟨d, 0, none⟩), .int .i64 n, .int .i64 sq, .int .i64 l] W fun e W' => e = .returned (.tuple #[.pointer none, .int .i64 c]) ∧ Mt.Two B W0 W' d m1 r m' K ∧ Jl.Kept K W W' := by
  obtain ⟨nb, hnb, _, _⟩ := str_of (Jn.name n)
  exact h.one fun K0 S => Jl.create_no S hP n sq l nb hnb hc e
theorem Js.create2_no (h : Mt.Two B W0 W d m r m' K) (hP : ∀ {w : World}, Below B W0 w → PowT w) (n sq l : Int) {m1 : Dk.M} {c : Int} (e : Jl.createR m' n sq l = (m1, c)) (hc : c ≠ 0) :
    Calls Tryz.prog 22 #[.pointer (some ⟨r, 0, none⟩), .int .i64 n, .int .i64 sq, .int .i64 l] W fun e W' => e = .returned (.tuple #[.pointer none, .int .i64 c]) ∧ Mt.Two B W0 W' d m r m1 K ∧ Jl.Kept K W W' := by
  obtain ⟨nb, hnb, _, _⟩ := str_of (Jn.name n)
  exact h.two fun K0 S => Js.refCreate_no S hP n sq l nb hnb hc e
theorem Js.create1_ok (h : Mt.Two B W0 W d m r m' K) (hP : ∀ {w : World}, Below B W0 w → PowT w) (n sq l : Int) (nb : ByteArray) (hnb : str (Jn.name n) = .string nb) {m1 : Dk.M} (e : Jl.createR m n sq l = (m1, 0)) :
    Calls Tryz.prog 21 #[.pointer (some ⟨d, 0, none⟩), .int .i64 n, .int .i64 sq, .int .i64 l] W fun e W' => ∃ N : Nat → Prop, (∃ j, e = .returned (.tuple #[.pointer (some ⟨j, 0, none⟩), .int .i64 0]) ∧ W.heap.size ≤ j ∧ Blk W' j 79 (Jl.jc d m1.age false nb l sq sq) ∧ N j) ∧ (∀ k, N k → W.heap.size ≤ k) ∧ Mt.Two B W0 W' d m1 r m' (fun k => K k ∨ N k) ∧ Jl.Kept K W W' :=
  h.oneN fun K0 S => (Jl.create_ok S hP n sq l nb hnb e).mono fun e W' ⟨j, he, hj, hs, hk⟩ => ⟨fun k => k = j, ⟨j, he, hj, hs.blk, rfl⟩, fun k hk => hk ▸ hj, hs.sit, hk⟩
theorem Js.create2_ok (h : Mt.Two B W0 W d m r m' K) (hP : ∀ {w : World}, Below B W0 w → PowT w) (n sq l : Int) (nb : ByteArray) (hnb : str (Jn.name n) = .string nb) {m1 : Dk.M} (e : Jl.createR m' n sq l = (m1, 0)) :
    Calls Tryz.prog 22 #[.pointer (some ⟨r, 0, none⟩), .int .i64 n, .int .i64 sq, .int .i64 l] W fun e W' => ∃ N : Nat → Prop, (∃ j, e = .returned (.tuple #[.pointer (some ⟨j, 0, none⟩), .int .i64 0]) ∧ W.heap.size ≤ j ∧ Blk W' j 81 (Js.rc r ⟨m1.age, false, nb, l, sq, sq⟩ n) ∧ N j) ∧ (∀ k, N k → W.heap.size ≤ k) ∧ Mt.Two B W0 W' d m r m1 (fun k => K k ∨ N k) ∧ Jl.Kept K W W' :=
  h.twoN fun K0 S => (Js.refCreate_ok S hP n sq l nb hnb e).mono fun e W' ⟨j, he, hj, hs, hk⟩ => ⟨fun k => k = j, ⟨j, he, hj, hs.blk, rfl⟩, fun k hk => hk ▸ hj, hs.sit, hk⟩
end
/-- A journal that has just begun. -/
theorem Js.Fine.new {n sq l : Int} (hg : Jn.goesE n sq l = 0) {nb : ByteArray} (hnb : str (Jn.name n) = .string nb) (age : Int) (gone : Bool) (k : Nat) (hk : k ≤ 1152921504606846976) : Js.Fine ⟨age, gone, nb, l, sq + k, sq⟩ n := by
  obtain ⟨h1, h2, h3⟩ := Jn.goesE_zero hg
  obtain ⟨p1, p2, _⟩ := Jn.wideB_true h2
  refine ⟨hnb, ⟨l.toNat, ?_, ?_⟩, ?_⟩
  · show l = _; omega
  · rw [show ((l.toNat : Nat) : Int) = l by omega]; exact h2
  · show 0 ≤ sq + (k : Int) ∧ sq + (k : Int) ≤ 4611686018427387904
    omega
end Go.Proofs.YtifkhjihgnnpfaaGreatDoor
/- The law's helper begins, a Create. Conditions: each theorem's own hypotheses. -/
namespace Go.Proofs.YtifkhjihgnnpfaaGreatDoor
open Go.RowKit
set_option linter.unusedVariables false

section
variable {d r bb : Nat} {W0 w w' : World} {m m' : Dk.M} {o : Option (Nat × Nat × Jl.Js × Int)} {N : Int}
/-- The bench when new journals stand on it. -/
theorem Js.Be.anew {K : Nat → Prop} {y : World} {M1 M2 : Dk.M} {j rj : Nat} {J : Jl.Js} {n : Int} (T : Mt.Two W0.heap.size W0 y d M1 r M2 K) (hb : K bb) (hj : K j) (hr : K rj) (p : Blk y bb 31 #[.pointer (some ⟨d, 0, none⟩), .pointer (some ⟨r, 0, none⟩), .pointer (some ⟨j, 0, none⟩), .pointer (some ⟨rj, 0, none⟩), .int .i64 N])
    (p1 : Blk y j 79 (J.cells d)) (p2 : Blk y rj 81 (Js.rc r J n)) (n1 : bb ≠ j) (n2 : bb ≠ rj) (n3 : j ≠ rj) (hF : Js.Fine J n) : Js.Be W0 y d r bb M1 M2 (some (j, rj, J, n)) N := by
  refine ⟨T.sub fun k hk => ?_, p, fun j' rj' J' n' e => ?_⟩
  · rcases hk with rfl | ⟨j', rj', J', n', e, hk⟩
    · exact hb
    · obtain ⟨rfl, rfl, rfl, rfl⟩ : j = j' ∧ rj = rj' ∧ J = J' ∧ n = n' := by simpa using e
      rcases hk with rfl | rfl
      · exact hj
      · exact hr
  · obtain ⟨rfl, rfl, rfl, rfl⟩ : j = j' ∧ rj = rj' ∧ J = J' ∧ n = n' := by simpa using e
    exact ⟨p1, p2, n1, n2, n3, hF⟩
set_option maxRecDepth 100000 in
set_option maxHeartbeats 16000000 in
theorem Js.begins1 (h : Js.Be W0 w d r bb m m' o N) (hl : Dp.Like m m') (t : Js.Op) (hf : Js.OpFit W0 t) (hkd : t.kind = 1) (hP : ∀ {w : World}, Below W0.heap.size W0 w → PowT w) :
    Calls Tryz.prog 6 #[.pointer (some ⟨bb, 0, none⟩), .agg (Js.Op.arr t)] w fun e w' => e = .returned (.bool true) ∧ ∃ M1 M2 o', Hid (Dp.Like M1 M2) ∧ Js.Be W0 w' d r bb M1 M2 o' t.n := by
  obtain ⟨K, hK, T0, kx, hA⟩ := h.two.block_step (.cells (Js.Op.arr t) 36)
  obtain ⟨y0, hx⟩ : ∃ x, w.alloc (.cells (Js.Op.arr t) 36) = x := ⟨_, rfl⟩
  have PX0 : Blk y0 w.heap.size 36 (Js.Op.arr t) := by rw [← hx]; exact Blk.new _ _ _
  rw [hx] at T0 hA
  have PB0 : Blk y0 bb 31 #[.pointer (some ⟨d, 0, none⟩), .pointer (some ⟨r, 0, none⟩), Js.jp o, Js.rp o, .int .i64 N] := (hA.block _ h.blk.lt).trans h.blk
  have nx : w.heap.size ≠ bb := fun e => by have := h.blk.lt; omega
  have kb : K bb := hK _ (.inl rfl)
  obtain ⟨kd, on, om, ow, zq, zk, zi, c, b, dn, cv, cuts⟩ := t
  have hcf := hf.cuts.form
  simp only at hcf hkd ⊢
  obtain ⟨ca, cc, rfl⟩ := hcf
  subst hkd
  unfold Js.Op.arr at hx PX0 ⊢
  simp only at hx PX0 ⊢
  generalize cuts.length = cl at hx PX0 ⊢
  have f2 := PB0.frozen 2
  have f3 := PB0.frozen 3
  have f4 := PB0.frozen 4
  have g2 : y0.cell? ⟨bb, 2, none⟩ = some (Js.jp o) := PB0.cell 2
  have g3 : y0.cell? ⟨bb, 3, none⟩ = some (Js.rp o) := PB0.cell 3
  have g4 : y0.cell? ⟨bb, 4, none⟩ = some (.int .i64 N) := PB0.cell 4
  have x1 : y0.cell? ⟨w.heap.size, 1, none⟩ = some (.int .i64 on) := PX0.cell 1
  obtain ⟨nb, hnb, _, _⟩ := str_of (Jn.name on)
  obtain ⟨⟨m1, c1⟩, e1⟩ : ∃ z, Jl.createR m on om ow = z := ⟨_, rfl⟩
  obtain ⟨⟨m2, c2⟩, e2⟩ : ∃ z, Jl.createR m' on om ow = z := ⟨_, rfl⟩
  have hlk := Js.like_create hl on om ow
  rw [e1, e2] at hlk
  obtain ⟨hlk, hcc⟩ := hlk
  obtain rfl : c1 = c2 := hcc
  have HL : Hid (Dp.Like m1 m2) := Lib.hid hlk
  have ucc : (c1 == c1) = true := by simp
  have hage : m2.age = m1.age := hlk.age.symm
  obtain ⟨T1a, z1⟩ := Js.Be.two_only (p := ⟨bb, 2, none⟩) T0 kb (.pointer none)
  obtain ⟨T1b, z2⟩ := Js.Be.two_only (p := ⟨bb, 3, none⟩) T1a kb (.pointer none)
  obtain ⟨T1, z3⟩ := Js.Be.two_only (p := ⟨bb, 4, none⟩) T1b kb (.int .i64 on)
  have PB1 : Blk (((y0.setCell ⟨bb, 2, none⟩ (.pointer none)).setCell ⟨bb, 3, none⟩ (.pointer none)).setCell ⟨bb, 4, none⟩ (.int .i64 on)) bb 31 #[.pointer (some ⟨d, 0, none⟩), .pointer (some ⟨r, 0, none⟩), .pointer none, .pointer none, .int .i64 on] := ((PB0.set_ 2 (.pointer none)).set_ 3 (.pointer none)).set_ 4 (.int .i64 on)
  have PX1 : Blk (((y0.setCell ⟨bb, 2, none⟩ (.pointer none)).setCell ⟨bb, 3, none⟩ (.pointer none)).setCell ⟨bb, 4, none⟩ (.int .i64 on)) w.heap.size 36 #[.int .i64 1, .int .i64 on, .int .i64 om, .int .i64 ow, .int .i64 zq, .int .i64 zk, .int .i64 zi, .string c, .string b, .bool dn, .slice ca cl cc] := ((PX0.far (p := ⟨bb, 2, none⟩) nx _).far (p := ⟨bb, 3, none⟩) nx _).far (p := ⟨bb, 4, none⟩) nx _
  clear hf h hA hK hl hlk T1a T1b PB0 T0 z1 z2 z3
  go_enter Tryz.func6, Tryz.ntmps6
  go_upto_region 4 with fail
  generalize ((y0.setCell ⟨bb, 2, none⟩ (.pointer none)).setCell ⟨bb, 3, none⟩ (.pointer none)).setCell ⟨bb, 4, none⟩ (.int .i64 on) = y1 at T1 PB1 PX1 ⊢
  clear f2 f3 f4 g2 g3 g4 x1 PX0 hx y0
  have x0 : y1.cell? ⟨w.heap.size, 0, none⟩ = some (.int .i64 1) := PX1.cell 0
  go_upto_region 5 with fail
  have TD := T1.later (below_dn (Below.refl _ _) 1)
  rw [show y1.drewN 1 = y1.drew from rfl] at TD
  have PBD : Blk y1.drew bb 31 _ := PB1
  have PXD : Blk y1.drew w.heap.size 36 _ := PX1
  have SD : y1.drew.cell? ⟨bb, 0, none⟩ = some (.pointer (some ⟨d, 0, none⟩)) ∧ y1.drew.cell? ⟨w.heap.size, 1, none⟩ = some (.int .i64 on) ∧ y1.drew.cell? ⟨w.heap.size, 2, none⟩ = some (.int .i64 om) ∧ y1.drew.cell? ⟨w.heap.size, 3, none⟩ = some (.int .i64 ow) := ⟨PBD.cell 0, PXD.cell 1, PXD.cell 2, PXD.cell 3⟩
  clear T1 PB1 PX1 x0
  by_cases hc : c1 = 0
  rotate_left
  · have k1 := Js.create1_no TD hP on om ow e1 hc
    have k2 := fun {y : World} (T : Mt.Two W0.heap.size W0 y d m1 r m' K) => Js.create2_no T hP on om ow e2 hc
    clear e1 e2 hage hnb
    go_region_held3 (fun W' => W'.cell? ⟨bb, 0, none⟩ = some (.pointer (some ⟨d, 0, none⟩)) ∧ W'.cell? ⟨w.heap.size, 1, none⟩ = some (.int .i64 on) ∧ W'.cell? ⟨w.heap.size, 2, none⟩ = some (.int .i64 om) ∧ W'.cell? ⟨w.heap.size, 3, none⟩ = some (.int .i64 ow))
      (first
        | with_reducible assumption)
      (first
        | (go_at_call 21; refine k1.mono ?_; clear k1; rintro e y2 ⟨rfl, T2, q2⟩; have PB2 : Blk y2 bb 31 _ := (q2.2 _ kb).trans PBD; have PX2 : Blk y2 w.heap.size 36 _ := (q2.2 _ kx).trans PXD; have S2 : y2.cell? ⟨bb, 0, none⟩ = some (.pointer (some ⟨d, 0, none⟩)) ∧ y2.cell? ⟨w.heap.size, 1, none⟩ = some (.int .i64 on) ∧ y2.cell? ⟨w.heap.size, 2, none⟩ = some (.int .i64 om) ∧ y2.cell? ⟨w.heap.size, 3, none⟩ = some (.int .i64 ow) := ⟨PB2.cell 0, PX2.cell 1, PX2.cell 2, PX2.cell 3⟩))
    all_goals
      clear SD S2 TD PBD PXD
      go_upto_region 6 with fail
      have TE := T2.later (below_dn (Below.refl _ _) 1)
      rw [show y2.drewN 1 = y2.drew from rfl] at TE
      have PBE : Blk y2.drew bb 31 _ := PB2
      have PXE : Blk y2.drew w.heap.size 36 _ := PX2
      have SE : y2.drew.cell? ⟨bb, 1, none⟩ = some (.pointer (some ⟨r, 0, none⟩)) ∧ y2.drew.cell? ⟨w.heap.size, 1, none⟩ = some (.int .i64 on) ∧ y2.drew.cell? ⟨w.heap.size, 2, none⟩ = some (.int .i64 om) ∧ y2.drew.cell? ⟨w.heap.size, 3, none⟩ = some (.int .i64 ow) := ⟨PBE.cell 1, PXE.cell 1, PXE.cell 2, PXE.cell 3⟩
      have k3 := k2 TE
      clear T2 PB2 PX2 k2
      go_region_held3 (fun W' => W'.cell? ⟨bb, 1, none⟩ = some (.pointer (some ⟨r, 0, none⟩)) ∧ W'.cell? ⟨w.heap.size, 1, none⟩ = some (.int .i64 on) ∧ W'.cell? ⟨w.heap.size, 2, none⟩ = some (.int .i64 om) ∧ W'.cell? ⟨w.heap.size, 3, none⟩ = some (.int .i64 ow))
        (first
          | with_reducible assumption)
        (first
          | (go_at_call 22; refine k3.mono ?_; clear k3; rintro e y3 ⟨rfl, T3, q3⟩; have PB3 : Blk y3 bb 31 _ := (q3.2 _ kb).trans PBE; have PX3 : Blk y3 w.heap.size 36 _ := (q3.2 _ kx).trans PXE; have S3 : y3.cell? ⟨bb, 1, none⟩ = some (.pointer (some ⟨r, 0, none⟩)) ∧ y3.cell? ⟨w.heap.size, 1, none⟩ = some (.int .i64 on) ∧ y3.cell? ⟨w.heap.size, 2, none⟩ = some (.int .i64 om) ∧ y3.cell? ⟨w.heap.size, 3, none⟩ = some (.int .i64 ow) := ⟨PB3.cell 1, PX3.cell 1, PX3.cell 2, PX3.cell 3⟩))
      all_goals
        clear SE S3 TE PBE PXE
        have f2 := PB3.frozen 2
        have f3 := PB3.frozen 3
        have g2 : y3.cell? ⟨bb, 2, none⟩ = some (.pointer none) := PB3.cell 2
        have g3 : y3.cell? ⟨bb, 3, none⟩ = some (.pointer none) := PB3.cell 3
        obtain ⟨T4a, _⟩ := Js.Be.two_only (p := ⟨bb, 2, none⟩) T3 kb (.pointer none)
        obtain ⟨T4, _⟩ := Js.Be.two_only (p := ⟨bb, 3, none⟩) T4a kb (.pointer none)
        have PB4 : Blk ((y3.setCell ⟨bb, 2, none⟩ (.pointer none)).setCell ⟨bb, 3, none⟩ (.pointer none)) bb 31 #[.pointer (some ⟨d, 0, none⟩), .pointer (some ⟨r, 0, none⟩), .pointer none, .pointer none, .int .i64 on] := (PB3.set_ 2 (.pointer none)).set_ 3 (.pointer none)
        have fin := Js.Be.none_ (N := on) T4 kb PB4
        clear T3 T4a T4 PB4 PX3
        go_wp2_with (go_at_call 23; refine (Js.num_r _ _).mono ?_; rintro e w ⟨rfl, rfl⟩)
        go_ret
        exact ⟨rfl, _, _, none, HL, fin⟩
  · subst hc
    have hgo : Jn.goesE on om ow = 0 := by
      unfold Jl.createR at e1
      by_cases hg : Jn.goesE on om ow = 0
      · exact hg
      · rw [if_neg hg] at e1
        exact absurd (Prod.mk.inj e1).2 hg
    have hFi := Js.Fine.new hgo hnb m1.age false 0 (by decide)
    rw [show om + ((0 : Nat) : Int) = om by omega] at hFi
    have k1 := Js.create1_ok TD hP on om ow nb hnb e1
    have k2 := fun {y : World} {K : Nat → Prop} (T : Mt.Two W0.heap.size W0 y d m1 r m' K) => Js.create2_ok T hP on om ow nb hnb e2
    rw [hage] at k2
    have HF := Lib.hid hFi
    clear e1 e2 hage hnb hgo hFi
    go_region_held3 (fun W' => W'.cell? ⟨bb, 0, none⟩ = some (.pointer (some ⟨d, 0, none⟩)) ∧ W'.cell? ⟨w.heap.size, 1, none⟩ = some (.int .i64 on) ∧ W'.cell? ⟨w.heap.size, 2, none⟩ = some (.int .i64 om) ∧ W'.cell? ⟨w.heap.size, 3, none⟩ = some (.int .i64 ow))
      (first
        | with_reducible assumption)
      (first
        | (go_at_call 21; refine k1.mono ?_; clear k1; rintro e y2 ⟨N1, ⟨j, rfl, hj, bj, nj⟩, hN1, T2, q2⟩; have PB2 : Blk y2 bb 31 _ := (q2.2 _ kb).trans PBD; have PX2 : Blk y2 w.heap.size 36 _ := (q2.2 _ kx).trans PXD; have S2 : y2.cell? ⟨bb, 0, none⟩ = some (.pointer (some ⟨d, 0, none⟩)) ∧ y2.cell? ⟨w.heap.size, 1, none⟩ = some (.int .i64 on) ∧ y2.cell? ⟨w.heap.size, 2, none⟩ = some (.int .i64 om) ∧ y2.cell? ⟨w.heap.size, 3, none⟩ = some (.int .i64 ow) := ⟨PB2.cell 0, PX2.cell 1, PX2.cell 2, PX2.cell 3⟩))
    all_goals
      have n1 : bb ≠ j := fun e => by have := PBD.lt; omega
      clear SD S2 TD PBD PXD
      go_upto_region 6 with fail
      have TE := T2.later (below_dn (Below.refl _ _) 1)
      rw [show y2.drewN 1 = y2.drew from rfl] at TE
      have PBE : Blk y2.drew bb 31 _ := PB2
      have PXE : Blk y2.drew w.heap.size 36 _ := PX2
      have PJE : Blk y2.drew j 79 _ := bj
      have SE : y2.drew.cell? ⟨bb, 1, none⟩ = some (.pointer (some ⟨r, 0, none⟩)) ∧ y2.drew.cell? ⟨w.heap.size, 1, none⟩ = some (.int .i64 on) ∧ y2.drew.cell? ⟨w.heap.size, 2, none⟩ = some (.int .i64 om) ∧ y2.drew.cell? ⟨w.heap.size, 3, none⟩ = some (.int .i64 ow) := ⟨PBE.cell 1, PXE.cell 1, PXE.cell 2, PXE.cell 3⟩
      have k3 := k2 TE
      clear T2 PB2 PX2 k2 bj
      go_region_held3 (fun W' => W'.cell? ⟨bb, 1, none⟩ = some (.pointer (some ⟨r, 0, none⟩)) ∧ W'.cell? ⟨w.heap.size, 1, none⟩ = some (.int .i64 on) ∧ W'.cell? ⟨w.heap.size, 2, none⟩ = some (.int .i64 om) ∧ W'.cell? ⟨w.heap.size, 3, none⟩ = some (.int .i64 ow))
        (first
          | with_reducible assumption)
        (first
          | (go_at_call 22; refine k3.mono ?_; clear k3; rintro e y3 ⟨N2, ⟨rj, rfl, hrj, brj, nrj⟩, hN2, T3, q3⟩; have PB3 : Blk y3 bb 31 _ := (q3.2 _ (.inl kb)).trans PBE; have PX3 : Blk y3 w.heap.size 36 _ := (q3.2 _ (.inl kx)).trans PXE; have PJ3 : Blk y3 j 79 _ := (q3.2 _ (.inr nj)).trans PJE; have S3 : y3.cell? ⟨bb, 1, none⟩ = some (.pointer (some ⟨r, 0, none⟩)) ∧ y3.cell? ⟨w.heap.size, 1, none⟩ = some (.int .i64 on) ∧ y3.cell? ⟨w.heap.size, 2, none⟩ = some (.int .i64 om) ∧ y3.cell? ⟨w.heap.size, 3, none⟩ = some (.int .i64 ow) := ⟨PB3.cell 1, PX3.cell 1, PX3.cell 2, PX3.cell 3⟩))
      all_goals
        have n2 : bb ≠ rj := fun e => by have := PBE.lt; omega
        have n3 : j ≠ rj := fun e => by have := PJE.lt; omega
        clear SE S3 TE PBE PXE PJE
        have f2 := PB3.frozen 2
        have f3 := PB3.frozen 3
        have g2 : y3.cell? ⟨bb, 2, none⟩ = some (.pointer none) := PB3.cell 2
        have g3 : y3.cell? ⟨bb, 3, none⟩ = some (.pointer none) := PB3.cell 3
        obtain ⟨T4a, _⟩ := Js.Be.two_only (p := ⟨bb, 2, none⟩) T3 (.inl (.inl kb)) (.pointer (some ⟨j, 0, none⟩))
        obtain ⟨T4, _⟩ := Js.Be.two_only (p := ⟨bb, 3, none⟩) T4a (.inl (.inl kb)) (.pointer (some ⟨rj, 0, none⟩))
        have PB4 : Blk ((y3.setCell ⟨bb, 2, none⟩ (.pointer (some ⟨j, 0, none⟩))).setCell ⟨bb, 3, none⟩ (.pointer (some ⟨rj, 0, none⟩))) bb 31 #[.pointer (some ⟨d, 0, none⟩), .pointer (some ⟨r, 0, none⟩), .pointer (some ⟨j, 0, none⟩), .pointer (some ⟨rj, 0, none⟩), .int .i64 on] := (PB3.set_ 2 _).set_ 3 _
        have PJ4 := (PJ3.far (p := ⟨bb, 2, none⟩) n1.symm (.pointer (some ⟨j, 0, none⟩))).far (p := ⟨bb, 3, none⟩) n1.symm (.pointer (some ⟨rj, 0, none⟩))
        have PR4 := (brj.far (p := ⟨bb, 2, none⟩) n2.symm (.pointer (some ⟨j, 0, none⟩))).far (p := ⟨bb, 3, none⟩) n2.symm (.pointer (some ⟨rj, 0, none⟩))
        have fin := Js.Be.anew (N := on) (J := ⟨m1.age, false, nb, ow, om, om⟩) T4 (.inl (.inl kb)) (.inl (.inr nj)) (.inr nrj) PB4 PJ4 PR4 n1 n2 n3 HF.out
        clear T3 T4a T4 PB4 PX3 PJ4 PR4 PJ3 brj
        go_wp2_with (go_at_call 23; refine (Js.num_r _ _).mono ?_; rintro e w ⟨rfl, rfl⟩)
        go_ret
        exact ⟨rfl, _, _, _, HL, fin⟩
end
end Go.Proofs.YtifkhjihgnnpfaaGreatDoor
/- Open of both journals in one form; a row that was just made. Conditions: each theorem's own hypotheses. -/
namespace Go.Proofs.YtifkhjihgnnpfaaGreatDoor
open Go.RowKit
set_option linter.unusedVariables false

section
variable {B d r : Nat} {W0 W : World} {m m' : Dk.M} {K : Nat → Prop}
theorem Js.open1 (h : Mt.Two B W0 W d m r m' K) (hT : ∀ {w : World}, Below B W0 w → TabS w) (hP : ∀ {w : World}, Below B W0 w → PowT w) (n sq l : Int) (nb : ByteArray) (hnb : str (Jn.name n) = .string nb) {m1 : Dk.M} {us : List Jn.Upd} {c : Int} (e : Js.openR m n sq l = (m1, us, c)) :
    Calls Tryz.prog 24 #[.pointer (some ⟨d, 0, none⟩), .int .i64 n, .int .i64 sq, .int .i64 l] W fun e W' => ∃ (N : Nat → Prop) (po A : Option Addr) (cp : Nat), e = .returned (.tuple #[.pointer po, .slice A us.length cp, .int .i64 c]) ∧ Jl.Own W' W.heap.size (.slice A us.length cp) us ∧ (∀ k, (Value.slice A us.length cp).ownBlock = some k → N k) ∧ (∀ k, N k → W.heap.size ≤ k) ∧ Mt.Two B W0 W' d m1 r m' (fun k => K k ∨ N k) ∧ Jl.Kept K W W' ∧ (c ≠ 0 ∧ po = none ∨ c = 0 ∧ ∃ j, po = some ⟨j, 0, none⟩ ∧ N j ∧ Blk W' j 79 (Jl.jc d m1.age false nb l (sq + us.length) sq)) := by
  by_cases hc : c = 0
  · subst hc
    refine (Js.open1_ok h hT hP n sq l nb hnb e).mono ?_
    rintro e W' ⟨N, ⟨j, v, he, hj, hb, ho, nj, nv⟩, hN, T, hk⟩
    obtain ⟨A, cp, rfl⟩ := ho.form
    exact ⟨N, _, A, cp, he, ho, nv, hN, T, hk, .inr ⟨rfl, j, rfl, nj, hb⟩⟩
  · obtain ⟨rfl, h2⟩ := Js.open1_no h hT hP n sq l e hc
    refine h2.mono ?_
    rintro e W' ⟨he, T, hk⟩
    exact ⟨fun _ => False, none, none, 0, he, Jl.Own.nil _ _, (fun k e => by cases e), (fun k e => e.elim), T.sub fun k hk => hk.elim id fun e => e.elim, hk, .inl ⟨hc, rfl⟩⟩
theorem Js.open2 (h : Mt.Two B W0 W d m' r m K) (hP : ∀ {w : World}, Below B W0 w → PowT w) (n sq l : Int) (nb : ByteArray) (hnb : str (Jn.name n) = .string nb) {m1 : Dk.M} {us : List Jn.Upd} {c : Int} (e : Js.openR m n sq l = (m1, us, c)) :
    Calls Tryz.prog 25 #[.pointer (some ⟨r, 0, none⟩), .int .i64 n, .int .i64 sq, .int .i64 l] W fun e W' => ∃ (N : Nat → Prop) (po A : Option Addr) (cp : Nat), e = .returned (.tuple #[.pointer po, .slice A us.length cp, .int .i64 c]) ∧ Jl.Own W' W.heap.size (.slice A us.length cp) us ∧ (∀ k, (Value.slice A us.length cp).ownBlock = some k → N k) ∧ (∀ k, N k → W.heap.size ≤ k) ∧ Mt.Two B W0 W' d m' r m1 (fun k => K k ∨ N k) ∧ Jl.Kept K W W' ∧ (c ≠ 0 ∧ po = none ∨ c = 0 ∧ ∃ j, po = some ⟨j, 0, none⟩ ∧ N j ∧ Blk W' j 81 (Js.rc r ⟨m1.age, false, nb, l, sq + us.length, sq⟩ n)) := by
  by_cases hc : c = 0
  · subst hc
    refine (Js.open2_ok h hP n sq l nb hnb e).mono ?_
    rintro e W' ⟨N, ⟨j, v, he, hj, hb, ho, nj, nv⟩, hN, T, hk⟩
    obtain ⟨A, cp, rfl⟩ := ho.form
    exact ⟨N, _, A, cp, he, ho, nv, hN, T, hk, .inr ⟨rfl, j, rfl, nj, hb⟩⟩
  · obtain ⟨rfl, h2⟩ := Js.open2_no h hP n sq l e hc
    refine h2.mono ?_
    rintro e W' ⟨he, T, hk⟩
    exact ⟨fun _ => False, none, none, 0, he, Jl.Own.nil _ _, (fun k e => by cases e), (fun k e => e.elim), T.sub fun k hk => hk.elim id fun e => e.elim, hk, .inl ⟨hc, rfl⟩⟩
theorem Js.open_aside {d : Nat} {K : Nat → Prop} (S : Jl.Sit B W0 W d Js.m3 K) (hT : TabS W) (hP : PowT W) :
    Calls Tryz.prog 24 #[.pointer (some ⟨d, 0, none⟩), .int .i64 3, .int .i64 0, .int .i64 64] W fun e W' => (∃ j A c, e = .returned (.tuple #[.pointer (some ⟨j, 0, none⟩), .slice A 2 c, .int .i64 0]) ∧ Jl.Own W' W.heap.size (.slice A 2 c) [Js.u1, Js.u2]) ∧ Below W.heap.size W W' := by
  obtain ⟨nb, hnb, _, _⟩ := str_of (Jn.name 3)
  obtain ⟨⟨us, g, c⟩, hL⟩ : ∃ z, Jl.lookR Js.m3 3 0 64 = z := ⟨_, rfl⟩
  have h3 := Js.look3
  unfold Js.openR at h3
  simp only [hL] at h3
  by_cases h0 : c = 0
  rotate_left
  · rw [if_pos h0] at h3
    exact absurd (Prod.mk.inj (Prod.mk.inj h3).2).2 h0
  subst h0
  rw [if_neg (by simp)] at h3
  by_cases hg : g = (Dk.data Js.m3 (Jn.name 3)).length
  rotate_left
  · rw [if_neg hg] at h3
    have hd : (Dk.data Js.m3 (Jn.name 3)).length = (Jl.fb Js.u1 ++ Jl.fb Js.u2).length := by
      rw [Jn.name_three]
      show (Dk.data (Js.am _ _) _).length = _
      rw [(Js.am_one _ _).data_]
    have hw : (Dk.cut Js.m3 (Jn.name 3) g).1 = Js.m3 := by
      split at h3
      · exact (Prod.mk.inj h3).1
      · exact (Prod.mk.inj h3).1
    exfalso
    have hl2 := (Jn.look_len (Jl.lookR_zero hL).2.2).2
    rw [Jn.name_three] at hw hd hg hl2
    have hc1 := (Js.am_one (Jl.fb Js.u1 ++ Jl.fb Js.u2) 3).cut g (by omega)
    rw [show (Js.am (Jl.fb Js.u1 ++ Jl.fb Js.u2) 3) = Js.m3 from rfl] at hc1
    rw [hc1] at hw
    have h4 : IntKind.i64.wrap ((3 : Int) + 1) = 3 := congrArg Dk.M.writes hw
    exact absurd h4 (by decide)
  rw [if_pos hg] at h3
  obtain rfl : us = [Js.u1, Js.u2] := (Prod.mk.inj (Prod.mk.inj h3).2).1
  refine (Jl.open_whole S hT hP 3 0 64 hL hg nb hnb).mono ?_
  rintro e W' ⟨⟨j, v, he, hj, hb, ho⟩, hB⟩
  obtain ⟨A, cp, rfl⟩ := ho.form
  exact ⟨⟨j, A, cp, he, ho⟩, hB⟩
end
theorem Js.ne_row {w : World} {B j k : Nat} {t : TypeId} {cs : Array Value} {v : Value} {us : List Jn.Upd} (hb : Blk w j t cs) (ht : t ≠ 33) (ho : Jl.Own w B v us) (hk : v.ownBlock = some k) : k ≠ j := by
  rintro rfl
  rcases ho.2 with ⟨rfl, _⟩ | ⟨g, cap, cur, rfl, _, hg, _⟩
  · cases hk
  · obtain rfl : g = k := Option.some.inj hk
    unfold Blk at hb
    rw [hb] at hg
    injection hg with hg
    injection hg with _ h2
    exact ht h2
theorem Jl.Own.later_ {w w' : World} {B : Nat} {v : Value} {us : List Jn.Upd} (h : Jl.Own w B v us) (hB : Below w.heap.size w w') : Jl.Own w' B v us := h.keep fun k e => hB.block k (h.lt e).2
theorem Js.open_len {m m1 : Dk.M} {n sq l : Int} {us : List Jn.Upd} {c : Int} (hG : Dk.Good m) (h : Js.openR m n sq l = (m1, us, c)) : us.length ≤ 268435456 := by
  obtain ⟨⟨us0, g, c0⟩, hL⟩ : ∃ z, Jl.lookR m n sq l = z := ⟨_, rfl⟩
  have hl := Js.lookR_len hG hL
  unfold Js.openR at h
  simp only [hL] at h
  split at h
  · obtain ⟨_, h2⟩ := Prod.mk.inj h
    obtain ⟨rfl, _⟩ := Prod.mk.inj h2
    exact Nat.zero_le _
  split at h
  · obtain ⟨_, h2⟩ := Prod.mk.inj h
    obtain ⟨rfl, _⟩ := Prod.mk.inj h2
    exact hl
  split at h
  · obtain ⟨_, h2⟩ := Prod.mk.inj h
    obtain ⟨rfl, _⟩ := Prod.mk.inj h2
    exact hl
  · obtain ⟨_, h2⟩ := Prod.mk.inj h
    obtain ⟨rfl, _⟩ := Prod.mk.inj h2
    exact Nat.zero_le _
/-- The journals' blocks, when others have changed. -/
def Js.JJ (d r bb : Nat) (c : Int) (po pr : Option Addr) (v : Value) (K : Nat → Prop) (C D : Array Value) (w : World) : Prop :=
  c ≠ 0 ∧ po = none ∧ pr = none ∨ c = 0 ∧ ∃ j rj, po = some ⟨j, 0, none⟩ ∧ pr = some ⟨rj, 0, none⟩ ∧ K j ∧ K rj ∧ Blk w j 79 C ∧ Blk w rj 81 D ∧ bb ≠ j ∧ bb ≠ rj ∧ j ≠ rj ∧ ∀ k, v.ownBlock = some k → k ≠ j ∧ k ≠ rj
theorem Js.keepJ {d r bb : Nat} {c : Int} {po pr : Option Addr} {v : Value} {K : Nat → Prop} {C D : Array Value} {w w' : World} (hk : Jl.Kept K w w') (h : Js.JJ d r bb c po pr v K C D w) : Js.JJ d r bb c po pr v K C D w' := by
  rcases h with h | ⟨h1, j, rj, h2, h3, h4, h5, h6, h7, h8⟩
  · exact .inl h
  · exact .inr ⟨h1, j, rj, h2, h3, h4, h5, (hk.2 j h4).trans h6, (hk.2 rj h5).trans h7, h8⟩
theorem Js.JJ.to {d r bb : Nat} {c : Int} {po pr : Option Addr} {v : Value} {K K' : Nat → Prop} {C D : Array Value} {w : World} (h : Js.JJ d r bb c po pr v K C D w) (hk : ∀ k, K k → v.ownBlock ≠ some k → K' k) : Js.JJ d r bb c po pr v K' C D w := by
  rcases h with h | ⟨h1, j, rj, h2, h3, h4, h5, h6, h7, h8, h9, h10, h11⟩
  · exact .inl h
  · exact .inr ⟨h1, j, rj, h2, h3, hk j h4 fun e => (h11 j e).1 rfl, hk rj h5 fun e => (h11 rj e).2 rfl, h6, h7, h8, h9, h10, h11⟩
theorem Js.same2 {A A' : Option Addr} {c c' : Nat} {X : World} (h1 : Jl.Lie X A [Js.u1, Js.u2]) (h2 : Jl.Lie X A' [Js.u1, Js.u2]) :
    Calls Tryz.prog 27 #[.slice A 2 c, .slice A' 2 c'] X fun e w' => e = .returned (.bool true) ∧ Below X.heap.size X w' := Jl.same_true A A' c c' [Js.u1, Js.u2] X h1 h2 (by decide)
/-- A row of updates that stays. -/
structure Js.Rw (z : World) (K : Nat → Prop) (v : Value) (us : List Jn.Upd) : Prop where
  own : ∃ B, Jl.Own z B v us
  mem : ∀ k, v.ownBlock = some k → K k
theorem Js.Rw.kept {z z' : World} {K : Nat → Prop} {v : Value} {us : List Jn.Upd} (h : Js.Rw z K v us) (hk : Jl.Kept K z z') : Js.Rw z' K v us := by
  obtain ⟨B, ho⟩ := h.own
  exact ⟨⟨B, ho.kept hk h.mem⟩, h.mem⟩
theorem Js.Rw.later {z z' : World} {K : Nat → Prop} {v : Value} {us : List Jn.Upd} (h : Js.Rw z K v us) (hB : Below z.heap.size z z') : Js.Rw z' K v us := by
  obtain ⟨B, ho⟩ := h.own
  exact ⟨⟨B, ho.later_ hB⟩, h.mem⟩
theorem Js.Rw.to {z : World} {K K' : Nat → Prop} {v : Value} {us : List Jn.Upd} (h : Js.Rw z K v us) (hs : ∀ k, v.ownBlock = some k → K' k) : Js.Rw z K' v us := ⟨h.own, hs⟩
theorem Js.Rw.lie {z : World} {K : Nat → Prop} {A : Option Addr} {n c : Nat} {us : List Jn.Upd} (h : Js.Rw z K (.slice A n c) us) : Jl.Lie z A us := by
  obtain ⟨B, ho⟩ := h.own
  exact ho.lie
end Go.Proofs.YtifkhjihgnnpfaaGreatDoor
