/- The walk of the law ManifestDecode. Conditions: each theorem's own hypotheses. -/
import Derived.Test.YtffdplmnjlcmnaaDoorMdH
namespace Go.Proofs.YtffdplmnjlcmnaaDoor
open Go.RowKit Go.Maps
set_option linter.unusedVariables false

set_option maxRecDepth 100000 in
set_option maxHeartbeats 4000000 in
theorem decode_law (s : ByteArray) (hs : s.size ≤ 140737488355328) (w : World) (hT : TabS w) :
    Calls Tryd.prog 6 #[.string s] w fun e w' => e = .returned (.bool true) ∧ Below w.heap.size w w' := by
  obtain ⟨i0, hi, hz0, hz1, hz2⟩ := info_parts infoRun
  obtain ⟨D, hD⟩ : ∃ D, Mf.decode s.data.toList = D := ⟨_, rfl⟩
  have hlen : D.man.runs.length ≤ 24 := by rw [← hD]; exact Mf.decode_len _
  obtain ⟨N, hN⟩ : ∃ N, Mf.oth = N := ⟨_, rfl⟩
  have hlN : N.runs.length ≤ 24 := by rw [← hN]; decide
  have hdec : ∀ W, TabS W → Calls Tryd.prog 26 #[.string s] W fun e w' => (∃ A cap, e = .returned (.tuple #[.agg #[.int .i64 D.man.w, .int .i64 D.man.c, .int .i64 D.man.m, .int .i64 D.man.seq, .int .i64 D.man.next, .int .i64 D.man.jr, .slice A D.man.runs.length cap], .int .i64 D.code]) ∧ Runs w' W.heap.size A cap D.man.runs) ∧ Below W.heap.size W w' := fun W hT =>
    decode_any s D W (by omega) hT hD
  have href : ∀ W, Calls Tryd.prog 27 #[.string s] W fun e w' => (∃ A cap, e = .returned (.tuple #[.agg #[.int .i64 D.man.w, .int .i64 D.man.c, .int .i64 D.man.m, .int .i64 D.man.seq, .int .i64 D.man.next, .int .i64 D.man.jr, .slice A D.man.runs.length cap], .int .i64 D.code]) ∧ Runs w' W.heap.size A cap D.man.runs) ∧ Below W.heap.size W w' := fun W =>
    refDecode_any s D W (by omega) hD
  have hoth : ∀ W, Calls Tryd.prog 25 #[] W fun e w' => (∃ (S : ByteArray) (A : Option Addr) (cap : Nat), e = .returned (.tuple #[.string S, .agg #[.int .i64 N.w, .int .i64 N.c, .int .i64 N.m, .int .i64 N.seq, .int .i64 N.next, .int .i64 N.jr, .slice A N.runs.length cap]]) ∧ S.data.toList = Sl.frame 3 (Mf.body N) ∧ S.size ≤ 1044 ∧ Rs w' w'.heap.size A N.runs) ∧ Below W.heap.size W w' := fun W => by
    rw [← hN]; exact other_any W
  have hdn : Mf.decode (Sl.frame 3 (Mf.body N)) = ⟨0, N⟩ := by
    rw [← hN]
    exact Mf.decode_frame Mf.oth_check (by have := Mf.body_len (Mf.good Mf.oth_check); omega)
  have HDEC := Lib.hid hdec
  have HREF := Lib.hid href
  have HOTH := Lib.hid hoth
  have HT := Lib.hid hT
  have HDN := Lib.hid hdn
  have hN0 : 0 < N.runs.length := by rw [← hN]; decide
  have hlM : D.man.runs.length ≤ 4398046511104 := by omega
  have hlM2 : N.runs.length ≤ 4398046511104 := by omega
  clear hdec href hoth hT hD hN hdn hs
  go_enter Tryd.func6, Tryd.ntmps6
  go_wp2_with fail
  refine (HOTH.out w).mono ?_
  rintro e w1 ⟨⟨S, An, cn, rfl, hSd, hSl, hrn⟩, hB1⟩
  have L1 : Sit (w1.alloc (.cells (manCells N An cn) 26)) [⟨w1.heap.size, N, An, cn⟩] := (Sit.nil w1).add (Below.refl _ _) N An cn hrn
  have B1 : Below w.heap.size w (w1.alloc (.cells (manCells N An cn) 26)) := hB1.alloc hB1.size _
  have hdeo : ∀ W, TabS W → Calls Tryd.prog 26 #[.string S] W fun e w' => (∃ A cap, e = .returned (.tuple #[.agg #[.int .i64 N.w, .int .i64 N.c, .int .i64 N.m, .int .i64 N.seq, .int .i64 N.next, .int .i64 N.jr, .slice A N.runs.length cap], .int .i64 (0 : Nat)]) ∧ Runs w' W.heap.size A cap N.runs) ∧ Below W.heap.size W w' := fun W hT =>
    decode_any S ⟨0, N⟩ W (by omega) hT (by rw [hSd]; exact HDN.out)
  have HDEO := Lib.hid hdeo
  have HB1 := Lib.hid hB1
  have HRN := Lib.hid hrn
  clear hdeo hSd hB1 hrn
  go_wp2_with fail
  refine (HDEC.out _ (HT.out.below B1)).mono ?_
  rintro e w2 ⟨⟨Am, cm, rfl, hrm⟩, hB2⟩
  have L2 := L1.add hB2 D.man Am cm hrm.rs
  have B2 : Below w.heap.size w (w2.alloc (.cells (manCells D.man Am cm) 26)) := (B1.trans (hB2.mono B1.size)).alloc (Nat.le_trans B1.size hB2.size) _
  have HB2 := Lib.hid hB2
  have HRm := Lib.hid hrm
  clear L1 B1 hB2 hrm
  go_wp2_with fail
  refine (HDEC.out _ (HT.out.below B2)).mono ?_
  rintro e w3 ⟨⟨Ac, cc, rfl, hrc⟩, hB3⟩
  have L3 := L2.add hB3 D.man Ac cc hrc.rs
  have B3 : Below w.heap.size w (w3.alloc (.cells (manCells D.man Ac cc) 26)) := (B2.trans (hB3.mono B2.size)).alloc (Nat.le_trans B2.size hB3.size) _
  have HB3 := Lib.hid hB3
  have HRc := Lib.hid hrc
  clear L2 B2 hB3 hrc
  go_wp2_with fail
  refine (HDEO.out _ (HT.out.below B3)).mono ?_
  rintro e w4 ⟨⟨Ao, co, rfl, hro⟩, hB4⟩
  have L4 := L3.add hB4 N Ao co hro.rs
  have B4 : Below w.heap.size w (w4.alloc (.cells (manCells N Ao co) 26)) := (B3.trans (hB4.mono B3.size)).alloc (Nat.le_trans B3.size hB4.size) _
  have HB4 := Lib.hid hB4
  have HRo := Lib.hid hro
  clear L3 B3 hB4 hro
  go_wp2_with fail
  refine (HDEO.out _ (HT.out.below B4)).mono ?_
  rintro e w5 ⟨⟨Ap, cp, rfl, hrp⟩, hB5⟩
  have L5 := L4.add hB5 N Ap cp hrp.rs
  have B5 : Below w.heap.size w (w5.alloc (.cells (manCells N Ap cp) 26)) := (B4.trans (hB5.mono B4.size)).alloc (Nat.le_trans B4.size hB5.size) _
  have HB5 := Lib.hid hB5
  have HRp := Lib.hid hrp
  clear L4 B4 hB5 hrp
  go_wp2_with fail
  refine (HDEC.out _ (HT.out.below B5)).mono ?_
  rintro e w6 ⟨⟨Az, cz, rfl, hrz⟩, hB6⟩
  have L6 := L5.add hB6 D.man Az cz hrz.rs
  have B6 : Below w.heap.size w (w6.alloc (.cells (manCells D.man Az cz) 26)) := (B5.trans (hB6.mono B5.size)).alloc (Nat.le_trans B5.size hB6.size) _
  have HB6 := Lib.hid hB6
  have HRz := Lib.hid hrz
  clear L5 B5 hB6 hrz
  go_wp2_with fail
  refine (HREF.out _).mono ?_
  rintro e w7 ⟨⟨Ak, ck, rfl, hrk⟩, hB7⟩
  have L7 := L6.add hB7 D.man Ak ck hrk.rs
  have B7 : Below w.heap.size w (w7.alloc (.cells (manCells D.man Ak ck) 26)) := (B6.trans (hB7.mono B6.size)).alloc (Nat.le_trans B6.size hB7.size) _
  have HB7 := Lib.hid hB7
  have HRk := Lib.hid hrk
  clear L6 B6 hB7 hrk
  go_upto_region 8 with fail
  obtain ⟨X7, hX7⟩ : ∃ X7, w7.alloc (.cells #[.int .i64 D.man.w, .int .i64 D.man.c, .int .i64 D.man.m, .int .i64 D.man.seq, .int .i64 D.man.next, .int .i64 D.man.jr, .slice Ak D.man.runs.length ck] 26) = X7 := ⟨_, rfl⟩
  replace L7 : Sit X7 [⟨w7.heap.size, D.man, Ak, ck⟩, ⟨w6.heap.size, D.man, Az, cz⟩, ⟨w5.heap.size, N, Ap, cp⟩, ⟨w4.heap.size, N, Ao, co⟩, ⟨w3.heap.size, D.man, Ac, cc⟩, ⟨w2.heap.size, D.man, Am, cm⟩, ⟨w1.heap.size, N, An, cn⟩] := by rw [← hX7]; exact L7
  replace B7 : Below w.heap.size w X7 := by rw [← hX7]; exact B7
  rw [hX7]
  have HX7 := Lib.hid hX7
  clear hX7
  obtain ⟨s0, s1, s2, s3, s4, s5, s6⟩ := L7.seven (b := w2.heap.size) (M := D.man) (A := Am) (cap := cm) (by simp)
  obtain ⟨t0, t1, t2, t3, t4, t5, t6⟩ := L7.seven (b := w7.heap.size) (M := D.man) (A := Ak) (cap := ck) (by simp)
  go_wp2_with fail
  refine (same_any D.man Am Ak cm ck _ (L7.rs (b := w2.heap.size) (cap := cm) (by simp)) (L7.rs (b := w7.heap.size) (cap := ck) (by simp)) hlM).mono ?_
  rintro e w8 ⟨rfl, hB8⟩
  have L8 := L7.later hB8
  have B8 : Below w.heap.size w w8 := B7.trans (hB8.mono B7.size)
  have HB8 := Lib.hid hB8
  clear s0 s1 s2 s3 s4 s5 s6 t0 t1 t2 t3 t4 t5 t6 L7 B7 hB8
  obtain ⟨s0, s1, s2, s3, s4, s5, s6⟩ := L8.seven (b := w3.heap.size) (M := D.man) (A := Ac) (cap := cc) (by simp)
  obtain ⟨t0, t1, t2, t3, t4, t5, t6⟩ := L8.seven (b := w7.heap.size) (M := D.man) (A := Ak) (cap := ck) (by simp)
  go_wp2_with fail
  refine (same_any D.man Ac Ak cc ck _ (L8.rs (b := w3.heap.size) (cap := cc) (by simp)) (L8.rs (b := w7.heap.size) (cap := ck) (by simp)) hlM).mono ?_
  rintro e w9 ⟨rfl, hB9⟩
  have L9 := L8.later hB9
  have B9 : Below w.heap.size w w9 := B8.trans (hB9.mono B8.size)
  have HB9 := Lib.hid hB9
  clear s0 s1 s2 s3 s4 s5 s6 t0 t1 t2 t3 t4 t5 t6 L8 B8 hB9
  obtain ⟨s0, s1, s2, s3, s4, s5, s6⟩ := L9.seven (b := w4.heap.size) (M := N) (A := Ao) (cap := co) (by simp)
  obtain ⟨t0, t1, t2, t3, t4, t5, t6⟩ := L9.seven (b := w1.heap.size) (M := N) (A := An) (cap := cn) (by simp)
  go_wp2_with fail
  refine (same_any N Ao An co cn _ (L9.rs (b := w4.heap.size) (cap := co) (by simp)) (L9.rs (b := w1.heap.size) (cap := cn) (by simp)) hlM2).mono ?_
  rintro e w10 ⟨rfl, hB10⟩
  have L10 := L9.later hB10
  have B10 : Below w.heap.size w w10 := B9.trans (hB10.mono B9.size)
  have HB10 := Lib.hid hB10
  clear s0 s1 s2 s3 s4 s5 s6 t0 t1 t2 t3 t4 t5 t6 L9 B9 hB10
  obtain ⟨s0, s1, s2, s3, s4, s5, s6⟩ := L10.seven (b := w5.heap.size) (M := N) (A := Ap) (cap := cp) (by simp)
  obtain ⟨t0, t1, t2, t3, t4, t5, t6⟩ := L10.seven (b := w1.heap.size) (M := N) (A := An) (cap := cn) (by simp)
  go_wp2_with fail
  refine (same_any N Ap An cp cn _ (L10.rs (b := w5.heap.size) (cap := cp) (by simp)) (L10.rs (b := w1.heap.size) (cap := cn) (by simp)) hlM2).mono ?_
  rintro e w11 ⟨rfl, hB11⟩
  have L11 := L10.later hB11
  have B11 : Below w.heap.size w w11 := B10.trans (hB11.mono B10.size)
  have HB11 := Lib.hid hB11
  clear s0 s1 s2 s3 s4 s5 s6 t0 t1 t2 t3 t4 t5 t6 L10 B10 hB11
  obtain ⟨s0, s1, s2, s3, s4, s5, s6⟩ := L11.seven (b := w6.heap.size) (M := D.man) (A := Az) (cap := cz) (by simp)
  obtain ⟨t0, t1, t2, t3, t4, t5, t6⟩ := L11.seven (b := w7.heap.size) (M := D.man) (A := Ak) (cap := ck) (by simp)
  go_wp2_with fail
  refine (same_any D.man Az Ak cz ck _ (L11.rs (b := w6.heap.size) (cap := cz) (by simp)) (L11.rs (b := w7.heap.size) (cap := ck) (by simp)) hlM).mono ?_
  rintro e w12 ⟨rfl, hB12⟩
  have L12 := L11.later hB12
  have B12 : Below w.heap.size w w12 := B11.trans (hB12.mono B11.size)
  have HB12 := Lib.hid hB12
  clear s0 s1 s2 s3 s4 s5 s6 t0 t1 t2 t3 t4 t5 t6 L11 B11 hB12
  go_wp2_with fail
  have y1 : w.heap.size ≤ w1.heap.size := HB1.out.size
  have y2 : w1.heap.size + 1 ≤ w2.heap.size := by have := HB2.out.size; rwa [World.size_alloc] at this
  have y3 : w2.heap.size + 1 ≤ w3.heap.size := by have := HB3.out.size; rwa [World.size_alloc] at this
  have y4 : w3.heap.size + 1 ≤ w4.heap.size := by have := HB4.out.size; rwa [World.size_alloc] at this
  have y5 : w4.heap.size + 1 ≤ w5.heap.size := by have := HB5.out.size; rwa [World.size_alloc] at this
  have y6 : w5.heap.size + 1 ≤ w6.heap.size := by have := HB6.out.size; rwa [World.size_alloc] at this
  have y7 : w6.heap.size + 1 ≤ w7.heap.size := by have := HB7.out.size; rwa [World.size_alloc] at this
  have y8 : w7.heap.size + 1 ≤ w12.heap.size := by
    have e1 : X7.heap.size = w7.heap.size + 1 := by rw [← HX7.out, World.size_alloc]
    have := HB8.out.size
    have := HB9.out.size
    have := HB10.out.size
    have := HB11.out.size
    have := HB12.out.size
    omega
  have C2 : Below w2.heap.size w2 (w2.alloc (.cells (manCells D.man Am cm) 26)) := (Below.refl _ _).alloc (Nat.le_refl _) _
  have C3 : Below w2.heap.size w2 (w3.alloc (.cells (manCells D.man Ac cc) 26)) := (C2.trans (HB3.out.mono C2.size)).alloc (Nat.le_trans C2.size HB3.out.size) _
  have C4 : Below w2.heap.size w2 (w4.alloc (.cells (manCells N Ao co) 26)) := (C3.trans (HB4.out.mono C3.size)).alloc (Nat.le_trans C3.size HB4.out.size) _
  have C5 : Below w2.heap.size w2 (w5.alloc (.cells (manCells N Ap cp) 26)) := (C4.trans (HB5.out.mono C4.size)).alloc (Nat.le_trans C4.size HB5.out.size) _
  have C6 : Below w2.heap.size w2 (w6.alloc (.cells (manCells D.man Az cz) 26)) := (C5.trans (HB6.out.mono C5.size)).alloc (Nat.le_trans C5.size HB6.out.size) _
  have C7 : Below w2.heap.size w2 (w7.alloc (.cells (manCells D.man Ak ck) 26)) := (C6.trans (HB7.out.mono C6.size)).alloc (Nat.le_trans C6.size HB7.out.size) _
  replace C7 : Below w2.heap.size w2 X7 := by rw [← HX7.out]; exact C7
  have C12 : Below w2.heap.size w2 w12 := ((((C7.trans (HB8.out.mono C7.size)).trans (HB9.out.mono (Nat.le_trans C7.size HB8.out.size))).trans (HB10.out.mono (Nat.le_trans (Nat.le_trans C7.size HB8.out.size) HB9.out.size))).trans (HB11.out.mono (Nat.le_trans (Nat.le_trans (Nat.le_trans C7.size HB8.out.size) HB9.out.size) HB10.out.size))).trans (HB12.out.mono (Nat.le_trans (Nat.le_trans (Nat.le_trans (Nat.le_trans C7.size HB8.out.size) HB9.out.size) HB10.out.size) HB11.out.size))
  obtain ⟨top, htop⟩ : ∃ top, w12.heap.size = top := ⟨_, rfl⟩
  obtain ⟨len, hle⟩ : ∃ len, D.man.runs.length = len := ⟨_, rfl⟩
  have hmo : Own4 w12 (w1.heap.size + 1) w2.heap.size top len (.slice Am len cm) := by
    have h1 := HRm.out.own4 top
    rw [World.size_alloc, hle] at h1
    exact h1.keep fun k _ hk => C12.block k hk
  have hmb : Blk w12 w2.heap.size 26 (manCells D.man Am cm) := (L12 ⟨w2.heap.size, D.man, Am, cm⟩ (by simp)).1
  have L6 : Sit w12 [⟨w7.heap.size, D.man, Ak, ck⟩, ⟨w6.heap.size, D.man, Az, cz⟩, ⟨w5.heap.size, N, Ap, cp⟩, ⟨w4.heap.size, N, Ao, co⟩, ⟨w3.heap.size, D.man, Ac, cc⟩, ⟨w1.heap.size, N, An, cn⟩] := fun x hx => L12 x (by
    simp only [List.mem_cons, List.not_mem_nil, or_false] at hx ⊢
    rcases hx with h | h | h | h | h | h <;> simp [h])
  have hfar : ∀ x ∈ ([⟨w7.heap.size, D.man, Ak, ck⟩, ⟨w6.heap.size, D.man, Az, cz⟩, ⟨w5.heap.size, N, Ap, cp⟩, ⟨w4.heap.size, N, Ao, co⟩, ⟨w3.heap.size, D.man, Ac, cc⟩, ⟨w1.heap.size, N, An, cn⟩] : List It), Far (w1.heap.size + 1) w2.heap.size top x := by
    intro x hx
    simp only [List.mem_cons, List.not_mem_nil, or_false] at hx
    have fk := HRk.out
    have fz := HRz.out
    have fp := HRp.out
    have fo := HRo.out
    have fc := HRc.out
    rw [World.size_alloc] at fk fz fp fo fc
    rcases hx with rfl | rfl | rfl | rfl | rfl | rfl
    · exact fk.far (by omega) (by omega) (by omega) (by omega)
    · exact fz.far (by omega) (by omega) (by omega) (by omega)
    · exact fp.far (by omega) (by omega) (by omega) (by omega)
    · exact fo.far (by omega) (by omega) (by omega) (by omega)
    · exact fc.far (by omega) (by omega) (by omega) (by omega)
    · refine ⟨Or.inl (by show w1.heap.size < _; omega), by show w1.heap.size < _; omega, fun g off e => ?_⟩
      obtain ⟨b, off', hA, hb, _⟩ := HRN.out hN0
      have e' : An = some ⟨g, off, none⟩ := e
      rw [hA] at e'
      injection e' with e'
      injection e' with e1 _ _
      subst e1
      exact ⟨Or.inl (by omega), by omega⟩
  have HFAR := Lib.hid hfar
  have HLE := Lib.hid hle
  have hlen2 : len ≤ 24 := by omega
  have htp : w2.heap.size < top := by omega
  have hlw : w.heap.size ≤ w1.heap.size := y1
  have hlh : w1.heap.size + 1 ≤ w2.heap.size := y2
  have HTOP := Lib.hid htop
  clear y1 y2 y3 y4 y5 y6 y7 y8 C2 C3 C4 C5 C6 C7 C12 hfar L12 hle htop
  go_loopw [18] (fun i wr => ∃ k : Nat, k ≤ len ∧ i = .int .i64 k ∧ Blk wr w2.heap.size 26 (manCells D.man Am cm) ∧ Own4 wr (w1.heap.size + 1) w2.heap.size top len (.slice Am len cm) ∧ Sit wr [⟨w7.heap.size, D.man, Ak, ck⟩, ⟨w6.heap.size, D.man, Az, cz⟩, ⟨w5.heap.size, N, Ap, cp⟩, ⟨w4.heap.size, N, Ao, co⟩, ⟨w3.heap.size, D.man, Ac, cc⟩, ⟨w1.heap.size, N, An, cn⟩] ∧ Below w.heap.size w wr ∧ top ≤ wr.heap.size) (fun i _ => len - (intOf i).toNat)
  case atStart => exact ⟨0, Nat.zero_le _, rfl, hmb, hmo, L6, B12, Nat.le_of_eq HTOP.out.symm⟩
  case round =>
    obtain ⟨k, hk, rfl, hb, ho, hL, hB, hZ⟩ := hrel
    clear hmb hmo L6 B12
    have c6 : wr.cell? ⟨w2.heap.size, 6, none⟩ = some (.slice Am len cm) := by rw [← HLE.out]; exact hb.cell 6
    by_cases hlt : k < len
    · obtain ⟨g, cur, rfl, hg, hgb, hgl, hg1, hg2, hg3⟩ := ho.open_ (by omega)
      have cell : ∀ j, j < cm * 4 → ∃ u, wr.cell? ⟨g, j, none⟩ = some u := fun j hj => ⟨cur[j]'(by omega), (hgb.cell j).trans (Array.getElem?_eq_getElem (by omega))⟩
      obtain ⟨u0, e0⟩ := cell (k * 4) (by omega)
      obtain ⟨u1, e1⟩ := cell (k * 4 + 1) (by omega)
      obtain ⟨u2, e2⟩ := cell (k * 4 + 2) (by omega)
      obtain ⟨u3, e3⟩ := cell (k * 4 + 3) (by omega)
      have f0 := hgb.frozen (k * 4)
      have f1 := hgb.frozen (k * 4 + 1)
      have f2 := hgb.frozen (k * 4 + 2)
      have f3 := hgb.frozen (k * 4 + 3)
      have hgm : w2.heap.size ≠ g := by unfold Mine at hg; omega
      clear cell
      have HG := Lib.hid hg
      have HG3 := Lib.hid hg3
      clear hg hg3
      go_wp2_with fail
      go_roundw
      case rel =>
        refine ⟨k + 1, by omega, by go_num, (((hb.far (p := ⟨g, _, none⟩) hgm _).far (p := ⟨g, _, none⟩) hgm _).far (p := ⟨g, _, none⟩) hgm _).far (p := ⟨g, _, none⟩) hgm _, Own4.shut HG.out ((((hgb.set_ _ _).set_ _ _).set_ _ _).set_ _ _) hgl hg1 hg2 (by simp [HG3.out]), ?_, ?_, by simp; exact hZ⟩
        · exact (((hL.set_ HFAR.out ⟨g, _, none⟩ _ HG.out).set_ HFAR.out ⟨g, _, none⟩ _ HG.out).set_ HFAR.out ⟨g, _, none⟩ _ HG.out).set_ HFAR.out ⟨g, _, none⟩ _ HG.out
        · have hwg : w.heap.size ≤ g := by omega
          exact (((hB.setCell (p := ⟨g, _, none⟩) hwg _).setCell (p := ⟨g, _, none⟩) hwg _).setCell (p := ⟨g, _, none⟩) hwg _).setCell (p := ⟨g, _, none⟩) hwg _
      case measure => simp [intOf]; omega
    · obtain rfl : k = len := by omega
      obtain ⟨⟨xs, hown⟩, hmine⟩ := ho
      have hap1 : k + 1 ≤ maxLen := by unfold maxLen; omega
      have hap2 : (k + 1) * 32 ≤ 140737488355328 := by omega
      have hap3 : w1.heap.size + 1 ≤ (wr.alloc (.cells #[.int .i64 (-2), .int .i64 0, .int .i64 0, .int .i64 0] 38)).heap.size := by rw [World.size_alloc]; omega
      have hZ2 : top ≤ (wr.alloc (.cells #[.int .i64 (-2), .int .i64 0, .int .i64 0, .int .i64 0] 38)).heap.size := by rw [World.size_alloc]; omega
      go_wp2_with (at_builtin; refine wpList_append_lies (hs := ?e1) (hx := ?e2) (hown := World.ownsRow.alloc hown _) (hnews := run_cells wr ⟨-2, 0, 0, 0⟩) _ rfl (.tmp 94) (.tmp 96) 24 ?e0 (w1.heap.size + 1) 38 i0 (.agg #[.int .i64 0, .int .i64 0, .int .i64 0, .int .i64 0]) 4 32 Tryd.underlying24 hi hz0 hz1 hz2 ?e3 (by decide) (.slice Am k cm) k xs ⟨wr.heap.size, 0, none⟩ 1 1 (cellsOf [⟨-2, 0, 0, 0⟩]) ?e4 (cellsOf_one _) (by decide) hap1 hap2 hap3 _ rfl ?_)
      case e0 => rfl
      case e3 => rfl
      case e4 => rfl
      case e1 => simp [Act.eval]
      case e2 => simp [Act.eval]
      intro g2 cap2 x1 hown1 hgrow1 hat1 _
      have hm1 : Own4 x1 (w1.heap.size + 1) w2.heap.size top (k + 1) (.slice (some ⟨g2, 0, none⟩) (k + 1) cap2) := ⟨⟨_, hown1⟩, fun g' e => by
        injection e with e
        subst e
        rcases hat1 with h | h
        · exact hmine _ h
        · exact Or.inr (by rw [World.size_alloc] at hZ2; show top ≤ _; rw [h]; exact hZ2)⟩
      have hL1 : Sit x1 [⟨w7.heap.size, D.man, Ak, ck⟩, ⟨w6.heap.size, D.man, Az, cz⟩, ⟨w5.heap.size, N, Ap, cp⟩, ⟨w4.heap.size, N, Ao, co⟩, ⟨w3.heap.size, D.man, Ac, cc⟩, ⟨w1.heap.size, N, An, cn⟩] := (hL.later ((Below.refl _ _).alloc (Nat.le_refl _) _)).grown HFAR.out hgrow1 fun g' e => hmine g' e
      have hlo : ∀ g', Mine (w1.heap.size + 1) w2.heap.size top g' → w.heap.size ≤ g' := fun g' h => by unfold Mine at h; omega
      have hBx : Below w.heap.size w x1 := (hB.alloc hB.size _).grown hgrow1 (by have := hB.size; simp; omega) fun g' e => hlo g' (hmine g' e)
      have hZx : top ≤ x1.heap.size := Nat.le_trans hZ2 hgrow1.size
      have HLO := Lib.hid hlo
      clear hown hmine hown1 hgrow1 hat1 hL hB hZ hZ2 hap1 hap2 hap3 c6 hb hlo
      go_wp2_with fail
      go_loopw [19, 20] (fun v i wr => ∃ (j g cap nl : Nat), i = .int .i64 j ∧ j ≤ 64 ∧ nl = k + 1 + j ∧ v = .slice (some ⟨g, 0, none⟩) nl cap ∧ Own4 wr (w1.heap.size + 1) w2.heap.size top nl (.slice (some ⟨g, 0, none⟩) nl cap) ∧ Sit wr [⟨w7.heap.size, D.man, Ak, ck⟩, ⟨w6.heap.size, D.man, Az, cz⟩, ⟨w5.heap.size, N, Ap, cp⟩, ⟨w4.heap.size, N, Ao, co⟩, ⟨w3.heap.size, D.man, Ac, cc⟩, ⟨w1.heap.size, N, An, cn⟩] ∧ Below w.heap.size w wr ∧ top ≤ wr.heap.size) (fun _ i _ => 64 - (intOf i).toNat)
      case atStart => exact ⟨0, g2, cap2, k + 1, rfl, Nat.zero_le _, rfl, rfl, hm1, hL1, hBx, hZx⟩
      case round =>
        clear hm1 hL1 hBx hZx
        obtain ⟨j, g, cap, nl, rfl, hj, hnl, rfl, ho, hL, hB, hZ⟩ := hrel
        by_cases hjl : j < 64
        · obtain ⟨⟨ys, hown⟩, hmine⟩ := ho
          have hap1 : nl + 1 ≤ maxLen := by unfold maxLen; omega
          have hap2 : (nl + 1) * 32 ≤ 140737488355328 := by omega
          have hap3 : w1.heap.size + 1 ≤ (wr.alloc (.cells #[.int .i64 (-2), .int .i64 0, .int .i64 0, .int .i64 0] 38)).heap.size := by rw [World.size_alloc]; omega
          have hZ2 : top ≤ (wr.alloc (.cells #[.int .i64 (-2), .int .i64 0, .int .i64 0, .int .i64 0] 38)).heap.size := by rw [World.size_alloc]; omega
          have HNL := Lib.hid hnl
          clear hnl
          go_wp2_with (at_builtin; refine wpList_append_lies (hs := ?e1) (hx := ?e2) (hown := World.ownsRow.alloc hown _) (hnews := run_cells wr ⟨-2, 0, 0, 0⟩) _ rfl (.tmp 102) (.tmp 104) 24 ?e0 (w1.heap.size + 1) 38 i0 (.agg #[.int .i64 0, .int .i64 0, .int .i64 0, .int .i64 0]) 4 32 Tryd.underlying24 hi hz0 hz1 hz2 ?e3 (by decide) (.slice (some ⟨g, 0, none⟩) nl cap) nl ys ⟨wr.heap.size, 0, none⟩ 1 1 (cellsOf [⟨-2, 0, 0, 0⟩]) ?e4 (cellsOf_one _) (by decide) hap1 hap2 hap3 _ rfl ?_)
          case e0 => rfl
          case e3 => rfl
          case e4 => rfl
          case e1 => simp [Act.eval]
          case e2 => simp [Act.eval]
          intro g3 cap3 x2 hown2 hgrow2 hat2 _
          have hm2 : Own4 x2 (w1.heap.size + 1) w2.heap.size top (nl + 1) (.slice (some ⟨g3, 0, none⟩) (nl + 1) cap3) := ⟨⟨_, hown2⟩, fun g' e => by
            injection e with e
            subst e
            rcases hat2 with h | h
            · exact hmine _ h
            · exact Or.inr (by rw [World.size_alloc] at hZ2; show top ≤ _; rw [h]; exact hZ2)⟩
          have hL2 : Sit x2 [⟨w7.heap.size, D.man, Ak, ck⟩, ⟨w6.heap.size, D.man, Az, cz⟩, ⟨w5.heap.size, N, Ap, cp⟩, ⟨w4.heap.size, N, Ao, co⟩, ⟨w3.heap.size, D.man, Ac, cc⟩, ⟨w1.heap.size, N, An, cn⟩] := (hL.later ((Below.refl _ _).alloc (Nat.le_refl _) _)).grown HFAR.out hgrow2 fun g' e => hmine g' e
          have hBx : Below w.heap.size w x2 := (hB.alloc hB.size _).grown hgrow2 (by have := hB.size; simp; omega) fun g' e => HLO.out g' (hmine g' e)
          have hZx : top ≤ x2.heap.size := Nat.le_trans hZ2 hgrow2.size
          clear hown hmine hown2 hgrow2 hat2 hL hB hZ hZ2 hap1 hap2 hap3
          go_wp2_with fail
          go_roundw
          case rel => exact ⟨j + 1, g3, cap3, nl + 1, by go_num, by omega, by have := HNL.out; omega, rfl, hm2, hL2, hBx, hZx⟩
          case measure => simp only [intOf]; omega
        · have hnl2 : nl = k + 65 := by omega
          have hnlb : (((nl : Nat) : Int) == (k : Int) + 65) = true := by rw [beq_iff_eq]; omega
          clear ho hnl
          obtain ⟨s0, s1, s2, s3, s4, s5, s6⟩ := hL.seven (b := w3.heap.size) (M := D.man) (A := Ac) (cap := cc) (by simp)
          obtain ⟨t0, t1, t2, t3, t4, t5, t6⟩ := hL.seven (b := w7.heap.size) (M := D.man) (A := Ak) (cap := ck) (by simp)
          go_wp2_with fail
          refine (same_any D.man Ac Ak cc ck _ (hL.rs (b := w3.heap.size) (cap := cc) (by simp)) (hL.rs (b := w7.heap.size) (cap := ck) (by simp)) hlM).mono ?_
          rintro e v1 ⟨rfl, hA1⟩
          have M1 := hL.later hA1
          have E1 : Below w.heap.size w v1 := hB.trans (hA1.mono hB.size)
          clear s0 s1 s2 s3 s4 s5 s6 t0 t1 t2 t3 t4 t5 t6 hL hB hA1
          obtain ⟨s0, s1, s2, s3, s4, s5, s6⟩ := M1.seven (b := w4.heap.size) (M := N) (A := Ao) (cap := co) (by simp)
          obtain ⟨t0, t1, t2, t3, t4, t5, t6⟩ := M1.seven (b := w1.heap.size) (M := N) (A := An) (cap := cn) (by simp)
          go_wp2_with fail
          refine (same_any N Ao An co cn _ (M1.rs (b := w4.heap.size) (cap := co) (by simp)) (M1.rs (b := w1.heap.size) (cap := cn) (by simp)) hlM2).mono ?_
          rintro e v2 ⟨rfl, hA2⟩
          have M2 := M1.later hA2
          have E2 : Below w.heap.size w v2 := E1.trans (hA2.mono E1.size)
          clear s0 s1 s2 s3 s4 s5 s6 t0 t1 t2 t3 t4 t5 t6 M1 E1 hA2
          obtain ⟨s0, s1, s2, s3, s4, s5, s6⟩ := M2.seven (b := w5.heap.size) (M := N) (A := Ap) (cap := cp) (by simp)
          obtain ⟨t0, t1, t2, t3, t4, t5, t6⟩ := M2.seven (b := w1.heap.size) (M := N) (A := An) (cap := cn) (by simp)
          go_wp2_with fail
          refine (same_any N Ap An cp cn _ (M2.rs (b := w5.heap.size) (cap := cp) (by simp)) (M2.rs (b := w1.heap.size) (cap := cn) (by simp)) hlM2).mono ?_
          rintro e v3 ⟨rfl, hA3⟩
          have M3 := M2.later hA3
          have E3 : Below w.heap.size w v3 := E2.trans (hA3.mono E2.size)
          clear s0 s1 s2 s3 s4 s5 s6 t0 t1 t2 t3 t4 t5 t6 M2 E2 hA3
          obtain ⟨s0, s1, s2, s3, s4, s5, s6⟩ := M3.seven (b := w6.heap.size) (M := D.man) (A := Az) (cap := cz) (by simp)
          obtain ⟨t0, t1, t2, t3, t4, t5, t6⟩ := M3.seven (b := w7.heap.size) (M := D.man) (A := Ak) (cap := ck) (by simp)
          go_wp2_with fail
          refine (same_any D.man Az Ak cz ck _ (M3.rs (b := w6.heap.size) (cap := cz) (by simp)) (M3.rs (b := w7.heap.size) (cap := ck) (by simp)) hlM).mono ?_
          rintro e v4 ⟨rfl, hA4⟩
          have M4 := M3.later hA4
          have E4 : Below w.heap.size w v4 := E3.trans (hA4.mono E3.size)
          clear s0 s1 s2 s3 s4 s5 s6 t0 t1 t2 t3 t4 t5 t6 M3 E3 hA4
          go_wp2_with fail
          refine (HDEC.out _ (HT.out.below E4)).mono ?_
          rintro e v5 ⟨⟨Aa, ca, rfl, hra⟩, hA5⟩
          have M5 := M4.add hA5 D.man Aa ca hra.rs
          have E5 : Below w.heap.size w (v5.alloc (.cells (manCells D.man Aa ca) 26)) := (E4.trans (hA5.mono E4.size)).alloc (Nat.le_trans E4.size hA5.size) _
          clear M4 E4 hra hA5
          go_upto_region 20 with fail
          obtain ⟨X5, hX5⟩ : ∃ X5, v5.alloc (.cells #[.int .i64 D.man.w, .int .i64 D.man.c, .int .i64 D.man.m, .int .i64 D.man.seq, .int .i64 D.man.next, .int .i64 D.man.jr, .slice Aa D.man.runs.length ca] 26) = X5 := ⟨_, rfl⟩
          replace M5 : Sit X5 [⟨v5.heap.size, D.man, Aa, ca⟩, ⟨w7.heap.size, D.man, Ak, ck⟩, ⟨w6.heap.size, D.man, Az, cz⟩, ⟨w5.heap.size, N, Ap, cp⟩, ⟨w4.heap.size, N, Ao, co⟩, ⟨w3.heap.size, D.man, Ac, cc⟩, ⟨w1.heap.size, N, An, cn⟩] := by rw [← hX5]; exact M5
          replace E5 : Below w.heap.size w X5 := by rw [← hX5]; exact E5
          rw [hX5]
          clear hX5
          obtain ⟨s0, s1, s2, s3, s4, s5, s6⟩ := M5.seven (b := v5.heap.size) (M := D.man) (A := Aa) (cap := ca) (by simp)
          obtain ⟨t0, t1, t2, t3, t4, t5, t6⟩ := M5.seven (b := w7.heap.size) (M := D.man) (A := Ak) (cap := ck) (by simp)
          go_wp2_with fail
          refine (same_any D.man Aa Ak ca ck _ (M5.rs (b := v5.heap.size) (cap := ca) (by simp)) (M5.rs (b := w7.heap.size) (cap := ck) (by simp)) hlM).mono ?_
          rintro e v6 ⟨rfl, hA6⟩
          have M6 := M5.later hA6
          have E6 : Below w.heap.size w v6 := E5.trans (hA6.mono E5.size)
          clear s0 s1 s2 s3 s4 s5 s6 t0 t1 t2 t3 t4 t5 t6 M5 E5 hA6
          obtain ⟨t0, t1, t2, t3, t4, t5, t6⟩ := M6.seven (b := w7.heap.size) (M := D.man) (A := Ak) (cap := ck) (by simp)
          rw [HLE.out] at t6
          go_wp2_with fail
          refine (num_any _ _).mono ?_
          rintro e v7 ⟨rfl, rfl⟩
          go_wp2_with fail
          go_ret
          exact ⟨rfl, E6⟩
end Go.Proofs.YtffdplmnjlcmnaaDoor
