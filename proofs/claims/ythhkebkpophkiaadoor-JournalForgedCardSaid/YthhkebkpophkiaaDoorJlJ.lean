/- The law JournalForged: its walk. Conditions: each theorem's own hypotheses. -/
import Derived.Deep.AppendLies
import Derived.Deep.DeepCutAuto
import Derived.Deep.CutBlock
import Derived.Test.YthhkebkpophkiaaDoorJlI
namespace Go.Proofs.YthhkebkpophkiaaDoor
open Go.RowKit
set_option linter.unusedVariables false

def Jl.j1 : ByteArray := ⟨#[106, 49]⟩
theorem Jl.j1_named : Dk.named [106, 49] = true := by decide
theorem Jl.goesE_one : Jn.goesE 1 0 64 = 0 := by decide
theorem Jl.pick_nat (k : Int) (n : Nat) (hn : 0 < n) : ∃ r : Nat, k % (n : Int) = (r : Int) ∧ r < n := by
  have h1 := Int.emod_nonneg k (show (n : Int) ≠ 0 by omega)
  have h2 := Int.emod_lt_of_pos k (show (0 : Int) < (n : Int) by omega)
  exact ⟨(k % (n : Int)).toNat, by omega, by omega⟩
theorem Jl.four_one (u : Jn.Upd) (C : ByteArray) (hC : str u.code = .string C) : Jl.four u = [.int .i64 u.seq, .int .i64 u.kind, .int .i64 u.id, .string C] := by unfold Jl.four; rw [hC]
/-- Ahead of a round: the disk, the list that is wanted. -/
def Jl.R (W : World) (d : Nat) (k : Nat) (v : Value) (us : List Jn.Upd) (wr : World) : Prop :=
  ∃ wn, us.length = k ∧ Jl.Rows 0 64 us ∧ Jl.Own wr W.heap.size v us ∧ Jl.Sit W.heap.size W wr d (Jl.dm [106, 49] (Jl.bytes us) wn) (fun q => v.ownBlock = some q)
set_option maxRecDepth 100000 in
set_option maxHeartbeats 20000000 in
theorem Jl.forged_walk (l : List Jl.In) (A : Option Addr) (cp : Nat) (pos how : Int) (more : ByteArray) (W : World) (HI : Jl.Ins W W.heap.size A l) (hl : l.length ≤ 4611686018427387904) (hcs : ∀ x ∈ l, x.c.size ≤ 4611686018427387904) (hmore : more.size ≤ 4611686018427387904) (hT : TabS W) (hP : PowT W) :
    Calls Tryd.prog 4 #[.slice A l.length cp, .int .i64 pos, .int .i64 how, .string more] W fun e W' => e = .returned (.bool true) ∧ Below W.heap.size W W' := by
  obtain ⟨i0, hi, hz0, hz1, hz2⟩ := info_parts infoUpd
  have hTB := fun {w : World} (hB : Below W.heap.size W w) => hT.below hB
  have hPB := fun {w : World} (hB : Below W.heap.size W w) => hP.below hB
  have kn := fun (n : Int) w => Jl.num_any n w
  have k0 := Jl.new_sit (B := W.heap.size) (W0 := W) (n := 16777216) (by decide) (Below.refl _ W) (Nat.le_refl _)
  have kcr := fun {w : World} {d : Nat} {K : Nat → Prop} (h : Jl.Sit W.heap.size W w d (Dk.fresh 16777216) K) => Jl.dm_create_any (nb := Jl.j1) h rfl (by decide) Jl.j1_named
  unfold Jl.j1 at kcr
  obtain ⟨mn, hmn⟩ : ∃ mn : Nat, mn = min l.length 60 := ⟨_, rfl⟩
  have hmin : ∀ ts t w, (Builtin.min_ ts t #[.int .i64 (l.length : Int), .int .i64 60]).run Tryd.prog w = .ok (.int .i64 (mn : Int)) w := by
    intro ts t w
    rw [run_min_int2]
    congr 2
    split <;> omega
  obtain ⟨N, hN, hNl⟩ := Jl.pick_nat pos (mn + 1) (by omega)
  have kpk : ∀ w, Calls Tryd.prog 17 #[.int .i64 pos, .int .i64 ((mn : Int) + 1)] w fun e w' => e = .returned (.int .i64 (N : Int)) ∧ w = w' := fun w => by
    have := pick_any pos ((mn : Int) + 1) w (by omega) (by omega)
    rw [show ((mn : Int) + 1) = ((mn + 1 : Nat) : Int) from by omega, hN] at this
    rw [show ((mn : Int) + 1) = ((mn + 1 : Nat) : Int) from by omega]
    exact this
  have wmn : IntKind.i64.wrap ((mn : Int) + 1) = (mn : Int) + 1 := IntWalk.i64_in _ (by omega)
  have hN60 : N ≤ 60 := by omega
  have hNL : N ≤ l.length := by omega
  clear hN hNl hmn hT hP
  go_enter Tryd.func4, Tryd.ntmps4
  go_wp2_with (first
    | (go_at_call 6; refine k0.mono ?_; clear k0; rintro e w1 ⟨d, rfl, S1⟩; have kc := kcr S1; clear kcr)
    | (go_at_call 8; refine kc.mono ?_; clear kc; rintro e w2 ⟨rfl, S2, _⟩)
    | (go_at_call 16; refine (kn _ _).mono ?_; rintro e w' ⟨rfl, rfl⟩)
    | (go_at_call 17; refine (kpk _).mono ?_; rintro e w' ⟨rfl, rfl⟩))
  have R0 : Jl.R W d 0 (.slice none 0 0) [] w2 := ⟨1, rfl, fun j u hj => by simp at hj, Jl.Own.nil _ _, S2.sub fun k hk => by cases hk⟩
  clear kpk hmin wmn S1 S2
  go_loopw [10, 12] (fun v i wr => ∃ k us, k ≤ N ∧ i = .int .i64 (k : Nat) ∧ Jl.R W d k v us wr) (fun _ i _ => N - (intOf i).toNat)
  case atStart => exact ⟨0, [], Nat.zero_le _, rfl, R0⟩
  case round =>
    clear R0
    obtain ⟨k, us, hk, rfl, wn, hlen, hrows, hown, hS⟩ := hrel
    by_cases hlt : k < N
    · obtain ⟨b, off, x, hA, hb, hj, e0, e1, e2, e3⟩ := (HI.below hS.below).at_ (show k < l.length by omega)
      subst hA hlen
      have hxm : x ∈ l := List.mem_of_getElem? hj
      obtain ⟨hfit, hseq⟩ := Jl.gu_fit x (us.length + 1) (by omega)
      obtain ⟨C, hC, _, _⟩ := str_of (Jl.gu x (us.length + 1)).code
      obtain ⟨S, hS2, hSd, _⟩ := str_of (Jl.fb (Jl.gu x (us.length + 1)))
      have kg := fun w => Jl.goes_law x (us.length + 1) w (hcs x hxm) C hC
      have kw := fun {w : World} (hB : Below W.heap.size W w) => Jl.write_fit (l := 64) (by decide) (by decide) hfit C S hC hS2 w (hTB hB)
      have hbl := Jl.bytes_len (by decide) us hrows.mem
      have hfl := Jl.fb_len hfit (by decide)
      have hcl := hfit.code_len (by decide)
      have kap := fun {w : World} {K : Nat → Prop} (h : Jl.Sit W.heap.size W w d (Jl.dm [106, 49] (Jl.bytes us) wn) K) => Jl.dm_append_any (nb := Jl.j1) h rfl (by decide) Jl.j1_named hSd (by omega)
      unfold Jl.j1 at kap
      rw [← Jl.bytes_snoc] at kap
      have hrows2 := hrows.snoc hfit (by omega)
      have hf4 := Jl.four_one _ C hC
      obtain ⟨u, hu⟩ : ∃ u, Jl.gu x (us.length + 1) = u := ⟨_, rfl⟩
      rw [hu] at hrows2 hf4
      simp only [hu] at kg kw kap
      have HX := Lib.hid (And.intro hrows2 hf4)
      obtain ⟨xq, xk, xi, xc⟩ := x
      simp only at e0 e1 e2 e3
      rw [show (((us.length + 1 : Nat)) : Int) = (us.length : Int) + 1 from by omega] at kg
      unfold Jl.uv at kg kw
      have hj0 : (0 : Int) ≤ (us.length : Int) := by omega
      have hj1 : (us.length : Int) < (l.length : Int) := by omega
      have u1 : decide (us.length < N) = true := decide_eq_true hlt
      obtain ⟨A', cp', rfl⟩ := hown.form
      have B0 := hS.below
      have z0 := hS.size
      have hus : us.length ≤ 60 := by omega
      have HRN := Lib.hid hrows
      have hap1 : us.length + 1 ≤ maxLen := by unfold maxLen; omega
      have hap2 : (us.length + 1) * 40 ≤ 140737488355328 := by omega
      try clear hxm
      try clear hfit
      try clear hseq
      try clear hC
      try clear hS2
      try clear hSd
      try clear hbl
      try clear hfl
      try clear hcl
      try clear hrows
      try clear hrows2
      try clear hf4
      try clear hu
      try clear hj
      try clear hcs
      try clear HI
      try clear hrows
      go_wp2_with (first
        | (go_at_call 18; refine (kg _).mono ?_; clear kg; rintro e w1 ⟨rfl, b1⟩; have B1 := B0.trans (b1.mono z0); have B1a := fun o => B1.alloc B1.size o)
        | (go_at_call 19; refine (kw (B1a _)).mono ?_; clear kw; rintro e w2 ⟨rfl, b2⟩; have z1 := b1.size; have b12 := (b1.alloc b1.size (.cells #[.int .i64 u.seq, .int .i64 u.kind, .int .i64 u.id, .string C] 39)).trans (b2.mono (by simp; omega)); have S2 := (hS.grow b12).sub (K' := fun q => (Value.slice A' us.length cp').ownBlock = some q ∨ q = w1.heap.size) (fun q hq => hq.elim .inl (fun e => .inr ⟨by omega, by have := b2.size; simp at this; omega⟩)); have kap2 := kap S2; clear kap)
        | (go_at_call 9; refine kap2.mono ?_; clear kap2; rintro e w3 ⟨rfl, S3, K3⟩; have q3 : Blk w3 w1.heap.size 39 #[.int .i64 u.seq, .int .i64 u.kind, .int .i64 u.id, .string C] := (K3.2 _ (.inr rfl)).trans ((b2.block _ (by simp)).trans (Blk.new w1 _ _)); have f0 : w3.cell? ⟨w1.heap.size, 0, none⟩ = some (.int .i64 u.seq) := q3.cell 0; have f1 : w3.cell? ⟨w1.heap.size, 1, none⟩ = some (.int .i64 u.kind) := q3.cell 1; have f2 : w3.cell? ⟨w1.heap.size, 2, none⟩ = some (.int .i64 u.id) := q3.cell 2; have f3 : w3.cell? ⟨w1.heap.size, 3, none⟩ = some (.string C) := q3.cell 3; have hown3 : w3.ownsRow W.heap.size 39 4 (.slice A' us.length cp') us.length (Jl.cells us) := Jl.Own.kept (K := fun q => (Value.slice A' us.length cp').ownBlock = some q ∨ q = w1.heap.size) (show Jl.Own w2 W.heap.size (.slice A' us.length cp') us from Jl.row_grown hown (Jl.grown_of b12)) K3 (fun k hk => .inl hk); clear q3; have hown3a := hown3.alloc (.cells #[.int .i64 u.seq, .int .i64 u.kind, .int .i64 u.id, .string C] 39); have HN := Lib.hid (Jl.news (Blk.new w3 39 #[.int .i64 u.seq, .int .i64 u.kind, .int .i64 u.id, .string C])); have z3 := S3.size; have hap3 : W.heap.size ≤ (w3.alloc (.cells #[.int .i64 u.seq, .int .i64 u.kind, .int .i64 u.id, .string C] 39)).heap.size := by rw [World.size_alloc]; omega)
        | (go_at_call 16; refine (kn _ _).mono ?_; rintro e w' ⟨rfl, rfl⟩)
        | (at_builtin; refine wpList_append_lies (hs := ?e1) (hx := ?e2) (hown := hown3a) (hnews := HN.out) _ rfl (.tmp 71) (.tmp 73) 32 ?e0 W.heap.size 39 i0 (.agg #[.int .i64 0, .int .i64 0, .int .i64 0, .string ⟨#[]⟩]) 4 40 Tryd.underlying32 hi hz0 hz1 hz2 ?e3 (by decide) (.slice A' us.length cp') us.length (Jl.cells us) ⟨w3.heap.size, 0, none⟩ 1 1 [.int .i64 u.seq, .int .i64 u.kind, .int .i64 u.id, .string C] ?e4 (by simp [Value.oneCell']) (by decide) hap1 hap2 hap3 _ rfl ?_))
      case e0 => rfl
      case e3 => rfl
      case e4 => rfl
      case e1 => simp [Act.eval]
      case e2 => simp [Act.eval]
      intro g2 cap2 w5 hown5 hgr5 hat5 hlt5
      have S5 := S3.grown (o := .cells #[.int .i64 u.seq, .int .i64 u.kind, .int .i64 u.id, .string C] 39) (fun k hk => .inl hk) hgr5 hat5 hlt5
      obtain ⟨x1, x2⟩ := HX.out
      have R5 : Jl.R W d (us.length + 1) (.slice (some ⟨g2, 0, none⟩) (us.length + 1) cap2) (us ++ [u]) w5 := by
        refine ⟨_, by simp, x1, ?_, S5.sub fun q hq => ?_⟩
        · unfold Jl.Own
          rw [Jl.cells_snoc, x2, List.length_append]
          exact hown5
        · injection hq with hq
          exact .inr hq.symm
      clear hown3 hown3a hown5 hgr5 hat5 hlt5 S3 S5 HN S2 K3 hS hown f0 f1 f2 f3
      go_wp2_with fail
      go_roundw
      case rel => exact ⟨us.length + 1, _, hlt, by go_num, R5⟩
      case measure => simp [intOf]; omega
    · obtain rfl : k = N := by omega
      clear HI hcs hk hlt
      subst hlen
      have hbl := Jl.bytes_len (by decide) us hrows.mem
      obtain ⟨len, hlen⟩ : ∃ len, (Jl.bytes us).length = len := ⟨_, rfl⟩
      obtain ⟨A', cp', rfl⟩ := hown.form
      have B0 := hS.below
      have z0 := hS.size
      have ksz := Jl.dm_size_any (nb := Jl.j1) hS rfl (by decide) Jl.j1_named hlen
      unfold Jl.j1 at ksz
      have hlk : Jl.lookR (Jl.dm [106, 49] (Jl.bytes us) wn) 1 ((0 : Nat) : Int) ((64 : Nat) : Int) = (us, len, 0) := by
        rw [Jl.lookR_dm [106, 49] (Jl.bytes us) wn 1 0 64 Jl.j1_named Jn.name_one Jl.goesE_one, Jl.look_bytes (by decide) hrows, hlen]
      have klk := hS.ask fun F hA hG => Jl.look_any hA hG 1 ((0 : Nat) : Int) ((64 : Nat) : Int) (hTB B0) (hPB B0) hlk
      obtain ⟨G1, hG1, hG1d, hG1s⟩ := str_of (Sl.putVar (us.length + 1))
      have kg1 := fun w => Jl.putVar_tell (us.length + 1) (by omega) G1 hG1 w
      rw [show ((us.length + 1 : Nat) : Int) = (us.length : Int) + 1 from by omega] at kg1
      have ksame := fun {w : World} {A1 : Option Addr} {c1 : Nat} (H1 : Jl.Lie w A1 us) (H2 : Jl.Lie w A' us) => Jl.same_true A1 A' c1 cp' us w H1 H2 (by omega)
      have wq1 : IntKind.i64.wrap ((us.length : Int) + 1) = (us.length : Int) + 1 := IntWalk.i64_in _ (by omega)
      obtain ⟨hw6, hw6e, hw6l⟩ := Jl.pick_nat how 6 (by decide)
      have kp6 : ∀ w, Calls Tryd.prog 17 #[.int .i64 how, .int .i64 6] w fun e w' => e = .returned (.int .i64 (hw6 : Int)) ∧ w = w' := fun w => by
        have := pick_any how 6 w (by decide) (by decide)
        rw [show ((6 : Nat) : Int) = 6 from rfl] at hw6e
        rw [hw6e] at this
        exact this
      have HR := Lib.hid (And.intro hrows hlen)
      have HG := Lib.hid (And.intro hG1d hG1s)
      clear hw6e hG1 hG1d hG1s hlk hrows hlen
      go_upto_block 2 with (first
        | (go_at_call 20; refine ksz.mono ?_; clear ksz; rintro e w' ⟨rfl, rfl⟩)
        | (go_at_call 13; refine klk.mono ?_; clear klk; rintro e w1 ⟨⟨v1, rfl, r1⟩, b1⟩; obtain ⟨A1, c1, rfl⟩ := Jl.slice_form r1; have o1 : Jl.Own w1 wr.heap.size _ us := r1; have o2 : Jl.Own w1 W.heap.size _ us := Jl.row_grown hown (Jl.grown_of b1); have ks := ksame (c1 := c1) o1.lie o2.lie; have B1 := B0.trans (b1.mono z0))
        | (go_at_call 15; refine ks.mono ?_; clear ks; rintro e w2 ⟨rfl, b2⟩; have B2 := B1.trans (b2.mono B1.size))
        | (go_at_call 21; refine (kg1 _).mono ?_; rintro e w3 ⟨rfl, b3⟩; have B3 := B2.trans (b3.mono B2.size))
        | (go_at_call 17; refine (kp6 _).mono ?_; rintro e w' ⟨rfl, rfl⟩)
        | (go_at_call 16; refine (kn _ _).mono ?_; rintro e w' ⟨rfl, rfl⟩))
      obtain ⟨P5, hP5, hP5d, hP5s⟩ := str_of (Sl.putVar 5)
      have kp5 := fun w => Jl.putVar_tell 5 (by decide) P5 hP5 w
      have n1 : G1.size ≤ 10 := by rw [HG.out.2]; exact Jl.putVar_len _
      have n2 : P5.size ≤ 10 := by rw [hP5s]; exact Jl.putVar_len _
      have HG1 := HG.out.1
      have HB3 := Lib.hid B3
      clear kg1 ksame kp6 wq1
      go_cut [22] (fun v X => ∃ Sb : ByteArray, v = .string Sb ∧ Sb.data.toList = Jl.forged us.length hw6 ∧ Below w3.heap.size w3 X)
      case first =>
        rcases (show hw6 = 0 ∨ hw6 = 1 ∨ hw6 = 2 ∨ hw6 = 3 ∨ hw6 = 4 ∨ hw6 = 5 by omega) with rfl | rfl | rfl | rfl | rfl | rfl
        · obtain ⟨S, hS, hSd, hSs⟩ := str_of (Sl.frame 3 (G1 ++ P5).data.toList)
          have kf := fun {w : World} (hB : Below W.heap.size W w) => Jl.frame_tell 3 (by decide) (G1 ++ P5) (by rw [ByteArray.size_append]; omega) S hS w (hTB hB)
          have hfd : S.data.toList = Jl.forged us.length 0 := by rw [hSd]; unfold Jl.forged; rw [if_pos rfl, Tx.append, HG1, hP5d]
          clear hS hSd hSs
          go_wp2_with (first
            | (go_at_call 21; refine (kp5 _).mono ?_; clear kp5; rintro e w4 ⟨rfl, b4⟩; have B4 := HB3.out.trans (b4.mono HB3.out.size))
            | (go_at_call 22; refine (kf B4).mono ?_; clear kf; rintro e w5 ⟨rfl, b5⟩))
          go_meet
          exact ⟨S, rfl, hfd, b4.trans (b5.mono b4.size)⟩
        · obtain ⟨G2, hG2, hG2d, hG2s⟩ := str_of (Sl.putVar (us.length + 2))
          have kg2 := fun w => Jl.putVar_tell (us.length + 2) (by omega) G2 hG2 w
          rw [show ((us.length + 2 : Nat) : Int) = (us.length : Int) + 2 from by omega] at kg2
          have wq2 : IntKind.i64.wrap ((us.length : Int) + 2) = (us.length : Int) + 2 := IntWalk.i64_in _ (by omega)
          have n3 : G2.size ≤ 10 := by rw [hG2s]; exact Jl.putVar_len _
          obtain ⟨S, hS, hSd, hSs⟩ := str_of (Sl.frame 2 (G2 ++ P5).data.toList)
          have kf := fun {w : World} (hB : Below W.heap.size W w) => Jl.frame_tell 2 (by decide) (G2 ++ P5) (by rw [ByteArray.size_append]; omega) S hS w (hTB hB)
          have hfd : S.data.toList = Jl.forged us.length 1 := by rw [hSd]; unfold Jl.forged; rw [if_neg (by decide), if_pos rfl, Tx.append, hG2d, hP5d]
          clear hS hSd hSs
          go_wp2_with (first
            | (go_at_call 21; refine (kg2 _).mono ?_; clear kg2; rintro e w4 ⟨rfl, b4⟩; have B4 := HB3.out.trans (b4.mono HB3.out.size))
            | (go_at_call 21; refine (kp5 _).mono ?_; clear kp5; rintro e w5 ⟨rfl, b5⟩; have B5 := B4.trans (b5.mono B4.size))
            | (go_at_call 22; refine (kf B5).mono ?_; clear kf; rintro e w6 ⟨rfl, b6⟩))
          go_meet
          exact ⟨S, rfl, hfd, (b4.trans (b5.mono b4.size)).trans (b6.mono (b4.trans (b5.mono b4.size)).size)⟩
        · obtain ⟨Q, hQ⟩ : ∃ Q, G1 ++ P5 = Q := ⟨_, rfl⟩
          have nQ : Q.size ≤ 20 := by rw [← hQ, ByteArray.size_append]; omega
          obtain ⟨L, hL⟩ : ∃ L, (⟨#[49, 50, 51, 52, 53, 54, 55]⟩ : ByteArray) = L := ⟨_, rfl⟩
          have nL : L.size = 7 := by rw [← hL]; rfl
          have hLd : L.data.toList = [49, 50, 51, 52, 53, 54, 55] := by rw [← hL]
          obtain ⟨S, hS, hSd, hSs⟩ := str_of (Sl.frame 1 (Q ++ L).data.toList)
          have kf := fun {w : World} (hB : Below W.heap.size W w) => Jl.frame_tell 1 (by decide) (Q ++ L) (by rw [ByteArray.size_append]; omega) S hS w (hTB hB)
          have hfd : S.data.toList = Jl.forged us.length 2 := by rw [hSd, Tx.append, ← hQ]; unfold Jl.forged; rw [if_neg (by decide), if_neg (by decide), if_pos rfl, Tx.append, HG1, hP5d, hLd]
          clear hS hSd hSs hLd
          go_wp2_with (first
            | (go_at_call 21; refine (kp5 _).mono ?_; clear kp5; rintro e w4 ⟨rfl, b4⟩; have B4 := HB3.out.trans (b4.mono HB3.out.size))
            | (go_at_call 22; refine (kf B4).mono ?_; clear kf; rintro e w5 ⟨rfl, b5⟩))
          go_meet
          exact ⟨S, rfl, hfd, b4.trans (b5.mono b4.size)⟩
        · obtain ⟨Q, hQ⟩ : ∃ Q, G1 ++ P5 = Q := ⟨_, rfl⟩
          have nQ : Q.size ≤ 20 := by rw [← hQ, ByteArray.size_append]; omega
          obtain ⟨L, hL⟩ : ∃ L, (⟨#[120]⟩ : ByteArray) = L := ⟨_, rfl⟩
          have nL : L.size = 1 := by rw [← hL]; rfl
          have hLd : L.data.toList = [120] := by rw [← hL]
          obtain ⟨S, hS, hSd, hSs⟩ := str_of (Sl.frame 2 (Q ++ L).data.toList)
          have kf := fun {w : World} (hB : Below W.heap.size W w) => Jl.frame_tell 2 (by decide) (Q ++ L) (by rw [ByteArray.size_append]; omega) S hS w (hTB hB)
          have hfd : S.data.toList = Jl.forged us.length 3 := by rw [hSd, Tx.append, ← hQ]; unfold Jl.forged; rw [if_neg (by decide), if_neg (by decide), if_neg (by decide), if_pos rfl, Tx.append, HG1, hP5d, hLd]
          clear hS hSd hSs hLd
          go_wp2_with (first
            | (go_at_call 21; refine (kp5 _).mono ?_; clear kp5; rintro e w4 ⟨rfl, b4⟩; have B4 := HB3.out.trans (b4.mono HB3.out.size))
            | (go_at_call 22; refine (kf B4).mono ?_; clear kf; rintro e w5 ⟨rfl, b5⟩))
          go_meet
          exact ⟨S, rfl, hfd, b4.trans (b5.mono b4.size)⟩
        · obtain ⟨PM, hPM, hPMd, hPMs⟩ := str_of (Sl.putVar 281474976710657)
          have kpm := fun w => Jl.putVar_tell 281474976710657 (by decide) PM hPM w
          have n3 : PM.size ≤ 10 := by rw [hPMs]; exact Jl.putVar_len _
          obtain ⟨S, hS, hSd, hSs⟩ := str_of (Sl.frame 2 (G1 ++ PM).data.toList)
          have kf := fun {w : World} (hB : Below W.heap.size W w) => Jl.frame_tell 2 (by decide) (G1 ++ PM) (by rw [ByteArray.size_append]; omega) S hS w (hTB hB)
          have hfd : S.data.toList = Jl.forged us.length 4 := by rw [hSd]; unfold Jl.forged; rw [if_neg (by decide), if_neg (by decide), if_neg (by decide), if_neg (by decide), if_pos rfl, Tx.append, HG1, hPMd]
          clear hS hSd hSs
          go_wp2_with (first
            | (go_at_call 21; refine (kpm _).mono ?_; clear kpm; rintro e w4 ⟨rfl, b4⟩; have B4 := HB3.out.trans (b4.mono HB3.out.size))
            | (go_at_call 22; refine (kf B4).mono ?_; clear kf; rintro e w5 ⟨rfl, b5⟩))
          go_meet
          exact ⟨S, rfl, hfd, b4.trans (b5.mono b4.size)⟩
        · obtain ⟨S, hS, hSd, hSs⟩ := str_of (Sl.frame 2 (G1).data.toList)
          have kf := fun {w : World} (hB : Below W.heap.size W w) => Jl.frame_tell 2 (by decide) (G1) (by omega) S hS w (hTB hB)
          have hfd : S.data.toList = Jl.forged us.length 5 := by rw [hSd]; unfold Jl.forged; rw [if_neg (by decide), if_neg (by decide), if_neg (by decide), if_neg (by decide), if_neg (by decide), HG1]
          clear hS hSd hSs
          go_wp2_with (first
            | fail
            | (go_at_call 22; refine (kf HB3.out).mono ?_; clear kf; rintro e w5 ⟨rfl, b5⟩))
          go_meet
          exact ⟨S, rfl, hfd, b5⟩
      case rest =>
        obtain ⟨Sb, rfl, hSb, bX⟩ := hcut
        have b13 := b1.trans (b2.mono b1.size)
        have b14 := (b13.trans (b3.mono b13.size))
        have b15 := b14.trans (bX.mono b14.size)
        have S4 := hS.later b15
        have o4 : Jl.Own wc W.heap.size (.slice A' us.length cp') us := Jl.row_grown hown (Jl.grown_of b15)
        obtain ⟨hrows, hlen⟩ := HR.out
        have hbl2 := hbl
        rw [hlen] at hbl2
        obtain ⟨nm, hnm⟩ : ∃ nm : Nat, nm = min more.size 1000 := ⟨_, rfl⟩
        have hmin2 : ∀ ts t w, (Builtin.min_ ts t #[.int .i64 (more.size : Int), .int .i64 1000]).run Tryd.prog w = .ok (.int .i64 (nm : Int)) w := by
          intro ts t w
          rw [run_min_int2]
          congr 2
          split <;> omega
        have hml : more.data.toList.length = more.size := Array.length_toList
        obtain ⟨tl, htl⟩ : ∃ tl, more.data.toList.take nm = tl := ⟨_, rfl⟩
        have htll : tl.length ≤ 1000 := by rw [← htl, List.length_take]; omega
        have hfl := Jl.forged_len us.length hw6
        obtain ⟨Sx, hSx⟩ : ∃ Sx : ByteArray, Sb ++ more.extract 0 nm = Sx := ⟨_, rfl⟩
        have hSxd : Sx.data.toList = Jl.forged us.length hw6 ++ tl := by rw [← hSx, Tx.append, hSb, Tx.extract, List.drop_zero, Nat.sub_zero, htl]
        have hSbs : Sb.size ≤ 41 := by rw [Tx.size, hSb]; exact hfl
        have kap2 := Jl.dm_append_any (nb := Jl.j1) S4 rfl (by decide) Jl.j1_named hSxd (by rw [List.length_append]; omega)
        unfold Jl.j1 at kap2
        obtain ⟨dt, hdt⟩ : ∃ dt, Jl.bytes us ++ (Jl.forged us.length hw6 ++ tl) = dt := ⟨_, rfl⟩
        obtain ⟨wn2, hwn2⟩ : ∃ wn2, IntKind.i64.wrap (wn + 1) = wn2 := ⟨_, rfl⟩
        rw [hdt, hwn2] at kap2
        have hdtl : dt.length ≤ 16777216 := by rw [← hdt, List.length_append, List.length_append]; omega
        have hbad := Jl.forged_bad hrows hN60 hw6 tl
        rw [hdt] at hbad
        have hl2 : Jl.lookR (Jl.dm [106, 49] dt wn2) 1 ((0 : Nat) : Int) ((64 : Nat) : Int) = ([], 0, 80) := by
          rw [Jl.lookR_dm [106, 49] dt wn2 1 0 64 Jl.j1_named Jn.name_one Jl.goesE_one, hbad]
        obtain ⟨ib, hib, _⟩ := Tx.of (Dk.image (Jl.dm [106, 49] dt wn2))
        obtain ⟨wn3, hwn3⟩ : ∃ wn3, IntKind.i64.wrap (wn2 + 1) = wn3 := ⟨_, rfl⟩
        have htake : dt.take len = Jl.bytes us := by rw [← hdt, ← hlen, List.take_left' rfl]
        have hlendt : len ≤ dt.length := by rw [← hdt, List.length_append, hlen]; omega
        have kcut := fun {w : World} {K : Nat → Prop} (h : Jl.Sit W.heap.size W w d (Jl.dm [106, 49] dt wn2) K) => Jl.dm_cut_any (nb := Jl.j1) h rfl (by decide) Jl.j1_named len hlendt hdtl
        unfold Jl.j1 at kcut
        simp only [htake, hwn3] at kcut
        have hl3 : Jl.lookR (Jl.dm [106, 49] (Jl.bytes us) wn3) 1 ((0 : Nat) : Int) ((64 : Nat) : Int) = (us, len, 0) := by
          rw [Jl.lookR_dm [106, 49] (Jl.bytes us) wn3 1 0 64 Jl.j1_named Jn.name_one Jl.goesE_one, Jl.look_bytes (by decide) hrows, hlen]
        have klk2 := fun {w : World} {K : Nat → Prop} (h : Jl.Sit W.heap.size W w d (Jl.dm [106, 49] dt wn2) K) => h.ask fun F hA hG => Jl.look_any hA hG 1 ((0 : Nat) : Int) ((64 : Nat) : Int) (hTB h.below) (hPB h.below) hl2
        have kop1 := fun {w : World} {K : Nat → Prop} (h : Jl.Sit W.heap.size W w d (Jl.dm [106, 49] dt wn2) K) => Jl.open_no h (hTB h.below) (hPB h.below) 1 ((0 : Nat) : Int) ((64 : Nat) : Int) hl2 (by decide)
        have kop2 := fun {w : World} {K : Nat → Prop} (h : Jl.Sit W.heap.size W w d (Jl.dm [106, 49] (Jl.bytes us) wn3) K) => Jl.open_whole h (hTB h.below) (hPB h.below) 1 ((0 : Nat) : Int) ((64 : Nat) : Int) hl3 (by rw [Jn.name_one, (Jl.dm_one [106, 49] (Jl.bytes us) wn3 Jl.j1_named).data_, hlen]) ⟨#[106, 49]⟩ (by rw [Jn.name_one]; rfl)
        have kim := fun {w : World} {K : Nat → Prop} (h : Jl.Sit W.heap.size W w d (Jl.dm [106, 49] dt wn2) K) => Jl.sit_image h hib
        have kwr := fun {w : World} {K : Nat → Prop} (h : Jl.Sit W.heap.size W w d (Jl.dm [106, 49] dt wn2) K) => Jl.dm_writes_any h
        have ksame2 := fun {w : World} {A1 : Option Addr} {c1 : Nat} (H1 : Jl.Lie w A1 us) (H2 : Jl.Lie w A' us) => Jl.same_true A1 A' c1 cp' us w H1 H2 (by omega)
        have q1 : (wn2 != wn2) = false := by rw [bne_eq_false_iff_eq]
        have e1 : (0 : Int) ≤ (nm : Int) := by omega
        have e2 : (nm : Int) ≤ (more.size : Int) := by omega
        clear hS hown HR HG HG1 hSb bX b13 b14 b15 hbl hbl2 hlen hrows hnm hml htl htll hfl hSxd S4 hdt hwn2 hdtl hbad hl2 hib hwn3 htake hlendt hl3 b1 b2 b3 o1 o2 r1 HB3 kp5 hP5 hP5d hP5s n1 n2
        go_wp2_with (first
          | (go_at_call 9; refine kap2.mono ?_; clear kap2; rintro e x5 ⟨rfl, S5, K5⟩; have o5 := o4.kept K5 (fun k hk => hk))
          | (go_at_call 13; refine (klk2 S6).mono ?_; clear klk2; rintro e x7 ⟨⟨v7, rfl, r7⟩, b7⟩; obtain ⟨A7, c7, rfl⟩ := Jl.slice_form r7; clear r7; have S7 := S6.later b7; have o7 : Jl.Own x7 W.heap.size (.slice A' us.length cp') us := Jl.row_grown o6 (Jl.grown_of b7))
          | (go_at_call 24; refine (kop1 S7).mono ?_; clear kop1; rintro e x8 ⟨rfl, b8⟩; have S8 := S7.later b8; have o8 : Jl.Own x8 W.heap.size (.slice A' us.length cp') us := Jl.row_grown o7 (Jl.grown_of b8))
          | (go_at_call 24; refine (kop2 S10).mono ?_; clear kop2; rintro e x11 ⟨⟨j, v11, rfl, hj, bj, r11⟩, b11⟩; obtain ⟨A11, c11, rfl⟩ := r11.form; have o11 : Jl.Own x11 W.heap.size (.slice A' us.length cp') us := Jl.row_grown o10 (Jl.grown_of b11); have ks2 := ksame2 (c1 := c11) r11.lie o11.lie)
          | (go_at_call 12; refine (kwr S8).mono ?_; rintro e x' ⟨rfl, rfl⟩)
          | (go_at_call 12; refine (kwr S5).mono ?_; rintro e x' ⟨rfl, rfl⟩)
          | (go_at_call 23; refine (kim S8).mono ?_; rintro e x9 ⟨rfl, b9⟩; have S9 := S8.later b9; have o9 : Jl.Own x9 W.heap.size (.slice A' us.length cp') us := Jl.row_grown o8 (Jl.grown_of b9))
          | (go_at_call 23; refine (kim S5).mono ?_; rintro e x6 ⟨rfl, b6⟩; have S6 := S5.later b6; have o6 : Jl.Own x6 W.heap.size (.slice A' us.length cp') us := Jl.row_grown o5 (Jl.grown_of b6))
          | (go_at_call 25; refine (kcut S9).mono ?_; clear kcut; rintro e x10 ⟨rfl, S10, K10⟩; have o10 := o9.kept K10 (fun k hk => hk))
          | (go_at_call 15; refine ks2.mono ?_; clear ks2; rintro e x12 ⟨rfl, b12⟩)
          | (go_at_call 16; refine (kn _ _).mono ?_; rintro e w' ⟨rfl, rfl⟩))
        go_ret
        exact ⟨rfl, S10.below.trans ((b11.trans (b12.mono b11.size)).mono S10.size)⟩
/-- .. in the order of the card's letters. -/
theorem Jl.forged_card (l : List Jl.In) (A : Option Addr) (cp : Nat) (pos how : Int) (more : ByteArray) (W : World) (HI : Jl.Ins W W.heap.size A l) (hl : l.length ≤ 140737488355328) (hcs : ∀ x ∈ l, x.c.size ≤ 140737488355328) (hmore : more.size ≤ 140737488355328) (hT : TabS W) (hP : PowT W) :
    Calls Tryd.prog 4 #[.slice A l.length cp, .int .i64 pos, .int .i64 how, .string more] W fun e W' => e = .returned (.bool true) ∧ Below W.heap.size W W' :=
  Jl.forged_walk l A cp pos how more W HI (by omega) (fun x hx => Nat.le_trans (hcs x hx) (by decide)) (by omega) hT hP
#print axioms Jl.forged_walk
end Go.Proofs.YthhkebkpophkiaaDoor
