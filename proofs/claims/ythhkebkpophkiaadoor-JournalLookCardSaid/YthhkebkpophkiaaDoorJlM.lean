/- The law JournalLook: its walk. Conditions: each theorem's own hypotheses. -/
import Derived.Deep.AppendLies
import Derived.Deep.DeepCutAuto
import Derived.Test.YthhkebkpophkiaaDoorJlK
import Derived.Test.YthhkebkpophkiaaDoorJlH
namespace Go.Proofs.YthhkebkpophkiaaDoor
open Go.RowKit
set_option linter.unusedVariables false

theorem Jl.look_bi {B d r : Nat} {W0 w X : World} {m m' : Dk.M} (h : Jl.Bi B W0 w d m r m') (hX : Below w.heap.size w X) (hT : ∀ {w : World}, Below B W0 w → TabS w) (hP : ∀ {w : World}, Below B W0 w → PowT w) (n sq l : Int) {us : List Jn.Upd} {g : Nat} {c : Int} (hL : Jl.lookR m n sq l = (us, g, c)) :
    Calls Tryd.prog 13 #[.pointer (some ⟨d, 0, none⟩), .int .i64 n, .int .i64 sq, .int .i64 l] X fun e W' => (∃ A q, e = .returned (.tuple #[.slice A us.length q, .int .i64 g, .int .i64 c]) ∧ Jl.Own W' X.heap.size (.slice A us.length q) us) ∧ Below X.heap.size X W' := by
  have hB := (h.later hX).below
  refine ((h.later hX).ask1 fun F hA hG => Jl.look_any hA hG n sq l (hT hB) (hP hB) hL).mono ?_
  rintro e W' ⟨⟨v, rfl, hr⟩, hb⟩
  obtain ⟨A, q, rfl⟩ := Jl.slice_form hr
  exact ⟨⟨A, q, rfl, hr⟩, hb⟩
theorem Jl.refLook_bi {B d r : Nat} {W0 w X : World} {m m' : Dk.M} (h : Jl.Bi B W0 w d m r m') (hX : Below w.heap.size w X) (hP : ∀ {w : World}, Below B W0 w → PowT w) (n sq l : Int) {us : List Jn.Upd} {g : Nat} {c : Int} (hL : Jl.lookR m' n sq l = (us, g, c)) :
    Calls Tryd.prog 14 #[.pointer (some ⟨r, 0, none⟩), .int .i64 n, .int .i64 sq, .int .i64 l] X fun e W' => (∃ A q, e = .returned (.tuple #[.slice A us.length q, .int .i64 g, .int .i64 c]) ∧ Jl.Own W' X.heap.size (.slice A us.length q) us) ∧ Below X.heap.size X W' := by
  have hB := (h.later hX).below
  refine ((h.later hX).ask2 fun F hA hG => Jl.refLook_any hA hG n sq l (hP hB) hL).mono ?_
  rintro e W' ⟨⟨v, rfl, hr⟩, hb⟩
  obtain ⟨A, q, rfl⟩ := Jl.slice_form hr
  exact ⟨⟨A, q, rfl, hr⟩, hb⟩
theorem Jl.lookR_len {m : Dk.M} {n sq l : Int} {us : List Jn.Upd} {g : Nat} {c : Int} (hG : Dk.Good m) (h : Jl.lookR m n sq l = (us, g, c)) : us.length ≤ 268435456 := by
  by_cases hc : c = 0
  · subst hc
    have h3 := Jn.look_len (Jl.lookR_zero h).2.2
    have := Jl.data_len hG (Jn.name n)
    omega
  · unfold Jl.lookR at h
    split at h
    · split at h
      · split at h
        · simp only [Prod.mk.injEq] at h; exact absurd h.2.2.symm hc
        · simp only [Prod.mk.injEq] at h; rw [← h.1]; exact Nat.zero_le _
      · simp only [Prod.mk.injEq] at h; rw [← h.1]; exact Nat.zero_le _
    · simp only [Prod.mk.injEq] at h; rw [← h.1]; exact Nat.zero_le _
def Jl.markC (z : Int) : Array Value := #[.int .i64 z, .int .i64 0, .int .i64 0, .string ⟨#[]⟩]
set_option maxRecDepth 100000 in
set_option maxHeartbeats 20000000 in
theorem Jl.jlook_walk (b : ByteArray) (sq l : Int) (W : World) (hb : b.size ≤ 140737488355328) (hT : TabS W) (hP : PowT W) :
    Calls Tryd.prog 3 #[.string b, .int .i64 sq, .int .i64 l] W fun e W' => e = .returned (.bool true) ∧ Below W.heap.size W W' := by
  obtain ⟨i0, hi, hz0, hz1, hz2⟩ := info_parts infoUpd
  have hTB := fun {w : World} (hB : Below W.heap.size W w) => hT.below hB
  have hPB := fun {w : World} (hB : Below W.heap.size W w) => hP.below hB
  have kn := fun (n : Int) w => Jl.num_any n w
  have k0 := Jl.new_sit (B := W.heap.size) (W0 := W) (n := 1048576) (by decide) (Below.refl _ W) (Nat.le_refl _)
  have k00 := fun w => Dr.new_any 1048576 (by decide) w
  have hbi : ∀ {w1 w2 : World} {d r : Nat} {F : Nat → Prop}, Jl.Sit W.heap.size W w1 d (Dk.fresh 1048576) (fun _ => False) → Dr.At w2 r (Dk.fresh 1048576) F → Below w1.heap.size w1 w2 → (∀ k, F k → w1.heap.size ≤ k) → Jl.Bi W.heap.size W w2 d (Dk.fresh 1048576) r (Dk.fresh 1048576) := fun S1 hA hB hF =>
    ⟨_, hA, (S1.grow hB).sub fun k hk => .inr ⟨hF k hk, hA.lt hk⟩, Dk.fresh_good _ (by decide)⟩
  by_cases hbig : 524288 < b.size
  · have q1 : decide (524288 < (b.size : Int)) = true := decide_eq_true (by omega)
    have q2 : decide (524288 < b.size) = true := decide_eq_true hbig
    go_enter Tryd.func3, Tryd.ntmps3
    go_wp2_with (first
      | (go_at_call 6; refine k0.mono ?_; clear k0; rintro e w1 ⟨d, rfl, S1⟩)
      | (go_at_call 7; refine (k00 _).mono ?_; clear k00; rintro e w2 ⟨r, F, rfl, hA, hB, hF⟩))
    go_ret
    exact ⟨rfl, (hbi S1 hA hB hF).below⟩
  have q1 : decide (524288 < (b.size : Int)) = false := decide_eq_false (by omega)
  have q2 : decide (524288 < b.size) = false := decide_eq_false hbig
  have hn7 : Dk.named [106, 55] = true := by decide
  have hbl : b.data.toList.length = b.size := Array.length_toList
  obtain ⟨M1, hM1, M2, hM2, hg1, hg2⟩ : ∃ M1, Dk.create (Dk.fresh 1048576) [106, 55] = (M1, 0) ∧ ∃ M2, Dk.append M1 [106, 55] b.data.toList = (M2, 0) ∧ Dk.Good M1 ∧ Dk.Good M2 := by
    have hc : Dk.code (Dk.fresh 1048576) [106, 55] = 42 := by
      unfold Dk.code
      rw [if_neg (by decide), hn7, if_pos rfl]
      rfl
    have e1 : Dk.create (Dk.fresh 1048576) [106, 55] = (⟨[⟨[106, 55], [], 0⟩], 1048576, 0, 1, false, 0, false⟩, 0) := by
      unfold Dk.create
      rw [hc, if_neg (by decide), if_neg (by decide), if_neg (by decide)]
      rfl
    have G1 : Dk.Good ⟨[⟨[106, 55], [], 0⟩], 1048576, 0, 1, false, 0, false⟩ := ⟨List.pairwise_singleton _ _, fun f hf => by
      obtain rfl := List.mem_singleton.1 hf
      exact ⟨hn7, Nat.zero_le _, Nat.le_refl _⟩, by show 1 ≤ 4096; decide, by show 1048576 ≤ 1073741824; decide, by show 0 ≤ 1048576; decide, by show 0 ≤ 9223372036854775807; decide⟩
    have hone : Jl.One ⟨[⟨[106, 55], [], 0⟩], 1048576, 0, 1, false, 0, false⟩ [106, 55] [] 0 := ⟨rfl, rfl, hn7⟩
    have e2 := hone.append b.data.toList (by rw [hbl, List.length_nil]; omega) (by rw [hbl, List.length_nil]; show 0 + b.size ≤ 1048576; omega)
    have G2 := Dk.append_good G1 [106, 55] b.data.toList
    refine ⟨_, e1, (Dk.append ⟨[⟨[106, 55], [], 0⟩], 1048576, 0, 1, false, 0, false⟩ [106, 55] b.data.toList).1, ?_, G1, G2⟩
    rw [e2]
    rfl
  obtain ⟨⟨usA, gA, cA⟩, hA⟩ : ∃ z, Jl.lookR M2 7 sq l = z := ⟨_, rfl⟩
  obtain ⟨⟨usB, gB, cB⟩, hBq⟩ : ∃ z, Jl.lookR M2 7 0 64 = z := ⟨_, rfl⟩
  have lA := Jl.lookR_len hg2 hA
  have lB := Jl.lookR_len hg2 hBq
  have lA2 : usA.length ≤ 4398046511104 := by omega
  have lB2 : usB.length ≤ 4398046511104 := by omega
  have kc1 := fun {w : World} {d r : Nat} (h : Jl.Bi W.heap.size W w d (Dk.fresh 1048576) r (Dk.fresh 1048576)) => h.call1 (m2 := M1) hg1 fun F hA hG => (by
    have := Dk.create_any hA hG ⟨#[106, 55]⟩ (by decide)
    rw [show (⟨#[106, 55]⟩ : ByteArray).data.toList = [106, 55] from rfl, hM1] at this
    exact this)
  have kc2 := fun {w : World} {d r : Nat} (h : Jl.Bi W.heap.size W w d M2 r (Dk.fresh 1048576)) => h.call2 (m2 := M1) hg1 fun F hA hG => (by
    have := Dr.create_any hA hG ⟨#[106, 55]⟩ (by decide)
    rw [show (⟨#[106, 55]⟩ : ByteArray).data.toList = [106, 55] from rfl, hM1] at this
    exact this)
  have ka1 := fun {w : World} {d r : Nat} (h : Jl.Bi W.heap.size W w d M1 r (Dk.fresh 1048576)) => h.call1 (m2 := M2) hg2 fun F hA hG => (by
    have := Dk.append_any hA hG ⟨#[106, 55]⟩ b (by decide) (by omega)
    rw [show (⟨#[106, 55]⟩ : ByteArray).data.toList = [106, 55] from rfl, hM2] at this
    exact this)
  have ka2 := fun {w : World} {d r : Nat} (h : Jl.Bi W.heap.size W w d M2 r M1) => h.call2 (m2 := M2) hg2 fun F hA hG => (by
    have := Dr.append_any hA hG ⟨#[106, 55]⟩ b (by decide) (by omega)
    rw [show (⟨#[106, 55]⟩ : ByteArray).data.toList = [106, 55] from rfl, hM2] at this
    exact this)
  obtain ⟨wn, hwn⟩ : ∃ wn, M2.writes = wn := ⟨_, rfl⟩
  have kwr := fun {w : World} {d r : Nat} (h : Jl.Bi W.heap.size W w d M2 r M2) => h.ask1 fun F hA hG => Dk.writes_any hA
  rw [hwn] at kwr
  have klA := fun {w X : World} {d r : Nat} (h : Jl.Bi W.heap.size W w d M2 r M2) (hX : Below w.heap.size w X) => Jl.look_bi h hX hTB hPB 7 sq l hA
  have klB := fun {w X : World} {d r : Nat} (h : Jl.Bi W.heap.size W w d M2 r M2) (hX : Below w.heap.size w X) => Jl.look_bi h hX hTB hPB 7 0 64 hBq
  have krA := fun {w X : World} {d r : Nat} (h : Jl.Bi W.heap.size W w d M2 r M2) (hX : Below w.heap.size w X) => Jl.refLook_bi h hX hPB 7 sq l hA
  have krB := fun {w X : World} {d r : Nat} (h : Jl.Bi W.heap.size W w d M2 r M2) (hX : Below w.heap.size w X) => Jl.refLook_bi h hX hPB 7 0 64 hBq
  clear hA hBq hM1 hM2 hg1 hg2 hwn hbl hn7 hT hP hbig
  go_enter Tryd.func3, Tryd.ntmps3
  go_wp2_with (first
    | (go_at_call 6; refine k0.mono ?_; clear k0; rintro e w1 ⟨d, rfl, S1⟩)
    | (go_at_call 7; refine (k00 _).mono ?_; clear k00; rintro e w2 ⟨r, F, rfl, hA, hB, hF⟩; have D2 := hbi S1 hA hB hF; clear S1 hA hB hF hbi)
    | (go_at_call 8; refine (kc1 D2).mono ?_; clear kc1; rintro e w3 ⟨rfl, D3⟩; clear D2)
    | (go_at_call 9; refine (ka1 D3).mono ?_; clear ka1; rintro e w4 ⟨rfl, D4⟩; clear D3)
    | (go_at_call 10; refine (kc2 D4).mono ?_; clear kc2; rintro e w5 ⟨rfl, D5⟩; clear D4)
    | (go_at_call 11; refine (ka2 D5).mono ?_; clear ka2; rintro e ws ⟨rfl, Ds⟩; clear D5; have u0 := Below.refl ws.heap.size ws)
    | (go_at_call 12; refine (kwr Ds).mono ?_; rintro e w' ⟨rfl, rfl⟩)
    | (go_at_call 13; refine (klA Ds u0).mono ?_; rintro e x1 ⟨⟨A1, c1, rfl, o1⟩, b1⟩; clear u0; have ol := o1; have cu1 := Jl.Cu.start b1)
    | (go_at_call 13; refine (klA Ds cu1.below).mono ?_; rintro e x2 ⟨⟨A2, c2, rfl, o2⟩, b2⟩; have ol2 : Jl.Own x2 ws.heap.size (.slice A1 usA.length c1) usA := Jl.row_grown ol (Jl.grown_of b2); have cu2 := cu1.add b2 o2; clear cu1 o2)
    | (go_at_call 13; refine (klB Ds cu2.below).mono ?_; rintro e x3 ⟨⟨A3, c3, rfl, o3⟩, b3⟩; have ol3 : Jl.Own x3 ws.heap.size (.slice A1 usA.length c1) usA := Jl.row_grown ol2 (Jl.grown_of b3); have cu3 := cu2.add b3 o3; clear cu2 o3)
    | (go_at_call 13; refine (klB Ds cu3.below).mono ?_; rintro e x4 ⟨⟨A4, c4, rfl, o4⟩, b4⟩; have ol4 : Jl.Own x4 ws.heap.size (.slice A1 usA.length c1) usA := Jl.row_grown ol3 (Jl.grown_of b4); have cu4 := cu3.add b4 o4; clear cu3 o4)
    | (go_at_call 13; refine (klA Ds cu4.below).mono ?_; rintro e x5 ⟨⟨A5, c5, rfl, o5⟩, b5⟩; have ol5 : Jl.Own x5 ws.heap.size (.slice A1 usA.length c1) usA := Jl.row_grown ol4 (Jl.grown_of b5); have cu5 := cu4.add b5 o5; clear cu4 o5)
    | (go_at_call 14; refine (krA Ds cu5.below).mono ?_; rintro e x6 ⟨⟨A6, c6, rfl, o6⟩, b6⟩; have ol6 : Jl.Own x6 ws.heap.size (.slice A1 usA.length c1) usA := Jl.row_grown ol5 (Jl.grown_of b6); have cu6 := cu5.add b6 o6; clear cu5 o6)
    | (go_at_call 14; refine (krB Ds cu6.below).mono ?_; rintro e x7 ⟨⟨A7, c7, rfl, o7⟩, b7⟩; have ol7 : Jl.Own x7 ws.heap.size (.slice A1 usA.length c1) usA := Jl.row_grown ol6 (Jl.grown_of b7); have cu7 := cu6.add b7 o7; clear cu6 o7)
    | (go_at_call 15; refine (Jl.same_true A1 A6 c1 c6 usA _ ol7.lie (cu7.lie (c := c6) (n := usA.length) (by simp)) lA2).mono ?_; rintro e x8 ⟨rfl, b8⟩; have cu8 := cu7.later b8; have ol8 : Jl.Own x8 ws.heap.size (.slice A1 usA.length c1) usA := Jl.row_grown ol7 (Jl.grown_of b8); clear cu7 b8)
    | (go_at_call 15; refine (Jl.Cu.same (A := A2) (A' := A6) (c := c2) (c' := c6) (us := usA) cu8 lA2 (by simp) (by simp)).mono ?_; rintro e x9 ⟨rfl, cu9, b9⟩; have ol9 : Jl.Own x9 ws.heap.size (.slice A1 usA.length c1) usA := Jl.row_grown ol8 (Jl.grown_of b9); clear cu8 b9)
    | (go_at_call 15; refine (Jl.Cu.same (A := A3) (A' := A7) (c := c3) (c' := c7) (us := usB) cu9 lB2 (by simp) (by simp)).mono ?_; rintro e x10 ⟨rfl, cu10, b10⟩; have ol10 : Jl.Own x10 ws.heap.size (.slice A1 usA.length c1) usA := Jl.row_grown ol9 (Jl.grown_of b10); clear cu9 b10)
    | (go_at_call 15; refine (Jl.Cu.same (A := A4) (A' := A7) (c := c4) (c' := c7) (us := usB) cu10 lB2 (by simp) (by simp)).mono ?_; rintro e x11 ⟨rfl, cu11, b11⟩; have ol11 : Jl.Own x11 ws.heap.size (.slice A1 usA.length c1) usA := Jl.row_grown ol10 (Jl.grown_of b11); clear cu10 b11)
    | (go_at_call 15; refine (Jl.Cu.same (A := A5) (A' := A6) (c := c5) (c' := c6) (us := usA) cu11 lA2 (by simp) (by simp)).mono ?_; rintro e x12 ⟨rfl, cu12, b12⟩; have ol12 : Jl.Own x12 ws.heap.size (.slice A1 usA.length c1) usA := Jl.row_grown ol11 (Jl.grown_of b12); clear cu11 b12))
  obtain ⟨L, hLe⟩ : ∃ L : List (Value × List Jn.Upd), L = [(.slice A2 usA.length c2, usA), (.slice A3 usB.length c3, usB), (.slice A4 usB.length c4, usB), (.slice A5 usA.length c5, usA), (.slice A6 usA.length c6, usA), (.slice A7 usB.length c7, usB)] := ⟨_, rfl⟩
  have cw : Jl.Cu ws x1.heap.size x7.heap.size L x12 := by rw [hLe]; exact cu12
  have m2 : (.slice A2 usA.length c2, usA) ∈ L := by rw [hLe]; simp
  have m3 : (.slice A3 usB.length c3, usB) ∈ L := by rw [hLe]; simp
  have m4 : (.slice A4 usB.length c4, usB) ∈ L := by rw [hLe]; simp
  have m5 : (.slice A5 usA.length c5, usA) ∈ L := by rw [hLe]; simp
  have m6 : (.slice A6 usA.length c6, usA) ∈ L := by rw [hLe]; simp
  have m7 : (.slice A7 usB.length c7, usB) ∈ L := by rw [hLe]; simp
  have al : Jl.Any x12 ws.heap.size (.slice A1 usA.length c1) usA.length := ⟨_, ol12⟩
  have hvl := fun k (hk : (Value.slice A1 usA.length c1).ownBlock = some k) => o1.lt hk
  clear hLe cu12 o1 ol12
  go_loopw [34] (fun i wr => ∃ k, k ≤ usA.length ∧ i = .int .i64 (k : Nat) ∧ Jl.Any wr ws.heap.size (.slice A1 usA.length c1) usA.length ∧ Jl.Cu ws x1.heap.size x7.heap.size L wr) (fun i _ => usA.length - (intOf i).toNat)
  case atStart => exact ⟨0, Nat.zero_le _, rfl, al, cw⟩
  case round =>
    clear al cw
    obtain ⟨k, hk, rfl, hal, hcu⟩ := hrel
    by_cases hlt : k < usA.length
    · obtain ⟨g, cap, cur, hv, hg, hblk, hcap, hmax, hcs⟩ := hal.form (by omega)
      injection hv with hv1 hv2 hv3
      clear hv2
      subst hv1 hv3
      have hgl := hvl g rfl
      have s0 : k * 4 < cur.size := by omega
      have s1 : k * 4 + 1 < cur.size := by omega
      have s2 : k * 4 + 2 < cur.size := by omega
      have s3 : k * 4 + 3 < cur.size := by omega
      have f0 : wr.cell? ⟨g, k * 4, none⟩ = some cur[k * 4] := (hblk.cell _).trans (Array.getElem?_eq_getElem s0)
      have f1 : wr.cell? ⟨g, k * 4 + 1, none⟩ = some cur[k * 4 + 1] := (hblk.cell _).trans (Array.getElem?_eq_getElem s1)
      have f2 : wr.cell? ⟨g, k * 4 + 2, none⟩ = some cur[k * 4 + 2] := (hblk.cell _).trans (Array.getElem?_eq_getElem s2)
      have f3 : wr.cell? ⟨g, k * 4 + 3, none⟩ = some cur[k * 4 + 3] := (hblk.cell _).trans (Array.getElem?_eq_getElem s3)
      have z0 := hblk.frozen (k * 4)
      have z1 := hblk.frozen (k * 4 + 1)
      have z2 := hblk.frozen (k * 4 + 2)
      have z3 := hblk.frozen (k * 4 + 3)
      have hj0 : (0 : Int) ≤ (k : Int) := by omega
      have hj1 : (k : Int) < (usA.length : Int) := by omega
      have u1 : decide (k < usA.length) = true := decide_eq_true hlt
      have hO : Dk.Only (fun q => (ws.heap.size ≤ q ∧ q < x1.heap.size) ∨ x7.heap.size ≤ q) wr ((((wr.setCell ⟨g, k * 4, none⟩ (.int .i64 (-1))).setCell ⟨g, k * 4 + 1, none⟩ (.int .i64 0)).setCell ⟨g, k * 4 + 2, none⟩ (.int .i64 0)).setCell ⟨g, k * 4 + 3, none⟩ (.string ⟨#[]⟩)) :=
        ((((Dk.Only.refl _ wr).setCell (p := ⟨g, k * 4, none⟩) (.inl (.inl hgl)) _).setCell (p := ⟨g, k * 4 + 1, none⟩) (.inl (.inl hgl)) _).setCell (p := ⟨g, k * 4 + 2, none⟩) (.inl (.inl hgl)) _).setCell (p := ⟨g, k * 4 + 3, none⟩) (.inl (.inl hgl)) _
      have hcu2 := hcu.turn hO
      have hb2 := (((hblk.set_ (k * 4) (.int .i64 (-1))).set_ (k * 4 + 1) (.int .i64 0)).set_ (k * 4 + 2) (.int .i64 0)).set_ (k * 4 + 3) (.string ⟨#[]⟩)
      have hal2 := Jl.Any.of (n := usA.length) hg hb2 hcap hmax (by simp; exact hcs)
      clear hO hb2 hcu hal hblk
      go_wp2_with fail
      go_roundw
      case rel => exact ⟨k + 1, hlt, by go_num, hal2, hcu2⟩
      case measure => simp [intOf]; omega
    · obtain rfl : k = usA.length := by omega
      clear hlt hk
      obtain ⟨xs, hown⟩ := hal
      have hws := hcu.below.size
      have htz := hcu.2.2.2.1
      have hown2 := hown.alloc (.cells (Jl.markC (-2)) 39)
      have HN := Lib.hid (Jl.news (Blk.new wr 39 (Jl.markC (-2))))
      have hap1 : usA.length + 1 ≤ maxLen := by unfold maxLen; omega
      have hap2 : (usA.length + 1) * 40 ≤ 140737488355328 := by omega
      have hap3 : ws.heap.size ≤ (wr.alloc (.cells (Jl.markC (-2)) 39)).heap.size := by rw [World.size_alloc]; omega
      unfold Jl.markC at hown2 HN hap3
      go_wp2_with (at_builtin; refine wpList_append_lies (hs := ?e1) (hx := ?e2) (hown := hown2) (hnews := HN.out) _ rfl (.tmp 148) (.tmp 150) 32 ?e0 ws.heap.size 39 i0 (.agg #[.int .i64 0, .int .i64 0, .int .i64 0, .string ⟨#[]⟩]) 4 40 Tryd.underlying32 hi hz0 hz1 hz2 ?e3 (by decide) (.slice A1 usA.length c1) usA.length xs ⟨wr.heap.size, 0, none⟩ 1 1 [.int .i64 (-2), .int .i64 0, .int .i64 0, .string ⟨#[]⟩] ?e4 (by simp [Value.oneCell']) (by decide) hap1 hap2 hap3 _ rfl ?_)
      case e0 => rfl
      (try (case e3 => rfl))
      (try (case e4 => rfl))
      (try (case e1 => simp [Act.eval]))
      (try (case e2 => simp [Act.eval]))
      intro g2 cap2 x13 hown3 hgr3 hat3 hlt3
      have hO3 : Dk.Only (fun q => (ws.heap.size ≤ q ∧ q < x1.heap.size) ∨ x7.heap.size ≤ q) wr x13 := ((Dk.Only.refl _ wr).alloc _).grown hgr3 fun q hq => .inl (.inl (hvl q hq))
      have cu13 := hcu.turn hO3
      have hz13 := cu13.below.size
      have hm13 : (ws.heap.size ≤ g2 ∧ g2 < x1.heap.size) ∨ x7.heap.size ≤ g2 := by
        rcases hat3 with h | h
        · exact .inl (hvl _ h)
        · exact .inr (by omega)
      have hA13 : Jl.Any x13 ws.heap.size (.slice (some ⟨g2, 0, none⟩) (usA.length + 1 + 0) cap2) (usA.length + 1 + 0) := ⟨_, hown3⟩
      clear hown hown2 HN hown3 hgr3 hat3 hlt3 hO3 hcu hap1 hap2 hap3 hws htz
      go_wp2_with fail
      go_loopw [35, 36] (fun v i wr => ∃ j g cap, j ≤ 64 ∧ i = .int .i64 (j : Nat) ∧ v = .slice (some ⟨g, 0, none⟩) (usA.length + 1 + j) cap ∧ Jl.Any wr ws.heap.size (.slice (some ⟨g, 0, none⟩) (usA.length + 1 + j) cap) (usA.length + 1 + j) ∧ ((ws.heap.size ≤ g ∧ g < x1.heap.size) ∨ x7.heap.size ≤ g) ∧ Jl.Cu ws x1.heap.size x7.heap.size L wr) (fun _ i _ => 64 - (intOf i).toNat)
      case atStart => exact ⟨0, g2, cap2, Nat.zero_le _, rfl, rfl, hA13, hm13, cu13⟩
      case round =>
        clear hA13 hm13 cu13 hz13
        obtain ⟨j, g, cap, hj, rfl, rfl, hal, hmine, hcu⟩ := hrel
        by_cases hlt : j < 64
        · obtain ⟨xs, hown⟩ := hal
          have hws := hcu.below.size
          have htz := hcu.2.2.2.1
          obtain ⟨len, hlen⟩ : ∃ len, usA.length + 1 + j = len := ⟨_, rfl⟩
          rw [hlen] at hown
          have HLEN := Lib.hid hlen
          have hl70 : len ≤ 268435600 := by omega
          have hown2 := hown.alloc (.cells (Jl.markC (-2)) 39)
          have HN := Lib.hid (Jl.news (Blk.new wr 39 (Jl.markC (-2))))
          have hap1 : len + 1 ≤ maxLen := by unfold maxLen; omega
          have hap2 : (len + 1) * 40 ≤ 140737488355328 := by omega
          have hap3 : ws.heap.size ≤ (wr.alloc (.cells (Jl.markC (-2)) 39)).heap.size := by rw [World.size_alloc]; omega
          have u1 : decide ((j : Int) < 64) = true := decide_eq_true (by omega)
          have u2 : decide (j < 64) = true := decide_eq_true hlt
          have u3 : (j : Int) < 64 := by omega
          unfold Jl.markC at hown2 HN hap3
          rw [hlen]
          clear hlen
          go_wp2_with (at_builtin; refine wpList_append_lies (hs := ?d1) (hx := ?d2) (hown := hown2) (hnews := HN.out) _ rfl (.tmp 156) (.tmp 158) 32 ?d0 ws.heap.size 39 i0 (.agg #[.int .i64 0, .int .i64 0, .int .i64 0, .string ⟨#[]⟩]) 4 40 Tryd.underlying32 hi hz0 hz1 hz2 ?d3 (by decide) (.slice (some ⟨g, 0, none⟩) len cap) len xs ⟨wr.heap.size, 0, none⟩ 1 1 [.int .i64 (-2), .int .i64 0, .int .i64 0, .string ⟨#[]⟩] ?d4 (by simp [Value.oneCell']) (by decide) hap1 hap2 hap3 _ rfl ?_)
          case d0 => rfl
          (try (case d3 => rfl))
          (try (case d4 => rfl))
          (try (case d1 => simp [Act.eval]))
          (try (case d2 => simp [Act.eval]))
          intro g3 cap3 x14 hown3 hgr3 hat3 hlt3
          have hO3 : Dk.Only (fun q => (ws.heap.size ≤ q ∧ q < x1.heap.size) ∨ x7.heap.size ≤ q) wr x14 := ((Dk.Only.refl _ wr).alloc _).grown hgr3 fun q hq => by
            injection hq with hq
            subst hq
            exact .inl hmine
          have cu14 := hcu.turn hO3
          have hm14 : (ws.heap.size ≤ g3 ∧ g3 < x1.heap.size) ∨ x7.heap.size ≤ g3 := by
            rcases hat3 with h | h
            · injection h with h
              subst h
              exact hmine
            · exact .inr (by omega)
          have hA14 : Jl.Any x14 ws.heap.size (.slice (some ⟨g3, 0, none⟩) (len + 1) cap3) (len + 1) := ⟨_, hown3⟩
          clear hown hown2 HN hown3 hgr3 hat3 hlt3 hO3 hcu hap1 hap2 hap3 hws htz hmine
          go_wp2_with fail
          go_roundw
          case rel => exact ⟨j + 1, g3, cap3, hlt, by go_num, by rw [← HLEN.out]; rfl, by rw [← Nat.add_assoc, HLEN.out]; exact hA14, hm14, cu14⟩
          case measure => simp [intOf]; omega
        · obtain rfl : j = 64 := by omega
          clear hal hmine hlt hj
          have cu14 := hcu
          clear hcu
          have lw : IntKind.i64.wrap ((usA.length : Int) + 65) = (usA.length : Int) + 65 := IntWalk.i64_in _ (by omega)
          have p1 : ((gA : Int) == (gA : Int)) = true := beq_self_eq_true _
          have p2 : (cA == cA) = true := beq_self_eq_true _
          have p3 : (wn == wn) = true := beq_self_eq_true _
          have p4 : (((usA.length + 1 + 64 : Nat) : Int) == (usA.length : Int) + 65) = true := by rw [beq_iff_eq]; omega
          have p5 : ((usA.length : Int) + 1 + 64 == (usA.length : Int) + 65) = true := by rw [beq_iff_eq]; omega
          clear hvl
          go_wp2_with (first
            | (go_at_call 15; refine (Jl.Cu.same cu14 lA2 m2 m6).mono ?_; rintro e y15 ⟨rfl, cu15, _⟩; clear cu14)
            | (go_at_call 15; refine (Jl.Cu.same cu15 lB2 m3 m7).mono ?_; rintro e y16 ⟨rfl, cu16, _⟩; clear cu15)
            | (go_at_call 15; refine (Jl.Cu.same cu16 lB2 m4 m7).mono ?_; rintro e y17 ⟨rfl, cu17, _⟩; clear cu16)
            | (go_at_call 15; refine (Jl.Cu.same cu17 lA2 m5 m6).mono ?_; rintro e y18 ⟨rfl, cu18, _⟩; clear cu17)
            | (go_at_call 13; refine (klA Ds cu18.below).mono ?_; rintro e y19 ⟨⟨A8, c8, rfl, o8⟩, b8⟩; have cu19 := cu18.add b8 o8; have n8 := List.mem_append_right L (List.mem_singleton.2 (rfl : (Value.slice A8 usA.length c8, usA) = (Value.slice A8 usA.length c8, usA))); clear cu18)
            | (go_at_call 15; refine (Jl.Cu.same cu19 lA2 n8 (List.mem_append_left _ m6)).mono ?_; rintro e y20 ⟨rfl, cu20, _⟩; clear cu19)
            | (go_at_call 15; refine (Jl.Cu.same cu20 lA2 (List.mem_append_left _ m2) (List.mem_append_left _ m6)).mono ?_; rintro e y21 ⟨rfl, cu21, _⟩; clear cu20)
            | (go_at_call 15; refine (Jl.Cu.same cu21 lB2 (List.mem_append_left _ m3) (List.mem_append_left _ m7)).mono ?_; rintro e y22 ⟨rfl, cu22, _⟩; clear cu21)
            | (go_at_call 15; refine (Jl.Cu.same cu22 lB2 (List.mem_append_left _ m4) (List.mem_append_left _ m7)).mono ?_; rintro e y23 ⟨rfl, cu23, _⟩; clear cu22)
            | (go_at_call 15; refine (Jl.Cu.same cu23 lA2 (List.mem_append_left _ m5) (List.mem_append_left _ m6)).mono ?_; rintro e y24 ⟨rfl, cu24, _⟩; clear cu23)
            | (go_at_call 16; refine (kn _ _).mono ?_; rintro e w' ⟨rfl, rfl⟩)
            | (go_at_call 12; refine (kwr (Ds.later cu24.below)).mono ?_; rintro e w' ⟨rfl, rfl⟩))
          go_ret
          exact ⟨rfl, Ds.below.trans (cu24.below.mono Ds.size)⟩
theorem Jl.jlook_card (b : ByteArray) (sq l : Int) (hb : b.size ≤ 140737488355328) (W : World) (hT : TabS W) (hP : PowT W) :
    Calls Tryd.prog 3 #[.string b, .int .i64 sq, .int .i64 l] W fun e W' => e = .returned (.bool true) ∧ Below W.heap.size W W' := Jl.jlook_walk b sq l W hb hT hP
#print axioms Jl.jlook_walk
end Go.Proofs.YthhkebkpophkiaaDoor
