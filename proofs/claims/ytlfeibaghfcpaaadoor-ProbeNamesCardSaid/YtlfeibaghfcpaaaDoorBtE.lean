/- Contract of bits.Split: the values of a code's chunks. Conditions: each theorem's own hypotheses. -/
import Derived.Test.YtlfeibaghfcpaaaDoorBtD
import Derived.Stop.RegionWithIn
namespace Go.Proofs.YtlfeibaghfcpaaaDoor
open Go.RowKit Go.Shelf
set_option linter.unusedVariables false
attribute [local go_sem] Oper.semAt_some

theorem Bt.from_eq (w m : Nat) : ∀ j, Bt.from_ w m j = j * (w / m) + min j (w % m)
  | 0 => by simp [Bt.from_]
  | j + 1 => by
    unfold Bt.from_
    rw [Bt.from_eq w m j, Nat.add_mul]
    unfold Bt.bits
    split <;> omega
theorem Bt.from_end (w m : Nat) (hm : 1 ≤ m) {j : Nat} (hj : j < m) : Bt.from_ w m j + Bt.bits w m j ≤ w := by
  have h : Bt.from_ w m j + Bt.bits w m j = Bt.from_ w m (j + 1) := rfl
  rw [h, Bt.from_eq]
  have h1 := Nat.div_add_mod w m
  have h2 := Nat.mod_lt w (show 0 < m by omega)
  have h3 : (j + 1) * (w / m) ≤ m * (w / m) := Nat.mul_le_mul_right _ (by omega)
  by_cases e : j + 1 = m
  · rw [e, Nat.min_eq_right (by omega)]; omega
  · have h4 : (j + 1) * (w / m) + (w / m) ≤ m * (w / m) := by
      have := Nat.mul_le_mul_right (w / m) (show j + 1 + 1 ≤ m by omega)
      rw [Nat.add_mul (j + 1), Nat.one_mul] at this
      exact this
    have : min (j + 1) (w % m) ≤ w % m := Nat.min_le_right _ _
    omega
/-- The value of chunk j of a code. -/
def Bt.val (l : List UInt8) (w m j : Nat) : Nat := Bt.num l (Bt.from_ w m j) (Bt.bits w m j)
def Bt.vals (l : List UInt8) (w m k : Nat) : List Value := (List.range k).map fun j => .int .i64 (Bt.val l w m j : Nat)
theorem Bt.vals_succ (l : List UInt8) (w m k : Nat) : Bt.vals l w m (k + 1) = Bt.vals l w m k ++ [.int .i64 (Bt.val l w m k : Nat)] := by simp [Bt.vals, List.range_succ]

set_option maxRecDepth 100000 in
set_option maxHeartbeats 2000000 in
/-- The closure of chunks: for every loop body that keeps the two boxes. -/
theorem chunksK_in (F : Fence) (n : Nat) (hf : F.fn 49) (hro : F.round = none) (hn : 1 ≤ n) (l bm bw w m : Nat) (hw : w ≤ 1024) (hm : 1 ≤ m ∧ m ≤ 128) (J Jx : Nat → World → Prop)
    (hY : ∀ k W, k < m → J k W → YieldAt F (n - 1) Tryd.prog l (Bt.enc (Bt.ck w m k)) W fun e W' =>
      (e = .returned (.bool true) ∧ J (k + 1) W' ∧ Bt.Kp bm bw w m W W') ∨ (e = .returned (.bool false) ∧ Jx (k + 1) W'))
    (W : World) (cm : Boxed W bm 3 (.int .i64 (m : Int))) (cw : Boxed W bw 3 (.int .i64 (w : Int))) (h0 : J 0 W) :
    CallsIn F n Tryd.prog 49 #[.func (.yield l) #[] #[], .pointer (some ⟨bm, 0, none⟩), .pointer (some ⟨bw, 0, none⟩)] W fun e W' => (∃ v, e = .returned v) ∧
      (J m W' ∨ (∃ k, k ≤ m ∧ Jx k W')) := by
  refine callsIn_of_wp Tryd.func49 rfl hf ?_ hro
  simp only [Tryd.ntmps49, List.size_toArray, List.length_cons, List.length_nil, Nat.reduceAdd, Nat.reduceSub, Array.replicate_succ, Array.replicate_zero, List.push_toArray, List.append_toArray, List.nil_append, List.cons_append]
  obtain ⟨d, hd⟩ : ∃ d, w / m = d := ⟨_, rfl⟩
  obtain ⟨r, hr⟩ : ∃ r, w % m = r := ⟨_, rfl⟩
  have hdl : d ≤ 1024 := by rw [← hd]; exact Nat.le_trans (Nat.div_le_self _ _) hw
  have ed : (w : Int) / (m : Int) = (d : Int) := by rw [← hd]; rfl
  have er : (w : Int) % (m : Int) = (r : Int) := by rw [← hr]; rfl
  have hm0 : ((m : Int) == 0) = false := by rw [beq_eq_false_iff_ne]; omega
  have hmp : (0 : Int) < (m : Int) := by omega
  have hwp : (0 : Int) ≤ (w : Int) := by omega
  have HD := Lib.hid (And.intro hd hr)
  have cm0 := cm.cell
  have cw0 := cw.cell
  clear hd hr
  gi_wp2
  gi_loopw [4, 8] (fun a i wr => ∃ k : Nat, k ≤ m ∧ i = .int .i64 k ∧ a = .int .i64 (Bt.from_ w m k : Nat) ∧ J k wr ∧ Bt.Kp bm bw w m W wr)
    (fun _ i _ => m - (intOf i).toNat)
  case atStart => exact ⟨0, Nat.zero_le _, rfl, rfl, h0, Bt.Kp.refl _ _ _ _ _⟩
  case round =>
    obtain ⟨k, hk, rfl, rfl, hJs, hnx⟩ := hrel
    have hcm : wr.cell? ⟨bm, 0, none⟩ = some (.int .i64 (m : Int)) := (hnx.1 cm).cell
    have hcw : wr.cell? ⟨bw, 0, none⟩ = some (.int .i64 (w : Int)) := (hnx.2 cw).cell
    obtain ⟨p, hp⟩ : ∃ p, Bt.from_ w m k = p := ⟨_, rfl⟩
    have hpl : p ≤ 132000 := by
      rw [← hp]
      refine Nat.le_trans (Bt.from_le w m hm.1 k) (Nat.le_trans (Nat.mul_le_mul (Nat.le_trans hk hm.2) (Nat.add_le_add_right hw 1)) (by decide))
    rw [hp]
    by_cases hlt : k < m
    · by_cases hkr : k < r
      · have hck : Bt.ck w m k = (k, p, d + 1) := by obtain ⟨e1, e2⟩ := HD.out; unfold Bt.ck Bt.bits; rw [hp, e1, e2, if_pos hkr]
        have hY1 := hY k wr hlt hJs
        rw [hck] at hY1
        obtain ⟨fn, tmps, assign, body, hy, hR⟩ := hY1
        unfold Bt.enc at hy
        dsimp only at hy
        rw [show (((d + 1 : Nat)) : Int) = (d : Int) + 1 from by omega] at hy
        have HP := Lib.hid (And.intro hp hck)
        have hd1 : (0 : Int) ≤ (d : Int) := by omega
        have hd2 : (d : Int) ≤ 1024 := by omega
        clear hp hck
        gi_wp2
        refine hR.mono ?_
        rintro e W3 (⟨rfl, hJ3, hk3⟩ | ⟨rfl, hJx3⟩)
        · gi_wp2
          go_roundw
          case rel => exact ⟨k + 1, by omega, by go_num, by obtain ⟨e1, e2⟩ := HP.out; have e3 := congrArg (fun x => x.2.2) e2; simp only [Bt.ck] at e3; rw [Bt.from_, e1, e3]; go_num, hJ3, hnx.trans hk3⟩
          case measure => simp [intOf]; omega
        · gi_wp2
          refine bodyPost_ret (results_none rfl _ _ _) rfl ?_
          exact ⟨⟨_, rfl⟩, .inr ⟨k + 1, by omega, hJx3⟩⟩
      · have hck : Bt.ck w m k = (k, p, d) := by obtain ⟨e1, e2⟩ := HD.out; unfold Bt.ck Bt.bits; rw [hp, e1, e2, if_neg hkr]; rfl
        have hY1 := hY k wr hlt hJs
        rw [hck] at hY1
        obtain ⟨fn, tmps, assign, body, hy, hR⟩ := hY1
        unfold Bt.enc at hy
        dsimp only at hy
        have hkr' : decide (k < r) = false := decide_eq_false hkr
        have HP := Lib.hid (And.intro hp hck)
        have hd1 : (0 : Int) ≤ (d : Int) := by omega
        have hd2 : (d : Int) ≤ 1024 := by omega
        clear hp hck
        gi_wp2
        refine hR.mono ?_
        rintro e W3 (⟨rfl, hJ3, hk3⟩ | ⟨rfl, hJx3⟩)
        · gi_wp2
          go_roundw
          case rel => exact ⟨k + 1, by omega, by go_num, by obtain ⟨e1, e2⟩ := HP.out; have e3 := congrArg (fun x => x.2.2) e2; simp only [Bt.ck] at e3; rw [Bt.from_, e1, e3]; go_num, hJ3, hnx.trans hk3⟩
          case measure => simp [intOf]; omega
        · gi_wp2
          refine bodyPost_ret (results_none rfl _ _ _) rfl ?_
          exact ⟨⟨_, rfl⟩, .inr ⟨k + 1, by omega, hJx3⟩⟩
    · obtain rfl : k = m := by omega
      gi_wp2
      go_end0
      exact ⟨⟨_, rfl⟩, .inl hJs⟩

theorem Bt.fin_take {m k : Nat} (h : k < m) : (List.finRange m).take (k + 1) = (List.finRange m).take k ++ [⟨k, h⟩] := by
  rw [List.take_succ_eq_append_getElem (by simpa using h)]
  simp
theorem chunks_fin (k0 : Nat) (hn : 1 ≤ k0) (bm bw w m : Nat) (hw : w ≤ 1024) (hm : 1 ≤ m ∧ m ≤ 128) (W : World)
    (cm : Boxed W bm 3 (.int .i64 (m : Int))) (cw : Boxed W bw 3 (.int .i64 (w : Int))) :
    SeqStopsK Fence.wide k0 Tryd.prog 49 #[.pointer (some ⟨bm, 0, none⟩), .pointer (some ⟨bw, 0, none⟩)] (fun j : Fin m => Bt.enc (Bt.ck w m j.val)) (Bt.Kp bm bw w m) (fun ys => ys = List.finRange m) (fun _ => True) m W := fun l J Jx W1 hW _ _ hY h0 => by
  refine (chunksK_in Fence.wide k0 trivial rfl hn l bm bw w m hw hm (fun k W' => J ((List.finRange m).take k) W') (fun k W' => Jx ((List.finRange m).take k) W') (fun k W' hk hJ => ?_) W1 ((hW.block _ cm.lt).trans cm) ((hW.block _ cw.lt).trans cw) h0).mono ?_
  · have := hY ((List.finRange m).take k) ⟨k, hk⟩ W' hJ (by simp; omega)
    rw [Bt.fin_take hk]
    exact this
  · rintro e W' ⟨he, h | ⟨k, _, h⟩⟩
    · exact ⟨he, .inl ⟨_, rfl, by simpa [List.take_of_length_le] using h⟩⟩
    · exact ⟨he, .inr ⟨_, trivial, h⟩⟩
end Go.Proofs.YtlfeibaghfcpaaaDoor
