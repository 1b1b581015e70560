/- Contracts of bits.bit, bits.run, its closure and bits.number: bits of a text as a number. Conditions: each theorem's own hypotheses. -/
import Derived.Test.YtlfeibaghfcpaaaDoorBtB
import Derived.Test.YtlfeibaghfcpaaaDoorTx
import Derived.Laws.Bits64
import Derived.Laws.BitsAllLaws
namespace Go.Proofs.YtlfeibaghfcpaaaDoor
open Go.RowKit Go.Shelf
set_option linter.unusedVariables false
attribute [local go_sem] Oper.semAt_some

/-- Bit i of a text. -/
def Bt.bit (l : List UInt8) (i : Nat) : Nat := (l.getD (i / 8) 0).toNat / 2 ^ (7 - i % 8) % 2
theorem Bt.bit_lt (l : List UInt8) (i : Nat) : Bt.bit l i < 2 := Nat.mod_lt _ (by decide)
/-- The number that bits are, the first the highest. -/
def Bt.fold (l : List (Fin 2)) : Nat := l.foldl (fun a b => 2 * a + b.val) 0
theorem Bt.fold_snoc (l : List (Fin 2)) (b : Fin 2) : Bt.fold (l ++ [b]) = 2 * Bt.fold l + b.val := by simp [Bt.fold]
theorem Bt.fold_lt (l : List (Fin 2)) : ∀ n, l.length ≤ n → Bt.fold l < 2 ^ n := by
  induction hl : l.length generalizing l with
  | zero => intro n _; obtain rfl : l = [] := List.length_eq_zero_iff.1 hl; exact Nat.pow_pos (by decide)
  | succ k ih =>
    intro n hn
    have hne : l ≠ [] := by intro e; subst e; simp at hl
    have e := (List.dropLast_concat_getLast hne).symm
    have h1 := ih l.dropLast (by rw [List.length_dropLast]; omega) k (by omega)
    have h2 := (l.getLast hne).isLt
    have h3 := Nat.pow_le_pow_right (n := 2) (by decide) hn
    rw [e, Bt.fold_snoc]
    rw [Nat.pow_succ] at h3
    omega
/-- n bits of a text from one on. -/
def Bt.bitsAt (l : List UInt8) (p n : Nat) : List (Fin 2) := (List.range n).map fun j => ⟨Bt.bit l (p + j), Bt.bit_lt _ _⟩
theorem Bt.bitsAt_succ (l : List UInt8) (p n : Nat) : Bt.bitsAt l p (n + 1) = Bt.bitsAt l p n ++ [⟨Bt.bit l (p + n), Bt.bit_lt _ _⟩] := by simp [Bt.bitsAt, List.range_succ]
theorem Bt.bitsAt_length (l : List UInt8) (p n : Nat) : (Bt.bitsAt l p n).length = n := by simp [Bt.bitsAt]
/-- .. as a number. -/
def Bt.num (l : List UInt8) (p n : Nat) : Nat := Bt.fold (Bt.bitsAt l p n)
theorem Bt.num_lt (l : List UInt8) (p n : Nat) : Bt.num l p n < 2 ^ n := Bt.fold_lt _ n (by rw [Bt.bitsAt_length]; exact Nat.le_refl _)

theorem byte_and_one : ∀ v : Nat, v < 256 → bits .and .i64 (v : Int) 1 = ((v % 2 : Nat) : Int) := by decide +kernel

theorem bit_any (s : ByteArray) (i : Nat) (h : i < 8 * s.size) (hs : s.size ≤ 140737488355328) (W : World) :
    Calls Tryd.prog 64 #[.string s, .int .i64 (i : Int)] W fun e W' => e = .returned (.int .i64 (Bt.bit s.data.toList i : Nat)) ∧ W = W' := by
  obtain ⟨q, hq⟩ : ∃ q, i / 8 = q := ⟨_, rfl⟩
  obtain ⟨r, hr⟩ : ∃ r, i % 8 = r := ⟨_, rfl⟩
  have hqs : q < s.size := by omega
  obtain ⟨c, hc⟩ : ∃ c, s[q] = c := ⟨_, rfl⟩
  obtain ⟨t, ht⟩ : ∃ t, 7 - r = t := ⟨_, rfl⟩
  have hr8 : r < 8 := by omega
  have e1 : (i : Int) / 8 = (q : Int) := by omega
  have e2 : (i : Int) % 8 = (r : Int) := by omega
  have e3 : (7 : Int) - (r : Int) = (t : Int) := by omega
  have ht8 : t ≤ 7 := by omega
  obtain ⟨v, hv⟩ : ∃ v, c.toNat / 2 ^ t = v := ⟨_, rfl⟩
  have hcl := c.toNat_lt
  have hvl : v < 256 := by rw [← hv]; exact Nat.lt_of_le_of_lt (Nat.div_le_self _ _) hcl
  have e4 : (c.toNat : Int) / 2 ^ t = (v : Int) := by rw [← hv]; norm_cast
  have e5 : bits .and .i64 (v : Int) 1 = ((v % 2 : Nat) : Int) := byte_and_one v hvl
  have hfin : Bt.bit s.data.toList i = v % 2 := by
    unfold Bt.bit
    have hlt : q < s.data.toList.length := by rw [← Tx.size]; exact hqs
    have ec : s.data.toList[q] = c := hc
    rw [hq, hr, ht, List.getD_eq_getElem?_getD, List.getElem?_eq_getElem hlt, Option.getD_some, ec, hv]
  have HF := Lib.hid hfin
  clear hq hr hv hfin h ht hcl
  have hv0 : (0 : Int) ≤ (v : Int) := by omega
  have hv1 : (v : Int) ≤ 255 := by omega
  go_enter Tryd.func64, Tryd.ntmps64
  go_wp2_with fail
  go_ret
  exact ⟨by rw [HF.out]; rfl, rfl⟩

/-- What a round keeps: the three boxes that the closure has captured. -/
def Bt.Kb (bf bn bs p n : Nat) (s : ByteArray) (A B : World) : Prop := (Boxed A bf 3 (.int .i64 (p : Int)) → Boxed B bf 3 (.int .i64 (p : Int))) ∧ (Boxed A bn 3 (.int .i64 (n : Int)) → Boxed B bn 3 (.int .i64 (n : Int))) ∧ (Boxed A bs 9 (.string s) → Boxed B bs 9 (.string s))
theorem Bt.Kb.refl (bf bn bs p n : Nat) (s : ByteArray) (A : World) : Bt.Kb bf bn bs p n s A A := ⟨id, id, id⟩
theorem Bt.Kb.trans {bf bn bs p n : Nat} {s : ByteArray} {A B C : World} (h : Bt.Kb bf bn bs p n s A B) (h' : Bt.Kb bf bn bs p n s B C) : Bt.Kb bf bn bs p n s A C := ⟨fun x => h'.1 (h.1 x), fun x => h'.2.1 (h.2.1 x), fun x => h'.2.2 (h.2.2 x)⟩
theorem Bt.Kb.put {bf bn bs p n : Nat} {s : ByteArray} (W : World) (l : Nat) (o o' : Obj) (hl : W.heap[l]? = some o) (ho : o.isCells = false) : Bt.Kb bf bn bs p n s W (W.putObj l o') := ⟨fun h => Bt.boxed_put h hl ho, fun h => Bt.boxed_put h hl ho, fun h => Bt.boxed_put h hl ho⟩
def Bt.encB (b : Fin 2) : Array Value := #[.int .i64 (b.val : Int)]

set_option maxRecDepth 100000 in
set_option maxHeartbeats 2000000 in
/-- The closure of run: for every loop body that keeps the three boxes. -/
theorem run1_in (k0 : Nat) (hn : 2 ≤ k0) (l bf bn bs p n : Nat) (s : ByteArray) (hs : s.size ≤ 140737488355328) (hp : p + n ≤ 8 * s.size) (J Jx : List (Fin 2) → World → Prop)
    (hY : ∀ pre x W, J pre W → pre.length < n → YieldAt Fence.wide (k0 - 1) Tryd.prog l (Bt.encB x) W fun e W' =>
      (e = .returned (.bool true) ∧ J (pre ++ [x]) W' ∧ Bt.Kb bf bn bs p n s W W') ∨ (e = .returned (.bool false) ∧ Jx (pre ++ [x]) W'))
    (W : World) (cf : Boxed W bf 3 (.int .i64 (p : Int))) (cn : Boxed W bn 3 (.int .i64 (n : Int))) (cs : Boxed W bs 9 (.string s)) (h0 : J [] W) :
    CallsIn Fence.wide k0 Tryd.prog 63 #[.func (.yield l) #[] #[], .pointer (some ⟨bf, 0, none⟩), .pointer (some ⟨bn, 0, none⟩), .pointer (some ⟨bs, 0, none⟩)] W fun e W' => (∃ v, e = .returned v) ∧
      ((∃ ys, ys = Bt.bitsAt s.data.toList p n ∧ J ys W') ∨ (∃ pre, (∃ k, k ≤ n ∧ pre = Bt.bitsAt s.data.toList p k) ∧ Jx pre W')) := by
  refine callsIn_of_wp Tryd.func63 rfl trivial ?_ rfl
  simp only [Tryd.ntmps63, List.size_toArray, List.length_cons, List.length_nil, Nat.reduceAdd, Nat.reduceSub, Array.replicate_succ, Array.replicate_zero, List.push_toArray, List.append_toArray, List.nil_append, List.cons_append]
  have cf0 := cf.cell
  have hk1 : 1 ≤ k0 := by omega
  gi_wp2
  gi_loopw [5] (fun i wr => ∃ k j : Nat, k ≤ n ∧ j = p + k ∧ i = .int .i64 j ∧ J (Bt.bitsAt s.data.toList p k) wr ∧ Bt.Kb bf bn bs p n s W wr)
    (fun i _ => p + n - (intOf i).toNat)
  case atStart => exact ⟨0, p, Nat.zero_le _, rfl, rfl, h0, Bt.Kb.refl _ _ _ _ _ _ _⟩
  case round =>
    obtain ⟨k, j, hk, hj, rfl, hJs, hnx⟩ := hrel
    have ccf : wr.cell? ⟨bf, 0, none⟩ = some (.int .i64 (p : Int)) := (hnx.1 cf).cell
    have ccn : wr.cell? ⟨bn, 0, none⟩ = some (.int .i64 (n : Int)) := (hnx.2.1 cn).cell
    have ccs : wr.cell? ⟨bs, 0, none⟩ = some (.string s) := (hnx.2.2 cs).cell
    have hb1 : p ≤ 1125899906842624 := by omega
    have hb2 : n ≤ 1125899906842624 := by omega
    by_cases hlt : k < n
    · have hjl : j < 8 * s.size := by omega
      have t1 : decide ((j : Int) < (p : Int) + (n : Int)) = true := by simp; omega
      have hY1 := hY _ (⟨Bt.bit s.data.toList j, Bt.bit_lt _ _⟩ : Fin 2) wr hJs (by rw [Bt.bitsAt_length]; exact hlt)
      obtain ⟨fn, tmps, assign, body, hy, hR⟩ := hY1
      unfold Bt.encB at hy
      dsimp only at hy
      have HJ := Lib.hid hj
      clear hj
      gi_wp2_with (refine ⟨trivial, ?_⟩; gi_at_call 64; refine (callsIn_wide.2 (bit_any s j hjl hs _)).mono ?_; rintro e w' ⟨rfl, rfl⟩)
      refine hR.mono ?_
      rintro e W3 (⟨rfl, hJ3, hk3⟩ | ⟨rfl, hJx3⟩)
      · gi_wp2
        go_roundw
        case rel => exact ⟨k + 1, j + 1, by omega, by have := HJ.out; omega, by go_num, by rw [Bt.bitsAt_succ, ← HJ.out]; exact hJ3, hnx.trans hk3⟩
        case measure => simp [intOf]; have := HJ.out; omega
      · gi_wp2
        refine bodyPost_ret (results_none rfl _ _ _) rfl ?_
        exact ⟨⟨_, rfl⟩, .inr ⟨_, ⟨k + 1, by omega, by rw [Bt.bitsAt_succ, ← HJ.out]⟩, hJx3⟩⟩
    · obtain rfl : k = n := by omega
      have t1 : decide ((j : Int) < (p : Int) + (k : Int)) = false := by simp; omega
      have HJ := Lib.hid hj
      clear hj
      gi_wp2
      go_end0
      exact ⟨⟨_, rfl⟩, .inl ⟨_, rfl, hJs⟩⟩

set_option maxHeartbeats 1000000 in
/-- run: its three values are boxed, the function value captures the boxes. -/
theorem run_in (k0 : Nat) (s : ByteArray) (p n : Int) (W : World) :
    CallsIn Fence.wide k0 Tryd.prog 50 #[.string s, .int .i64 p, .int .i64 n] W fun e W' => e = .returned (.func (.func 63) #[] #[.pointer (some ⟨W.heap.size + 1, 0, none⟩), .pointer (some ⟨W.heap.size + 1 + 1, 0, none⟩), .pointer (some ⟨W.heap.size, 0, none⟩)]) ∧ W' = ((W.alloc (.cells #[.string s] 9)).alloc (.cells #[.int .i64 p] 3)).alloc (.cells #[.int .i64 n] 3) := by
  refine callsIn_of_wp Tryd.func50 rfl trivial ?_ rfl
  simp only [Tryd.ntmps50, List.size_toArray, List.length_cons, List.length_nil, Nat.reduceAdd, Nat.reduceSub, Array.replicate_succ, Array.replicate_zero, List.push_toArray, List.append_toArray, List.nil_append, List.cons_append]
  gi_wp2
  go_ret
  exact ⟨rfl, rfl⟩

theorem run_stops (k0 : Nat) (hn : 2 ≤ k0) (bf bn bs p n : Nat) (s : ByteArray) (hs : s.size ≤ 140737488355328) (hp : p + n ≤ 8 * s.size) (W : World)
    (cf : Boxed W bf 3 (.int .i64 (p : Int))) (cn : Boxed W bn 3 (.int .i64 (n : Int))) (cs : Boxed W bs 9 (.string s)) :
    SeqStopsK Fence.wide k0 Tryd.prog 63 #[.pointer (some ⟨bf, 0, none⟩), .pointer (some ⟨bn, 0, none⟩), .pointer (some ⟨bs, 0, none⟩)] Bt.encB (Bt.Kb bf bn bs p n s) (fun ys => ys = Bt.bitsAt s.data.toList p n) (fun pre => ∃ k, k ≤ n ∧ pre = Bt.bitsAt s.data.toList p k) n W := fun l J Jx W1 hW _ _ hY h0 =>
  run1_in k0 hn l bf bn bs p n s hs hp J Jx hY W1 ((hW.block _ cf.lt).trans cf) ((hW.block _ cn.lt).trans cn) ((hW.block _ cs.lt).trans cs) h0
end Go.Proofs.YtlfeibaghfcpaaaDoor
