/- Contracts of journal.goes and journal.stored. Conditions: each theorem's own hypotheses. -/
import Derived.Test.YthhkebkpophkiaaDoorJnN
import Derived.Test.YthhkebkpophkiaaDoorJnB
import Derived.Test.YthhkebkpophkiaaDoorJlA
import Derived.Test.YthhkebkpophkiaaDoorDkH
import Derived.RangeFuncNested
import Derived.RangeFuncBound
import Derived.RangeFuncCalls
import Derived.RangeFuncLeaves
import Derived.RangeFuncBox
import Derived.Shelf.Abstract
import Derived.OwnWalkIn
import Derived.TacticsInMore
import Derived.LoopNIn
import Derived.LoopIn
import Derived.Maps.AppendAt
import Derived.Test.YthhkebkpophkiaaDoorMem
namespace Go.Proofs.YthhkebkpophkiaaDoor
open Go.RowKit
set_option linter.unusedVariables false

/-- Is it a width? -/
def Jn.wideB (l : Int) : Bool := decide (64 ≤ l) && decide (l ≤ 1024) && (((l.toNat % 64 : Nat) : Int) == 0)
theorem wide_any (l : Int) (w : World) :
    Calls Tryd.prog 69 #[.int .i64 l] w fun e w' => e = .returned (.bool (Jn.wideB l)) ∧ w = w' := by
  unfold Jn.wideB
  by_cases h1 : 64 ≤ l
  rotate_left
  · rw [decide_eq_false h1]
    exact wide_low l w (by omega)
  by_cases h2 : l ≤ 1024
  rotate_left
  · rw [decide_eq_false h2, Bool.and_false]
    exact wide_high l w (by omega)
  obtain ⟨n, rfl⟩ := Int.eq_ofNat_of_zero_le (show 0 ≤ l by omega)
  rw [decide_eq_true h1, decide_eq_true h2]
  exact wide_mid n w (by omega) (by omega) _ rfl
/-- Why there can be no such journal. -/
def Jn.goesE (n sq l : Int) : Int := if n < 1 ∨ 1099511627776 < n then 13 else if Jn.wideB l = false then 10 else if sq < 0 ∨ 1152921504606846976 < sq then 51 else 0
theorem Jn.goesE_zero {n sq l : Int} (h : Jn.goesE n sq l = 0) : (1 ≤ n ∧ n ≤ 1099511627776) ∧ Jn.wideB l = true ∧ (0 ≤ sq ∧ sq ≤ 1152921504606846976) := by
  unfold Jn.goesE at h
  split at h
  · omega
  · split at h
    · omega
    · rename_i h2
      split at h
      · omega
      · exact ⟨by omega, by cases hb : Jn.wideB l with | true => rfl | false => exact absurd hb h2, by omega⟩
theorem Jn.wideB_true {l : Int} (h : Jn.wideB l = true) : 64 ≤ l ∧ l ≤ 1024 ∧ l.toNat % 64 = 0 := by
  unfold Jn.wideB at h
  rw [Bool.and_eq_true, Bool.and_eq_true, decide_eq_true_iff, decide_eq_true_iff, beq_iff_eq] at h
  exact ⟨h.1.1, h.1.2, by omega⟩

set_option maxRecDepth 100000 in
theorem Jl.goes_any (n sq l : Int) (w : World) (hT : PowT w) :
    Calls Tryd.prog 43 #[.int .i64 n, .int .i64 sq, .int .i64 l] w fun e w' => e = .returned (.int .i64 (Jn.goesE n sq l)) ∧ Below w.heap.size w w' := by
  obtain ⟨S, hS, hSd, hSs⟩ := str_of (Jn.name n)
  have k1 := name_any n w hT S hS
  have k2 := fun w => wide_any l w
  unfold Jn.goesE
  by_cases h1 : n < 1 ∨ 1099511627776 < n
  · rw [if_pos h1]
    have q1 : S.toList.isEmpty = true := by
      unfold Jn.name at hSd
      rw [if_pos h1] at hSd
      rw [ByteArray.toList_eq, hSd]
      rfl
    clear hS hSd hSs h1
    go_enter Tryd.func43, Tryd.ntmps43
    go_wp2_with (go_at_call 45; refine k1.mono ?_; rintro e w' ⟨rfl, hB⟩)
    go_ret
    exact ⟨rfl, hB⟩
  rw [if_neg h1]
  have q1 : S.toList.isEmpty = false := by
    unfold Jn.name at hSd
    rw [if_neg h1] at hSd
    rw [ByteArray.toList_eq, hSd]
    rfl
  clear hS hSd hSs h1
  cases hw : Jn.wideB l with
  | false =>
    rw [hw] at k2
    rw [if_pos rfl]
    clear hw
    go_enter Tryd.func43, Tryd.ntmps43
    go_wp2_with (first
      | (go_at_call 45; refine k1.mono ?_; rintro e w' ⟨rfl, hB⟩)
      | (go_at_call 69; refine (k2 _).mono ?_; rintro e w' ⟨rfl, rfl⟩))
    go_ret
    exact ⟨rfl, hB⟩
  | true =>
    rw [hw] at k2
    rw [if_neg (by decide)]
    clear hw
    by_cases h2 : sq < 0
    · have q2 : decide (sq < 0) = true := decide_eq_true h2
      rw [if_pos (.inl h2)]
      go_enter Tryd.func43, Tryd.ntmps43
      go_wp2_with (first
        | (go_at_call 45; refine k1.mono ?_; rintro e w' ⟨rfl, hB⟩)
        | (go_at_call 69; refine (k2 _).mono ?_; rintro e w' ⟨rfl, rfl⟩))
      go_ret
      exact ⟨rfl, hB⟩
    have q2 : decide (sq < 0) = false := decide_eq_false h2
    by_cases h3 : 1152921504606846976 < sq
    · have q3 : decide (1152921504606846976 < sq) = true := decide_eq_true h3
      rw [if_pos (.inr h3)]
      go_enter Tryd.func43, Tryd.ntmps43
      go_wp2_with (first
        | (go_at_call 45; refine k1.mono ?_; rintro e w' ⟨rfl, hB⟩)
        | (go_at_call 69; refine (k2 _).mono ?_; rintro e w' ⟨rfl, rfl⟩))
      go_ret
      exact ⟨rfl, hB⟩
    have q3 : decide (1152921504606846976 < sq) = false := decide_eq_false h3
    rw [if_neg (by omega)]
    go_enter Tryd.func43, Tryd.ntmps43
    go_wp2_with (first
      | (go_at_call 45; refine k1.mono ?_; rintro e w' ⟨rfl, hB⟩)
      | (go_at_call 69; refine (k2 _).mono ?_; rintro e w' ⟨rfl, rfl⟩))
    go_ret
    exact ⟨rfl, hB⟩

/-- What a file's bytes are told as. -/
def Jl.storedV (m : Dk.M) (nm : List UInt8) : Value := if Dk.code m nm = 0 then .tuple #[Tx.v (Dk.data m nm), .int .i64 0] else .tuple #[Tx.v [], .int .i64 (Dk.code m nm)]
theorem Jl.data_len {m : Dk.M} (hG : Dk.Good m) (nm : List UInt8) : (Dk.data m nm).length ≤ 268435456 := by
  unfold Dk.data
  cases hg : Dk.get Dk.F.name nm m.files with
  | none => exact Nat.zero_le _
  | some f => exact (hG.file f (Dk.get_mem hg).1).2.1
set_option maxRecDepth 100000 in
theorem Jl.stored_any {W : World} {d : Nat} {m : Dk.M} {F : Nat → Prop} (h : Dk.At W d m F) (hG : Dk.Good m) (s : ByteArray) (hs : s.size ≤ 9223372036854775807) :
    Calls Tryd.prog 44 #[.pointer (some ⟨d, 0, none⟩), .string s] W fun e W' => e = .returned (Jl.storedV m s.data.toList) ∧ W = W' := by
  have k1 := Dk.size_any h s hs
  have hl := Jl.data_len hG s.data.toList
  have k2 := Dk.read_any h hG s hs 0 (Dk.data m s.data.toList).length (by omega) (by omega)
  unfold Dk.sizeV at k1
  unfold Dk.readV at k2
  unfold Jl.storedV
  obtain ⟨c, hc⟩ : ∃ c, Dk.code m s.data.toList = c := ⟨_, rfl⟩
  rw [hc] at k1 k2 ⊢
  by_cases h0 : c = 0
  · subst h0
    rw [if_pos rfl] at k1 k2 ⊢
    rw [if_neg (by omega), Int.toNat_zero, List.drop_zero, Int.toNat_natCast, List.take_length] at k2
    obtain ⟨n, hn⟩ : ∃ n, (Dk.data m s.data.toList).length = n := ⟨_, rfl⟩
    obtain ⟨D, hD, _⟩ := Tx.of (Dk.data m s.data.toList)
    rw [hn] at k1 k2
    rw [Tx.v_eq hD] at k2 ⊢
    clear hc hl hn hD
    go_enter Tryd.func44, Tryd.ntmps44
    go_wp2_with (first
      | (go_at_call 20; refine k1.mono ?_; rintro e w' ⟨rfl, rfl⟩)
      | (go_at_call 70; refine k2.mono ?_; rintro e w' ⟨rfl, rfl⟩))
    go_ret2
    exact ⟨rfl, rfl⟩
  · rw [if_neg h0] at k1 k2 ⊢
    have q1 : (c != 0) = true := bne_iff_ne.2 h0
    clear hc hl k2 h0
    go_enter Tryd.func44, Tryd.ntmps44
    go_wp2_with (go_at_call 20; refine k1.mono ?_; rintro e w' ⟨rfl, rfl⟩)
    go_ret2
    exact ⟨rfl, rfl⟩
#print axioms Jl.goes_any
#print axioms Jl.stored_any
end Go.Proofs.YthhkebkpophkiaaDoor
/- Contract of journal.frames: the frames of a text, one behind the other. Conditions: each theorem's own hypotheses. -/
namespace Go.Proofs.YthhkebkpophkiaaDoor
open Go.RowKit Go.Shelf
set_option linter.unusedVariables false
attribute [local go_sem] Oper.semAt_some

/-- A frame within bounds. -/
abbrev Jl.X := { x : Jn.Fr // x.pay.size ≤ 65536 ∧ x.end_ ≤ 1099511627776 }
def Jl.enc (x : Jl.X) : Array Value := #[.agg #[.int .i64 (x.1.kind : Int), .string x.1.pay, .int .i64 (x.1.at_ : Int)], .int .i64 (x.1.end_ : Int)]
/-- What a round keeps: the captured box, the table. -/
def Jl.Kp (bb : Nat) (b : ByteArray) (A B : World) : Prop := (Boxed A bb 9 (.string b) → Boxed B bb 9 (.string b)) ∧ (TabS A → TabS B)
theorem Jl.Kp.refl (bb : Nat) (b : ByteArray) (A : World) : Jl.Kp bb b A A := ⟨id, id⟩
theorem Jl.Kp.trans {bb : Nat} {b : ByteArray} {A B C : World} (h : Jl.Kp bb b A B) (h' : Jl.Kp bb b B C) : Jl.Kp bb b A C := ⟨fun x => h'.1 (h.1 x), fun x => h'.2 (h.2 x)⟩
theorem Jl.boxed_put {W : World} {b l : Nat} {t : TypeId} {v : Value} {o o' : Obj} (h : Boxed W b t v) (hl : W.heap[l]? = some o) (ho : o.isCells = false) : Boxed (W.putObj l o') b t v := by
  refine h.kept (grownBy_putObj' W l o') fun e => ?_
  obtain rfl : b = l := by simpa using e
  rw [show W.heap[b]? = _ from h] at hl; cases hl; cases ho
theorem Jl.tab_put {W : World} {l : Nat} {o o' : Obj} (h : TabS W) (hl : W.heap[l]? = some o) (ho : o.isCells = false) : TabS (W.putObj l o') := fun j hj =>
  cell_kept (h j hj) (grownBy_putObj' W l o') fun r e => by cases e; exact ⟨_, hl, ho⟩
theorem Jl.Kp.put (bb : Nat) (b : ByteArray) (W : World) (l : Nat) (o o' : Obj) (hl : W.heap[l]? = some o) (ho : o.isCells = false) : Jl.Kp bb b W (W.putObj l o') := ⟨fun h => Jl.boxed_put h hl ho, fun h => Jl.tab_put h hl ho⟩
theorem Jl.Kp.below {bb : Nat} {b : ByteArray} {A B : World} (h : Below A.heap.size A B) : Jl.Kp bb b A B := ⟨fun x => (h.block _ x.lt).trans x, fun x => x.below h⟩
theorem Jl.grown_of {A B : World} (h : Below A.heap.size A B) : A.grownBy B none := ⟨h.os, h.tape, h.output, h.size, fun k hk _ => h.block k hk⟩
def Jl.fr (l : List Jl.X) : List Jn.Fr := l.map Subtype.val
/-- All frames have come. -/
def Jl.All (b : ByteArray) (ys : List Jl.X) : Prop := ∃ i, Jn.Came b.data.toList (Jl.fr ys) i ∧ (¬ i < b.data.toList.length ∨ ¬ (Sl.parse (b.data.toList.drop i)).code = 0)
/-- A part has come. -/
def Jl.Some (b : ByteArray) (ys : List Jl.X) : Prop := ∃ i, Jn.Came b.data.toList (Jl.fr ys) i

set_option maxRecDepth 100000 in
set_option maxHeartbeats 2000000 in
/-- The closure of frames: for every loop body that keeps the box and the table. -/
theorem Jl.frames1_in (n : Nat) (hn : 1 ≤ n) (l bb : Nat) (b : ByteArray) (hb : b.size ≤ 268435456) (J Jx : List Jl.X → World → Prop)
    (W : World) (hJ : AbidesFrom W.heap.size J)
    (hY : ∀ pre x W, J pre W → pre.length < b.size → YieldAt Fence.wide (n - 1) Tryd.prog l (Jl.enc x) W fun e W' =>
      (e = .returned (.bool true) ∧ J (pre ++ [x]) W' ∧ Jl.Kp bb b W W') ∨ (e = .returned (.bool false) ∧ Jx (pre ++ [x]) W'))
    (cb : Boxed W bb 9 (.string b)) (hT : TabS W) (h0 : J [] W) :
    CallsIn Fence.wide n Tryd.prog 72 #[.func (.yield l) #[] #[], .pointer (some ⟨bb, 0, none⟩)] W fun e W' => (∃ v, e = .returned v) ∧
      ((∃ ys, Jl.All b ys ∧ J ys W') ∨ (∃ pre, Jl.Some b pre ∧ Jx pre W')) := by
  refine callsIn_of_wp Tryd.func72 rfl trivial ?_ rfl
  simp only [Tryd.ntmps72, List.size_toArray, List.length_cons, List.length_nil, Nat.reduceAdd, Nat.reduceSub, Array.replicate_succ, Array.replicate_zero, List.push_toArray, List.append_toArray, List.nil_append, List.cons_append]
  have hlb : b.data.toList.length = b.size := Array.length_toList
  gi_wp2
  gi_loopw [3] (fun i wr => ∃ pre k, i = .int .i64 (k : Nat) ∧ Hid (Jn.Came b.data.toList (Jl.fr pre) k) ∧ J pre wr ∧ Jl.Kp bb b W wr)
    (fun i _ => b.size - (intOf i).toNat)
  case atStart => exact ⟨[], 0, rfl, Lib.hid .nil, h0, Jl.Kp.refl _ _ _⟩
  case round =>
    obtain ⟨pre, k, rfl, HC, hJs, hk⟩ := hrel
    have hcb : wr.cell? ⟨bb, 0, none⟩ = some (.string b) := (hk.1 cb).cell
    have hTr := hk.2 hT
    obtain ⟨hkb, hpl⟩ := HC.out.le
    have hpl2 : (Jl.fr pre).length = pre.length := List.length_map _
    by_cases hlt : k < b.size
    · obtain ⟨R, hR⟩ : ∃ R, Sl.parse (b.data.toList.drop k) = R := ⟨_, rfl⟩
      have kp := parse_any b k R wr (by omega) (by omega) hTr hR
      by_cases hc : R.code = 0
      · have hpl3 := Jn.parse_len (b.data.toList.drop k) (by rw [hR]; exact hc)
        rw [hR, List.length_drop] at hpl3
        obtain ⟨D, hD, hDd, hDs⟩ := str_of R.pay
        unfold parseV at kp
        rw [hc, if_pos rfl, hD] at kp
        obtain ⟨e, he⟩ : ∃ e, k + R.len = e := ⟨_, rfl⟩
        obtain ⟨q, hq⟩ : ∃ q, R.kind = q := ⟨_, rfl⟩
        rw [he, hq] at kp
        have hx : D.size ≤ 65536 ∧ e ≤ 1099511627776 := ⟨by omega, by omega⟩
        have hC2 : Jn.Came b.data.toList (Jl.fr (pre ++ [⟨⟨q, D, k, e⟩, hx⟩])) e := by
          unfold Jl.fr
          rw [List.map_append, List.map_singleton]
          exact Jn.Came.snoc ⟨q, D, k, e⟩ HC.out (by omega) (by rw [hR]; exact hc) (by rw [hR]; exact hq.symm) (by rw [hR]; exact hDd) rfl (by rw [hR]; exact he.symm)
        have HC2 := Lib.hid hC2
        have hY1 := fun w' (hB : Below wr.heap.size wr w') => hY pre ⟨⟨q, D, k, e⟩, hx⟩ w' (hJ _ _ _ none hJs (Jl.grown_of hB) (fun r e => by cases e)) (by omega)
        have hke : k < e := by omega
        have heb : e ≤ b.size := by omega
        clear hC2 hR hD hDd hDs hpl3 hc he hq hlb hY hkb hpl hpl2
        gi_wp2_with (refine ⟨trivial, ?_⟩; gi_at_call 73; refine (callsIn_wide.2 kp).mono ?_; clear kp; rintro x w' ⟨rfl, hB⟩; have hY2 := hY1 w' hB; clear hY1; obtain ⟨fn, tmps, assign, body, hy, hR⟩ := hY2; unfold Jl.enc at hy; dsimp only at hy)
        refine hR.mono ?_
        rintro x W3 (⟨rfl, hJ3, hk3⟩ | ⟨rfl, hJx3⟩)
        · gi_wp2
          go_roundw
          case rel => exact ⟨_, e, rfl, HC2, hJ3, (hk.trans (Jl.Kp.below hB)).trans hk3⟩
          case measure => simp [intOf]; omega
        · gi_wp2
          refine bodyPost_ret (results_none rfl _ _ _) rfl ?_
          exact ⟨⟨_, rfl⟩, .inr ⟨_, ⟨e, HC2.out⟩, hJx3⟩⟩
      · have hH := Lib.hid hR
        have q1 : ((R.code : Int) != 0) = true := by rw [bne_iff_ne]; omega
        obtain ⟨D, hD, hDd, hDs⟩ := str_of R.pay
        unfold parseV at kp
        rw [if_neg hc, hD] at kp
        clear hD hDd hDs hY hR
        gi_wp2_with (refine ⟨trivial, ?_⟩; gi_at_call 73; refine (callsIn_wide.2 kp).mono ?_; clear kp; rintro x w' ⟨rfl, hB⟩)
        refine ⟨fun _ h => (by cases h), ?_⟩
        gi_wp2
        refine bodyPost_ret (results_none rfl _ _ _) rfl ?_
        exact ⟨⟨_, rfl⟩, .inl ⟨pre, ⟨k, HC.out, .inr (by rw [hH.out]; exact hc)⟩, hJ _ _ _ none hJs (Jl.grown_of hB) (fun r e => by cases e)⟩⟩
    · gi_wp2
      go_end0
      exact ⟨⟨_, rfl⟩, .inl ⟨pre, ⟨k, HC.out, .inl (by omega)⟩, hJs⟩⟩
set_option maxHeartbeats 1000000 in
/-- frames: its text is boxed, the function value captures the box. -/
theorem Jl.frames_in (n : Nat) (b : ByteArray) (W : World) :
    CallsIn Fence.wide n Tryd.prog 46 #[.string b] W fun e W' => e = .returned (.func (.func 72) #[] #[.pointer (some ⟨W.heap.size, 0, none⟩)]) ∧ W' = W.alloc (.cells #[.string b] 9) := by
  refine callsIn_of_wp Tryd.func46 rfl trivial ?_ rfl
  simp only [Tryd.ntmps46, List.size_toArray, List.length_cons, List.length_nil, Nat.reduceAdd, Nat.reduceSub, Array.replicate_succ, Array.replicate_zero, List.push_toArray, List.append_toArray, List.nil_append, List.cons_append]
  gi_wp2
  go_ret
  exact ⟨rfl, rfl⟩
theorem Jl.frames_stops (n : Nat) (hn : 1 ≤ n) (bb : Nat) (b : ByteArray) (hb : b.size ≤ 268435456) (W : World) (cb : Boxed W bb 9 (.string b)) (hT : TabS W) :
    SeqStopsK Fence.wide n Tryd.prog 72 #[.pointer (some ⟨bb, 0, none⟩)] Jl.enc (Jl.Kp bb b) (Jl.All b) (Jl.Some b) b.size W := fun l J Jx W1 hW hJ _ hY h0 =>
  Jl.frames1_in n hn l bb b hb J Jx W1 hJ hY ((hW.block _ cb.lt).trans cb) (hT.below hW) h0
#print axioms Jl.frames_stops
end Go.Proofs.YthhkebkpophkiaaDoor
