/- Contracts of journal.goes and journal.stored. Conditions: each theorem's own hypotheses. -/
import Derived.Test.YtifkhjihgnnpfaaGreatDoorJnN
import Derived.Test.YtifkhjihgnnpfaaGreatDoorZJnB
import Derived.Test.YtifkhjihgnnpfaaGreatDoorJlA
import Derived.Test.YtifkhjihgnnpfaaGreatDoorZDkH
import Derived.RangeFuncNested
import Derived.RangeFuncBound
import Derived.RangeFuncCalls
import Derived.RangeFuncLeaves
import Derived.RangeFuncBox
import Derived.Shelf.Abstract
import Derived.OwnWalkIn
import Derived.TacticsInMore
import Derived.LoopNIn
import Derived.LoopIn
import Derived.Maps.AppendAt
import Derived.Test.YtifkhjihgnnpfaaGreatDoorMem
import Derived.BigRegionIn
namespace Go.Proofs.YtifkhjihgnnpfaaGreatDoor
open Go.RowKit
set_option linter.unusedVariables false

/-- Is it a width? -/
def Jn.wideB (l : Int) : Bool := decide (64 ≤ l) && decide (l ≤ 1024) && (((l.toNat % 64 : Nat) : Int) == 0)
theorem wide_any (l : Int) (w : World) :
    Calls Tryz.prog 80 #[.int .i64 l] w fun e w' => e = .returned (.bool (Jn.wideB l)) ∧ w = w' := by
  unfold Jn.wideB
  by_cases h1 : 64 ≤ l
  rotate_left
  · rw [decide_eq_false h1]
    exact wide_low l w (by omega)
  by_cases h2 : l ≤ 1024
  rotate_left
  · rw [decide_eq_false h2, Bool.and_false]
    exact wide_high l w (by omega)
  obtain ⟨n, rfl⟩ := Int.eq_ofNat_of_zero_le (show 0 ≤ l by omega)
  rw [decide_eq_true h1, decide_eq_true h2]
  exact wide_mid n w (by omega) (by omega) _ rfl
/-- Why there can be no such journal. -/
def Jn.goesE (n sq l : Int) : Int := if n < 1 ∨ 1099511627776 < n then 13 else if Jn.wideB l = false then 10 else if sq < 0 ∨ 1152921504606846976 < sq then 51 else 0
theorem Jn.goesE_zero {n sq l : Int} (h : Jn.goesE n sq l = 0) : (1 ≤ n ∧ n ≤ 1099511627776) ∧ Jn.wideB l = true ∧ (0 ≤ sq ∧ sq ≤ 1152921504606846976) := by
  unfold Jn.goesE at h
  split at h
  · omega
  · split at h
    · omega
    · rename_i h2
      split at h
      · omega
      · exact ⟨by omega, by cases hb : Jn.wideB l with | true => rfl | false => exact absurd hb h2, by omega⟩
theorem Jn.wideB_true {l : Int} (h : Jn.wideB l = true) : 64 ≤ l ∧ l ≤ 1024 ∧ l.toNat % 64 = 0 := by
  unfold Jn.wideB at h
  rw [Bool.and_eq_true, Bool.and_eq_true, decide_eq_true_iff, decide_eq_true_iff, beq_iff_eq] at h
  exact ⟨h.1.1, h.1.2, by omega⟩

set_option maxRecDepth 100000 in
theorem Jl.goes_any (n sq l : Int) (w : World) (hT : PowT w) :
    Calls Tryz.prog 46 #[.int .i64 n, .int .i64 sq, .int .i64 l] w fun e w' => e = .returned (.int .i64 (Jn.goesE n sq l)) ∧ Below w.heap.size w w' := by
  obtain ⟨S, hS, hSd, hSs⟩ := str_of (Jn.name n)
  have k1 := name_any n w hT S hS
  have k2 := fun w => wide_any l w
  unfold Jn.goesE
  by_cases h1 : n < 1 ∨ 1099511627776 < n
  · rw [if_pos h1]
    have q1 : S.toList.isEmpty = true := by
      unfold Jn.name at hSd
      rw [if_pos h1] at hSd
      rw [ByteArray.toList_eq, hSd]
      rfl
    clear hS hSd hSs h1
    go_enter Tryz.func46, Tryz.ntmps46
    go_wp2_with (go_at_call 47; refine k1.mono ?_; rintro e w' ⟨rfl, hB⟩)
    go_ret
    exact ⟨rfl, hB⟩
  rw [if_neg h1]
  have q1 : S.toList.isEmpty = false := by
    unfold Jn.name at hSd
    rw [if_neg h1] at hSd
    rw [ByteArray.toList_eq, hSd]
    rfl
  clear hS hSd hSs h1
  cases hw : Jn.wideB l with
  | false =>
    rw [hw] at k2
    rw [if_pos rfl]
    clear hw
    go_enter Tryz.func46, Tryz.ntmps46
    go_wp2_with (first
      | (go_at_call 47; refine k1.mono ?_; rintro e w' ⟨rfl, hB⟩)
      | (go_at_call 80; refine (k2 _).mono ?_; rintro e w' ⟨rfl, rfl⟩))
    go_ret
    exact ⟨rfl, hB⟩
  | true =>
    rw [hw] at k2
    rw [if_neg (by decide)]
    clear hw
    by_cases h2 : sq < 0
    · have q2 : decide (sq < 0) = true := decide_eq_true h2
      rw [if_pos (.inl h2)]
      go_enter Tryz.func46, Tryz.ntmps46
      go_wp2_with (first
        | (go_at_call 47; refine k1.mono ?_; rintro e w' ⟨rfl, hB⟩)
        | (go_at_call 80; refine (k2 _).mono ?_; rintro e w' ⟨rfl, rfl⟩))
      go_ret
      exact ⟨rfl, hB⟩
    have q2 : decide (sq < 0) = false := decide_eq_false h2
    by_cases h3 : 1152921504606846976 < sq
    · have q3 : decide (1152921504606846976 < sq) = true := decide_eq_true h3
      rw [if_pos (.inr h3)]
      go_enter Tryz.func46, Tryz.ntmps46
      go_wp2_with (first
        | (go_at_call 47; refine k1.mono ?_; rintro e w' ⟨rfl, hB⟩)
        | (go_at_call 80; refine (k2 _).mono ?_; rintro e w' ⟨rfl, rfl⟩))
      go_ret
      exact ⟨rfl, hB⟩
    have q3 : decide (1152921504606846976 < sq) = false := decide_eq_false h3
    rw [if_neg (by omega)]
    go_enter Tryz.func46, Tryz.ntmps46
    go_wp2_with (first
      | (go_at_call 47; refine k1.mono ?_; rintro e w' ⟨rfl, hB⟩)
      | (go_at_call 80; refine (k2 _).mono ?_; rintro e w' ⟨rfl, rfl⟩))
    go_ret
    exact ⟨rfl, hB⟩

/-- What a file's bytes are told as. -/
def Jl.storedV (m : Dk.M) (nm : List UInt8) : Value := if Dk.code m nm = 0 then .tuple #[Tx.v (Dk.data m nm), .int .i64 0] else .tuple #[Tx.v [], .int .i64 (Dk.code m nm)]
theorem Jl.data_len {m : Dk.M} (hG : Dk.Good m) (nm : List UInt8) : (Dk.data m nm).length ≤ 268435456 := by
  unfold Dk.data
  cases hg : Dk.get Dk.F.name nm m.files with
  | none => exact Nat.zero_le _
  | some f => exact (hG.file f (Dk.get_mem hg).1).2.1
set_option maxRecDepth 100000 in
theorem Jl.stored_any {W : World} {d : Nat} {m : Dk.M} {F : Nat → Prop} (h : Dk.At W d m F) (hG : Dk.Good m) (s : ByteArray) (hs : s.size ≤ 9223372036854775807) :
    Calls Tryz.prog 54 #[.pointer (some ⟨d, 0, none⟩), .string s] W fun e W' => e = .returned (Jl.storedV m s.data.toList) ∧ W = W' := by
  have k1 := Dk.size_any h s hs
  have hl := Jl.data_len hG s.data.toList
  have k2 := Dk.read_any h hG s hs 0 (Dk.data m s.data.toList).length (by omega) (by omega)
  unfold Dk.sizeV at k1
  unfold Dk.readV at k2
  unfold Jl.storedV
  obtain ⟨c, hc⟩ : ∃ c, Dk.code m s.data.toList = c := ⟨_, rfl⟩
  rw [hc] at k1 k2 ⊢
  by_cases h0 : c = 0
  · subst h0
    rw [if_pos rfl] at k1 k2 ⊢
    rw [if_neg (by omega), Int.toNat_zero, List.drop_zero, Int.toNat_natCast, List.take_length] at k2
    obtain ⟨n, hn⟩ : ∃ n, (Dk.data m s.data.toList).length = n := ⟨_, rfl⟩
    obtain ⟨D, hD, _⟩ := Tx.of (Dk.data m s.data.toList)
    rw [hn] at k1 k2
    rw [Tx.v_eq hD] at k2 ⊢
    clear hc hl hn hD
    go_enter Tryz.func54, Tryz.ntmps54
    go_wp2_with (first
      | (go_at_call 51; refine k1.mono ?_; rintro e w' ⟨rfl, rfl⟩)
      | (go_at_call 86; refine k2.mono ?_; rintro e w' ⟨rfl, rfl⟩))
    go_ret2
    exact ⟨rfl, rfl⟩
  · rw [if_neg h0] at k1 k2 ⊢
    have q1 : (c != 0) = true := bne_iff_ne.2 h0
    clear hc hl k2 h0
    go_enter Tryz.func54, Tryz.ntmps54
    go_wp2_with (go_at_call 51; refine k1.mono ?_; rintro e w' ⟨rfl, rfl⟩)
    go_ret2
    exact ⟨rfl, rfl⟩
#print axioms Jl.goes_any
#print axioms Jl.stored_any
end Go.Proofs.YtifkhjihgnnpfaaGreatDoor
/- Contract of journal.frames: the frames of a text, one behind the other. Conditions: each theorem's own hypotheses. -/
namespace Go.Proofs.YtifkhjihgnnpfaaGreatDoor
open Go.RowKit Go.Shelf
set_option linter.unusedVariables false
attribute [local go_sem] Oper.semAt_some

/-- A frame within bounds. -/
abbrev Jl.X := { x : Jn.Fr // x.pay.size ≤ 65536 ∧ x.end_ ≤ 1099511627776 }
def Jl.enc (x : Jl.X) : Array Value := #[.agg #[.int .i64 (x.1.kind : Int), .string x.1.pay, .int .i64 (x.1.at_ : Int)], .int .i64 (x.1.end_ : Int)]
/-- What a round keeps: the captured box, the table. -/
def Jl.Kp (bb : Nat) (b : ByteArray) (A B : World) : Prop := (Boxed A bb 9 (.string b) → Boxed B bb 9 (.string b)) ∧ (TabS A → TabS B)
theorem Jl.Kp.refl (bb : Nat) (b : ByteArray) (A : World) : Jl.Kp bb b A A := ⟨id, id⟩
theorem Jl.Kp.trans {bb : Nat} {b : ByteArray} {A B C : World} (h : Jl.Kp bb b A B) (h' : Jl.Kp bb b B C) : Jl.Kp bb b A C := ⟨fun x => h'.1 (h.1 x), fun x => h'.2 (h.2 x)⟩
theorem Jl.boxed_put {W : World} {b l : Nat} {t : TypeId} {v : Value} {o o' : Obj} (h : Boxed W b t v) (hl : W.heap[l]? = some o) (ho : o.isCells = false) : Boxed (W.putObj l o') b t v := by
  refine h.kept (grownBy_putObj' W l o') fun e => ?_
  obtain rfl : b = l := by simpa using e
  rw [show W.heap[b]? = _ from h] at hl; cases hl; cases ho
theorem Jl.tab_put {W : World} {l : Nat} {o o' : Obj} (h : TabS W) (hl : W.heap[l]? = some o) (ho : o.isCells = false) : TabS (W.putObj l o') := fun j hj =>
  cell_kept (h j hj) (grownBy_putObj' W l o') fun r e => by cases e; exact ⟨_, hl, ho⟩
theorem Jl.Kp.put (bb : Nat) (b : ByteArray) (W : World) (l : Nat) (o o' : Obj) (hl : W.heap[l]? = some o) (ho : o.isCells = false) : Jl.Kp bb b W (W.putObj l o') := ⟨fun h => Jl.boxed_put h hl ho, fun h => Jl.tab_put h hl ho⟩
theorem Jl.Kp.below {bb : Nat} {b : ByteArray} {A B : World} (h : Below A.heap.size A B) : Jl.Kp bb b A B := ⟨fun x => (h.block _ x.lt).trans x, fun x => x.below h⟩
theorem Jl.grown_of {A B : World} (h : Below A.heap.size A B) : A.grownBy B none := ⟨h.os, h.tape, h.output, h.size, fun k hk _ => h.block k hk⟩
def Jl.fr (l : List Jl.X) : List Jn.Fr := l.map Subtype.val
/-- All frames have come. -/
def Jl.All (b : ByteArray) (ys : List Jl.X) : Prop := ∃ i, Jn.Came b.data.toList (Jl.fr ys) i ∧ (¬ i < b.data.toList.length ∨ ¬ (Sl.parse (b.data.toList.drop i)).code = 0)
/-- A part has come. -/
def Jl.Some (b : ByteArray) (ys : List Jl.X) : Prop := ∃ i, Jn.Came b.data.toList (Jl.fr ys) i

set_option maxRecDepth 100000 in
set_option maxHeartbeats 2000000 in
/-- The closure of frames: for every loop body that keeps the box and the table. -/
theorem Jl.frames1_in (n : Nat) (hn : 1 ≤ n) (l bb : Nat) (b : ByteArray) (hb : b.size ≤ 268435456) (J Jx : List Jl.X → World → Prop)
    (W : World) (hJ : AbidesFrom W.heap.size J)
    (hY : ∀ pre x W, J pre W → pre.length < b.size → YieldAt Fence.wide (n - 1) Tryz.prog l (Jl.enc x) W fun e W' =>
      (e = .returned (.bool true) ∧ J (pre ++ [x]) W' ∧ Jl.Kp bb b W W') ∨ (e = .returned (.bool false) ∧ Jx (pre ++ [x]) W'))
    (cb : Boxed W bb 9 (.string b)) (hT : TabS W) (h0 : J [] W) :
    CallsIn Fence.wide n Tryz.prog 87 #[.func (.yield l) #[] #[], .pointer (some ⟨bb, 0, none⟩)] W fun e W' => (∃ v, e = .returned v) ∧
      ((∃ ys, Jl.All b ys ∧ J ys W') ∨ (∃ pre, Jl.Some b pre ∧ Jx pre W')) := by
  refine callsIn_of_wp Tryz.func87 rfl trivial ?_ rfl
  simp only [Tryz.ntmps87, List.size_toArray, List.length_cons, List.length_nil, Nat.reduceAdd, Nat.reduceSub, Array.replicate_succ, Array.replicate_zero, List.push_toArray, List.append_toArray, List.nil_append, List.cons_append]
  have hlb : b.data.toList.length = b.size := Array.length_toList
  gi_wp2
  gi_loopw [3] (fun i wr => ∃ pre k, i = .int .i64 (k : Nat) ∧ Hid (Jn.Came b.data.toList (Jl.fr pre) k) ∧ J pre wr ∧ Jl.Kp bb b W wr)
    (fun i _ => b.size - (intOf i).toNat)
  case atStart => exact ⟨[], 0, rfl, Lib.hid .nil, h0, Jl.Kp.refl _ _ _⟩
  case round =>
    obtain ⟨pre, k, rfl, HC, hJs, hk⟩ := hrel
    have hcb : wr.cell? ⟨bb, 0, none⟩ = some (.string b) := (hk.1 cb).cell
    have hTr := hk.2 hT
    obtain ⟨hkb, hpl⟩ := HC.out.le
    have hpl2 : (Jl.fr pre).length = pre.length := List.length_map _
    by_cases hlt : k < b.size
    · obtain ⟨R, hR⟩ : ∃ R, Sl.parse (b.data.toList.drop k) = R := ⟨_, rfl⟩
      have kp := parse_any b k R wr (by omega) (by omega) hTr hR
      by_cases hc : R.code = 0
      · have hpl3 := Jn.parse_len (b.data.toList.drop k) (by rw [hR]; exact hc)
        rw [hR, List.length_drop] at hpl3
        obtain ⟨D, hD, hDd, hDs⟩ := str_of R.pay
        unfold parseV at kp
        rw [hc, if_pos rfl, hD] at kp
        obtain ⟨e, he⟩ : ∃ e, k + R.len = e := ⟨_, rfl⟩
        obtain ⟨q, hq⟩ : ∃ q, R.kind = q := ⟨_, rfl⟩
        rw [he, hq] at kp
        have hx : D.size ≤ 65536 ∧ e ≤ 1099511627776 := ⟨by omega, by omega⟩
        have hC2 : Jn.Came b.data.toList (Jl.fr (pre ++ [⟨⟨q, D, k, e⟩, hx⟩])) e := by
          unfold Jl.fr
          rw [List.map_append, List.map_singleton]
          exact Jn.Came.snoc ⟨q, D, k, e⟩ HC.out (by omega) (by rw [hR]; exact hc) (by rw [hR]; exact hq.symm) (by rw [hR]; exact hDd) rfl (by rw [hR]; exact he.symm)
        have HC2 := Lib.hid hC2
        have hY1 := fun w' (hB : Below wr.heap.size wr w') => hY pre ⟨⟨q, D, k, e⟩, hx⟩ w' (hJ _ _ _ none hJs (Jl.grown_of hB) (fun r e => by cases e)) (by omega)
        have hke : k < e := by omega
        have heb : e ≤ b.size := by omega
        clear hC2 hR hD hDd hDs hpl3 hc he hq hlb hY hkb hpl hpl2
        gi_wp2_with (refine ⟨trivial, ?_⟩; gi_at_call 88; refine (callsIn_wide.2 kp).mono ?_; clear kp; rintro x w' ⟨rfl, hB⟩; have hY2 := hY1 w' hB; clear hY1; obtain ⟨fn, tmps, assign, body, hy, hR⟩ := hY2; unfold Jl.enc at hy; dsimp only at hy)
        refine hR.mono ?_
        rintro x W3 (⟨rfl, hJ3, hk3⟩ | ⟨rfl, hJx3⟩)
        · gi_wp2
          go_roundw
          case rel => exact ⟨_, e, rfl, HC2, hJ3, (hk.trans (Jl.Kp.below hB)).trans hk3⟩
          case measure => simp [intOf]; omega
        · gi_wp2
          refine bodyPost_ret (results_none rfl _ _ _) rfl ?_
          exact ⟨⟨_, rfl⟩, .inr ⟨_, ⟨e, HC2.out⟩, hJx3⟩⟩
      · have hH := Lib.hid hR
        have q1 : ((R.code : Int) != 0) = true := by rw [bne_iff_ne]; omega
        obtain ⟨D, hD, hDd, hDs⟩ := str_of R.pay
        unfold parseV at kp
        rw [if_neg hc, hD] at kp
        clear hD hDd hDs hY hR
        gi_wp2_with (refine ⟨trivial, ?_⟩; gi_at_call 88; refine (callsIn_wide.2 kp).mono ?_; clear kp; rintro x w' ⟨rfl, hB⟩)
        refine ⟨fun _ h => (by cases h), ?_⟩
        gi_wp2
        refine bodyPost_ret (results_none rfl _ _ _) rfl ?_
        exact ⟨⟨_, rfl⟩, .inl ⟨pre, ⟨k, HC.out, .inr (by rw [hH.out]; exact hc)⟩, hJ _ _ _ none hJs (Jl.grown_of hB) (fun r e => by cases e)⟩⟩
    · gi_wp2
      go_end0
      exact ⟨⟨_, rfl⟩, .inl ⟨pre, ⟨k, HC.out, .inl (by omega)⟩, hJs⟩⟩
set_option maxHeartbeats 1000000 in
/-- frames: its text is boxed, the function value captures the box. -/
theorem Jl.frames_in (n : Nat) (b : ByteArray) (W : World) :
    CallsIn Fence.wide n Tryz.prog 55 #[.string b] W fun e W' => e = .returned (.func (.func 87) #[] #[.pointer (some ⟨W.heap.size, 0, none⟩)]) ∧ W' = W.alloc (.cells #[.string b] 9) := by
  refine callsIn_of_wp Tryz.func55 rfl trivial ?_ rfl
  simp only [Tryz.ntmps55, List.size_toArray, List.length_cons, List.length_nil, Nat.reduceAdd, Nat.reduceSub, Array.replicate_succ, Array.replicate_zero, List.push_toArray, List.append_toArray, List.nil_append, List.cons_append]
  gi_wp2
  go_ret
  exact ⟨rfl, rfl⟩
theorem Jl.frames_stops (n : Nat) (hn : 1 ≤ n) (bb : Nat) (b : ByteArray) (hb : b.size ≤ 268435456) (W : World) (cb : Boxed W bb 9 (.string b)) (hT : TabS W) :
    SeqStopsK Fence.wide n Tryz.prog 87 #[.pointer (some ⟨bb, 0, none⟩)] Jl.enc (Jl.Kp bb b) (Jl.All b) (Jl.Some b) b.size W := fun l J Jx W1 hW hJ _ hY h0 =>
  Jl.frames1_in n hn l bb b hb J Jx W1 hJ hY ((hW.block _ cb.lt).trans cb) (hT.below hW) h0
#print axioms Jl.frames_stops
end Go.Proofs.YtifkhjihgnnpfaaGreatDoor
/- Contract of journal.Look: a journal's file told; the list is new memory. Conditions: each theorem's own hypotheses. -/
namespace Go.Proofs.YtifkhjihgnnpfaaGreatDoor
open Go.RowKit Go.Shelf
set_option linter.unusedVariables false
attribute [local go_sem] Oper.semAt_some

theorem infoUpd : (Tryz.prog.info? 33).map (fun i => (i.zero, i.size, i.bytes)) = some (some (.agg #[.int .i64 0, .int .i64 0, .int .i64 0, .string ⟨#[]⟩]), 4, 40) := by kernel_rfl
/-- Updates as cells. -/
def Jl.four (u : Jn.Upd) : List Value := [.int .i64 u.seq, .int .i64 u.kind, .int .i64 u.id, str u.code]
def Jl.cells (l : List Jn.Upd) : List Value := l.flatMap Jl.four
theorem Jl.cells_snoc (l : List Jn.Upd) (u : Jn.Upd) : Jl.cells (l ++ [u]) = Jl.cells l ++ Jl.four u := by simp [Jl.cells]
/-- What a look tells: the updates, where they end, the refusal. -/
def Jl.lookR (m : Dk.M) (n sq l : Int) : List Jn.Upd × Nat × Int :=
  if Jn.goesE n sq l = 0 then
    if Dk.code m (Jn.name n) = 0 then
      match Jn.look (Dk.data m (Jn.name n)) sq.toNat l.toNat with
      | some (us, g) => (us, g, 0)
      | none => ([], 0, 80)
    else ([], 0, Dk.code m (Jn.name n))
  else ([], 0, Jn.goesE n sq l)
/-- The boxes of Look that lie below the loop: number, width, results. -/
structure Jl.Bxs (W : World) (p : Nat) (sq l : Int) : Prop where
  s : Boxed W p 3 (.int .i64 sq)
  w : Boxed W (p + 1) 3 (.int .i64 l)
  r : Boxed W (p + 1 + 1) 54 (.slice none 0 0)
  g : Boxed W (p + 1 + 1 + 1) 3 (.int .i64 0)
  e : Boxed W (p + 1 + 1 + 1 + 1) 48 (.int .i64 0)
theorem Jl.Bxs.keep {W W' : World} {p : Nat} {sq l : Int} (h : Jl.Bxs W p sq l) (hk : ∀ k, p ≤ k → k ≤ p + 4 → W'.heap[k]? = W.heap[k]?) : Jl.Bxs W' p sq l :=
  ⟨(hk _ (Nat.le_refl _) (by omega)).trans h.s, (hk _ (by omega) (by omega)).trans h.w, (hk _ (by omega) (by omega)).trans h.r, (hk _ (by omega) (by omega)).trans h.g, (hk _ (by omega) (by omega)).trans h.e⟩
theorem Jl.Bxs.lt {W : World} {p : Nat} {sq l : Int} (h : Jl.Bxs W p sq l) : p + 4 < W.heap.size := h.e.lt
theorem Jl.Bxs.below {W W' : World} {p : Nat} {sq l : Int} (h : Jl.Bxs W p sq l) (hB : Below W.heap.size W W') : Jl.Bxs W' p sq l := h.keep fun k _ hk => hB.block k (by have := h.lt; omega)
theorem Jl.Bxs.own {β : Type} (p : Nat) (sq l : Int) : Own (fun (_ : β) W => Jl.Bxs W p sq l) := fun s X Y row hs hg hr =>
  hs.keep fun k h1 h2 => hg.block k (by have := hs.lt; omega) fun e => by
    obtain ⟨o, ho, hc⟩ := hr k e.symm
    have : ∃ v t, X.heap[k]? = some (.cells #[v] t (0, 0)) := by
      rcases (show k = p ∨ k = p + 1 ∨ k = p + 1 + 1 ∨ k = p + 1 + 1 + 1 ∨ k = p + 1 + 1 + 1 + 1 by omega) with rfl | rfl | rfl | rfl | rfl
      · exact ⟨_, _, hs.s⟩
      · exact ⟨_, _, hs.w⟩
      · exact ⟨_, _, hs.r⟩
      · exact ⟨_, _, hs.g⟩
      · exact ⟨_, _, hs.e⟩
    obtain ⟨v, t, hv⟩ := this
    rw [hv] at ho
    cases ho
    cases hc
theorem Jl.Bxs.new (W : World) (sq l : Int) : Jl.Bxs (((((W.alloc (.cells #[.int .i64 sq] 3)).alloc (.cells #[.int .i64 l] 3)).alloc (.cells #[.slice none 0 0] 54)).alloc (.cells #[.int .i64 0] 3)).alloc (.cells #[.int .i64 0] 48)) W.heap.size sq l := by
  have h0 := Boxed.new W 3 (.int .i64 sq)
  have h1 := Boxed.new (W.alloc (.cells #[.int .i64 sq] 3)) 3 (.int .i64 l)
  have h2 := Boxed.new ((W.alloc (.cells #[.int .i64 sq] 3)).alloc (.cells #[.int .i64 l] 3)) 54 (.slice none 0 0)
  have h3 := Boxed.new (((W.alloc (.cells #[.int .i64 sq] 3)).alloc (.cells #[.int .i64 l] 3)).alloc (.cells #[.slice none 0 0] 54)) 3 (.int .i64 0)
  have h4 := Boxed.new ((((W.alloc (.cells #[.int .i64 sq] 3)).alloc (.cells #[.int .i64 l] 3)).alloc (.cells #[.slice none 0 0] 54)).alloc (.cells #[.int .i64 0] 3)) 48 (.int .i64 0)
  simp only [World.size_alloc] at h1 h2 h3 h4
  exact ⟨(((h0.alloc _).alloc _).alloc _).alloc _, ((h1.alloc _).alloc _).alloc _, (h2.alloc _).alloc _, h3.alloc _, h4⟩
/-- Between two rounds. -/
def Jl.I (B p L : Nat) (W0 : World) (sqn wn : Nat) (pre : List Jl.X) (W : World) : Prop :=
  ((∃ v, Boxed W L 54 v ∧ W.ownsRow B 33 4 v pre.length (Jl.cells (((Jn.run sqn wn (Jl.fr pre)).map Prod.fst).getD [])) ∧ True) ∧
    (Boxed W (L + 1) 3 (.int .i64 ((((Jn.run sqn wn (Jl.fr pre)).map Prod.snd).getD 0 : Nat) : Int)) ∧ Jl.Bxs W p sqn wn ∧ (Jn.run sqn wn (Jl.fr pre)).isSome = true)) ∧ Below B W0 W
theorem Jl.slice_form {W : World} {B size k : Nat} {e : TypeId} {v : Value} {xs : List Value} (h : W.ownsRow B e size v k xs) : ∃ A c, v = .slice A k c := by
  rcases h.2 with ⟨rfl, h0⟩ | ⟨g, cap, cur, rfl, _⟩
  · subst h0; exact ⟨_, _, rfl⟩
  · exact ⟨_, _, rfl⟩
theorem Jl.row_grown {W W' : World} {B size k : Nat} {e : TypeId} {v : Value} {xs : List Value} (h : W.ownsRow B e size v k xs) (hg : W.grownBy W' none) : W'.ownsRow B e size v k xs := by
  rcases h.2 with ⟨rfl, _⟩ | ⟨g, cap, cur, rfl, _⟩
  · exact h.kept hg (.inl rfl)
  · exact h.kept hg (.inr (by simp [Value.ownBlock]))
theorem Jl.I_own (B p L : Nat) (W0 : World) (sqn wn C : Nat) (h1 : B ≤ W0.heap.size) (h2 : B ≤ C) : OwnFrom C (Jl.I B p L W0 sqn wn) :=
  OwnFrom.and (OwnFrom.and (Own.from (holdsRow_own B L 54 33 4 (fun pre : List Jl.X => pre.length) (fun pre => Jl.cells (((Jn.run sqn wn (Jl.fr pre)).map Prod.fst).getD [])) (fun _ _ => True)) _)
    (OwnFrom.and (Own.from (boxed_own (L + 1) 3 (fun pre : List Jl.X => Value.int .i64 ((((Jn.run sqn wn (Jl.fr pre)).map Prod.snd).getD 0 : Nat) : Int))) _)
      (OwnFrom.and (Own.from (Jl.Bxs.own p sqn wn) _) (fun _ _ _ _ hs _ _ => hs)))) (ownFrom_below h1 h2)
/-- A round has left. -/
def Jl.Ix (B p : Nat) (W0 : World) (sqn wn : Nat) (c : Code) (pre : List Jl.X) (W : World) : Prop :=
  (c = .ret ∧ Boxed W (p + 1 + 1) 54 (.slice none 0 0) ∧ Boxed W (p + 1 + 1 + 1) 3 (.int .i64 0) ∧ Boxed W (p + 1 + 1 + 1 + 1) 48 (.int .i64 80) ∧ Jn.run sqn wn (Jl.fr pre) = none) ∧ Below B W0 W
theorem Jl.Ix_own (B p : Nat) (W0 : World) (sqn wn : Nat) (c : Code) (C : Nat) (h1 : B ≤ W0.heap.size) (h2 : B ≤ C) : OwnFrom C (Jl.Ix B p W0 sqn wn c) :=
  OwnFrom.and (OwnFrom.and (fun _ _ _ _ hs _ _ => hs) (OwnFrom.and (Own.from (boxed_own _ _ _) _) (OwnFrom.and (Own.from (boxed_own _ _ _) _) (OwnFrom.and (Own.from (boxed_own _ _ _) _) (fun _ _ _ _ hs _ _ => hs))))) (ownFrom_below h1 h2)
theorem Jl.blk_own {β : Type} (g : Nat) (t : TypeId) (cs : Array Value) (B : Nat) : OwnFrom B (fun (_ : β) W => Blk W g t cs) := fun s X Y row hs hg hrow => by
  refine hs.grown hg fun e => ?_
  obtain ⟨_, o, ho, hc⟩ := hrow g e.symm
  rw [show X.heap[g]? = _ from hs] at ho; cases ho; cases hc
theorem Jl.news {w : World} {g : Nat} {t : TypeId} {cs : Array Value} (h : Blk w g t cs) : ∀ j u, cs.toList[j]? = some u → w.cell? ((⟨g, 0, none⟩ : Addr).add j) = some u := by
  intro j u hu
  rw [show (⟨g, 0, none⟩ : Addr).add j = ⟨g, j, none⟩ from by unfold Addr.add; split <;> simp_all, h.cell]
  simpa using hu
theorem Jl.left {B p C : Nat} {W W' w3 : World} {sqn wn : Nat} {pre : List Jl.X} (hp : B ≤ p) (bx : Jl.Bxs w3 p sqn wn) (hB : Below B W W') (b3 : Below W'.heap.size W' w3) (hz : B ≤ W'.heap.size) (o : Obj) (h : Jn.run sqn wn (Jl.fr pre) = none) :
    KeepsFrom C W' ((((w3.alloc o).setCell ⟨p + 1 + 1, 0, none⟩ (.slice none 0 0)).setCell ⟨p + 1 + 1 + 1, 0, none⟩ (.int .i64 0)).setCell ⟨p + 1 + 1 + 1 + 1, 0, none⟩ (.int .i64 80)) ∧
    Jl.Ix B p W sqn wn .ret pre ((((w3.alloc o).setCell ⟨p + 1 + 1, 0, none⟩ (.slice none 0 0)).setCell ⟨p + 1 + 1 + 1, 0, none⟩ (.int .i64 0)).setCell ⟨p + 1 + 1 + 1 + 1, 0, none⟩ (.int .i64 80)) := by
  have bx2 := bx.below ((Below.refl w3.heap.size w3).alloc (Nat.le_refl _) o)
  have hz3 := b3.size
  refine ⟨(((((KeepsOthers.of_grownBy (Jl.grown_of b3) (fun j o e => by cases e)).trans (KeepsOthers.alloc _ _)).trans (KeepsOthers.setCell _ _ _)).trans (KeepsOthers.setCell _ _ _)).trans (KeepsOthers.setCell _ _ _)).from _, ⟨rfl, ?_, ?_, ?_, h⟩, ?_⟩
  · exact ((bx2.r.set _).other (by omega) _).other (by omega) _
  · exact ((bx2.g.other (by omega) _).set _).other (by omega) _
  · exact ((bx2.e.other (by omega) _).other (by omega) _).set _
  · exact ((((hB.trans (b3.mono hz)).alloc (by omega) o).setCell (p := ⟨p + 1 + 1, 0, none⟩) (by show B ≤ p + 1 + 1; omega) _).setCell (p := ⟨p + 1 + 1 + 1, 0, none⟩) (by show B ≤ p + 1 + 1 + 1; omega) _).setCell (p := ⟨p + 1 + 1 + 1 + 1, 0, none⟩) (by show B ≤ p + 1 + 1 + 1 + 1; omega) _
theorem Jl.heap_keep {W' w3 w5 : World} {o tmp : Obj} {v v' g : Value} {L : Nat} (b3 : Below W'.heap.size W' w3) (hg : ((w3.alloc o).alloc tmp).grownBy w5 v.ownBlock) {k : Nat} (hk : k < W'.heap.size) (h1 : k ≠ L) (h2 : k ≠ L + 1) (h3 : some k ≠ v.ownBlock) :
    ((w5.setCell ⟨L, 0, none⟩ v').setCell ⟨L + 1, 0, none⟩ g).heap[k]? = W'.heap[k]? := by
  have hz := b3.size
  rw [Below.heap_setCell _ _ _ _ h2, Below.heap_setCell _ _ _ _ h1, hg.block k (by simp; omega) h3, Below.heap_alloc _ _ _ (by simp; omega), Below.heap_alloc _ _ _ (by omega), b3.block k hk]
theorem Jl.goes_on {B p L C bb : Nat} {W W' w3 w5 : World} {sqn wn : Nat} {pre : List Jl.X} {x : Jl.X} {acc : List Jn.Upd} {u : Jn.Upd} {D : ByteArray} {o tmp : Obj} {A : Option Addr} {cp : Nat} {v' : Value}
    (hp : B ≤ p) (hpL : p + 4 < L) (hbb : bb = L + 1 + 1) (hbx : Jl.Bxs W' p sqn wn) (hgd : ∃ z, Boxed W' (L + 1) 3 z) (hv : Boxed W' L 54 (.slice A pre.length cp)) (hrow : W'.ownsRow B 33 4 (.slice A pre.length cp) pre.length (Jl.cells acc))
    (hB : Below B W W') (b3 : Below W'.heap.size W' w3) (hz : B ≤ W'.heap.size) (hown : w5.ownsRow B 33 4 v' (pre.length + 1) (Jl.cells acc ++ Jl.four u)) (hg : ((w3.alloc o).alloc tmp).grownBy w5 (Value.slice A pre.length cp).ownBlock)
    (hrun : Jn.run sqn wn (Jl.fr (pre ++ [x])) = some (acc ++ [u], x.1.end_)) (hT : ∀ {w : World}, Below B W w → TabS w) :
    KeepsFrom C W' ((w5.setCell ⟨L, 0, none⟩ v').setCell ⟨L + 1, 0, none⟩ (.int .i64 (x.1.end_ : Int))) ∧ Jl.Kp bb D W' ((w5.setCell ⟨L, 0, none⟩ v').setCell ⟨L + 1, 0, none⟩ (.int .i64 (x.1.end_ : Int))) ∧
    Jl.I B p L W sqn wn (pre ++ [x]) ((w5.setCell ⟨L, 0, none⟩ v').setCell ⟨L + 1, 0, none⟩ (.int .i64 (x.1.end_ : Int))) := by
  subst hbb
  obtain ⟨zg, hgd⟩ := hgd
  have hz3 := b3.size
  have hv3 : Boxed (w3.alloc o) L 54 (.slice A pre.length cp) := Boxed.alloc ((b3.block _ hv.lt).trans hv) o
  have hrow3 := (Jl.row_grown hrow (Jl.grown_of b3)).alloc o
  obtain ⟨a1, a2, a3, a4, a5⟩ := hv3.appended (by decide) hrow3 (by simp; omega) (by omega) hown hg
  have hg5 : Boxed (w5.setCell ⟨L, 0, none⟩ v') (L + 1) 3 zg := by
    refine Boxed.other ?_ (by omega) _
    have h3 : Boxed (w3.alloc o) (L + 1) 3 zg := Boxed.alloc ((b3.block _ hgd.lt).trans hgd) o
    exact (h3.alloc tmp).kept hg (h3.not_row (by decide) hrow3)
  have hBf : Below B W ((w5.setCell ⟨L, 0, none⟩ v').setCell ⟨L + 1, 0, none⟩ (.int .i64 (x.1.end_ : Int))) :=
    (((hB.trans (b3.mono hz)).alloc (by omega) o).trans a5).setCell (p := ⟨L + 1, 0, none⟩) (by show B ≤ L + 1; omega) _
  refine ⟨?_, ⟨fun hD => ?_, fun _ => hT hBf⟩, ⟨⟨_, a2.other (by omega) _, ?_, trivial⟩, ?_, ?_, ?_⟩, hBf⟩
  · exact ((((KeepsOthers.of_grownBy (Jl.grown_of b3) (fun j o e => by cases e)).trans (KeepsOthers.alloc _ o)).trans a4).trans (KeepsOthers.setCell _ _ _)).from _
  · exact (Jl.heap_keep b3 hg hD.lt (by omega) (by omega) (hD.not_row (by decide) hrow)).trans hD
  · rw [hrun]
    simp only [Option.map_some, Option.getD_some]
    rw [Jl.cells_snoc, List.length_append, List.length_singleton]
    exact a3.kept (grownBy_setCell' _ _ _) (.inr (hg5.not_row (by decide) a3).symm)
  · rw [hrun]
    simp only [Option.map_some, Option.getD_some]
    exact hg5.set _
  · refine hbx.keep fun k h1 h2 => Jl.heap_keep b3 hg (by have := hbx.lt; omega) (by omega) (by omega) ?_
    rcases (show k = p ∨ k = p + 1 ∨ k = p + 1 + 1 ∨ k = p + 1 + 1 + 1 ∨ k = p + 1 + 1 + 1 + 1 by omega) with rfl | rfl | rfl | rfl | rfl
    · exact hbx.s.not_row (by decide) hrow
    · exact hbx.w.not_row (by decide) hrow
    · exact hbx.r.not_row (by decide) hrow
    · exact hbx.g.not_row (by decide) hrow
    · exact hbx.e.not_row (by decide) hrow
  · rw [hrun]; rfl
set_option maxRecDepth 100000 in
set_option maxHeartbeats 8000000 in
theorem Jl.look_main {W : World} {d : Nat} {m : Dk.M} {F : Nat → Prop} (h : Dk.At W d m F) (hG : Dk.Good m) (n : Int) (sq l : Nat) (hT : TabS W) (hP : PowT W) (hg : Jn.goesE n sq l = 0) (hc : Dk.code m (Jn.name n) = 0) {us : List Jn.Upd} {g : Nat} {c : Int}
    (hL : (match Jn.look (Dk.data m (Jn.name n)) sq l with
      | some (us, g) => (us, g, (0 : Int))
      | none => ([], 0, 80)) = (us, g, c)) :
    Calls Tryz.prog 28 #[.pointer (some ⟨d, 0, none⟩), .int .i64 n, .int .i64 sq, .int .i64 l] W fun e W' => (∃ v, e = .returned (.tuple #[v, .int .i64 g, .int .i64 c]) ∧ W'.ownsRow W.heap.size 33 4 v us.length (Jl.cells us)) ∧ Below W.heap.size W W' := by
  refine (callsIn_wide (n := 6)).1 ?_
  obtain ⟨i0, hi, hz0, hz1, hz2⟩ := info_parts infoUpd
  obtain ⟨nb, hnb, hnbd, hnbs⟩ := str_of (Jn.name n)
  have hname : (Jn.name n).length ≤ 9223372036854775807 := by
    unfold Jn.name
    split
    · exact Nat.zero_le _
    · rw [List.length_cons]
      unfold Lib.itoa
      rw [if_neg (by omega), Lib.decDigits_length]
      have := nDigits_le n.toNat
      omega
  have k1 := fun {w : World} (hB : Below W.heap.size W w) => Jl.goes_any n sq l w (hP.below hB)
  have k2 := fun {w : World} (hB : Below W.heap.size W w) => name_any n w (hP.below hB) nb hnb
  have k3 := fun {w : World} (hB : Below W.heap.size W w) => Jl.stored_any (h.later hB (Nat.le_refl _)) hG nb (by omega)
  unfold Jl.storedV at k3
  rw [hnbd, hc, if_pos rfl] at k3
  rw [hg] at k1
  obtain ⟨D, hD, hDs⟩ := Tx.of (Dk.data m (Jn.name n))
  have hDl := Jl.data_len hG (Jn.name n)
  simp only [Tx.v_eq hD] at k3
  rw [← hD] at hL
  have HL := Lib.hid hL
  obtain ⟨_, hwid, hsq⟩ := Jn.goesE_zero hg
  have hwid2 := Jn.wideB_true hwid
  have hTB := fun {w : World} (hB : Below W.heap.size W w) => hT.below hB
  have hl2 : l ≤ 1024 := by omega
  have hsq2 : sq ≤ 1152921504606846976 := by omega
  clear hL hg hc h hG hnb hnbd hnbs hname hD hwid hwid2 hsq hT hP
  refine callsIn_of_wp_marks Tryz.func28 rfl trivial ?_ rfl
  simp only [Tryz.ntmps28, List.size_toArray, List.length_cons, List.length_nil, Nat.reduceAdd, Nat.reduceSub, Array.replicate_succ, Array.replicate_zero, List.push_toArray, List.append_toArray, List.nil_append, List.cons_append]
  have B0 : Below W.heap.size W (((((W.alloc (.cells #[.int .i64 (sq : Int)] 3)).alloc (.cells #[.int .i64 (l : Int)] 3)).alloc (.cells #[.slice none 0 0] 54)).alloc (.cells #[.int .i64 0] 3)).alloc (.cells #[.int .i64 0] 48)) :=
    (((((Below.refl _ _).alloc (Nat.le_refl _) _).alloc (by simp) _).alloc (by simp; omega) _).alloc (by simp; omega) _).alloc (by simp; omega) _
  have bx0 := Jl.Bxs.new W sq l
  obtain ⟨W1, hW1⟩ : ∃ W1, (((((W.alloc (.cells #[.int .i64 (sq : Int)] 3)).alloc (.cells #[.int .i64 (l : Int)] 3)).alloc (.cells #[.slice none 0 0] 54)).alloc (.cells #[.int .i64 0] 3)).alloc (.cells #[.int .i64 0] 48)) = W1 := ⟨_, rfl⟩
  rw [hW1] at B0 bx0
  have c0 := bx0.s.cell
  have c1 := bx0.w.cell
  gi_wp2_with (first
    | (refine ⟨trivial, ?_⟩; gi_at_call 46; refine (callsIn_wide.2 (k1 B0)).mono ?_; rintro e w1 ⟨rfl, b1⟩; have B1 := B0.trans (b1.mono B0.size); have bx1 := bx0.below b1; clear k1 c0 c1)
    | (refine ⟨trivial, ?_⟩; gi_at_call 47; refine (callsIn_wide.2 (k2 B1)).mono ?_; rintro e w2 ⟨rfl, b2⟩; have B2 := B1.trans (b2.mono B1.size); have bx2 := bx1.below b2; clear k2)
    | (refine ⟨trivial, ?_⟩; gi_at_call 54; refine (callsIn_wide.2 (k3 B2)).mono ?_; rintro e w' ⟨rfl, rfl⟩)
    | (refine ⟨trivial, ?_⟩; gi_at_call 55; refine (Jl.frames_in _ _ _).mono ?_; rintro e w' ⟨rfl, rfl⟩))
  have bO := ((Boxed.new w2 54 (.slice none 0 0)).alloc (.cells #[.int .i64 0] 3)).alloc (.cells #[.string D] 9)
  have bG := (Boxed.new (w2.alloc (.cells #[.slice none 0 0] 54)) 3 (.int .i64 0)).alloc (.cells #[.string D] 9)
  have bD := Boxed.new ((w2.alloc (.cells #[.slice none 0 0] 54)).alloc (.cells #[.int .i64 0] 3)) 9 (.string D)
  simp only [World.size_alloc] at bG bD
  have B3 : Below w2.heap.size w2 (((w2.alloc (.cells #[.slice none 0 0] 54)).alloc (.cells #[.int .i64 0] 3)).alloc (.cells #[.string D] 9)) := (((Below.refl _ _).alloc (Nat.le_refl _) _).alloc (by simp) _).alloc (by simp; omega) _
  have hsz : (((w2.alloc (.cells #[.slice none 0 0] 54)).alloc (.cells #[.int .i64 0] 3)).alloc (.cells #[.string D] 9)).heap.size = w2.heap.size + 3 := by simp
  obtain ⟨W0, hW0⟩ : ∃ W0, (((w2.alloc (.cells #[.slice none 0 0] 54)).alloc (.cells #[.int .i64 0] 3)).alloc (.cells #[.string D] 9)) = W0 := ⟨_, rfl⟩
  rw [hW0] at bO bG bD B3 hsz ⊢
  have bx3 := bx2.below B3
  have hB0 := B2.trans (B3.mono B2.size)
  have hs1 := B2.size
  have hp4 := bx2.lt
  clear hW0 B3 bx0 bx1 bx2 B0 B1 b1 b2 hW1 k3
  have hD2 : D.size ≤ 268435456 := by omega
  refine wpIn_rangeFunc_ownH rfl (by decide) (gf := 87) (lb := #[.pointer (some ⟨w2.heap.size + 1 + 1, 0, none⟩)]) rfl trivial (enters_of Tryz.func87 (by kernel_rfl) rfl)
    (Jl.frames_stops (6 - 1) (by decide) (w2.heap.size + 1 + 1) D hD2 W0 bD (hTB hB0)) (fun h h' => h.trans h') (fun W' l o o' _ hl ho _ => Jl.Kp.put _ _ W' l o o' hl ho) (Below.refl _ _) (fun _ => rfl)
    (Jl.I W.heap.size W.heap.size w2.heap.size W sq l)
    (Jl.Ix W.heap.size W.heap.size W sq l)
    (Jl.I_own _ _ _ _ _ _ _ (Nat.le_refl _) (by omega))
    (fun c => Jl.Ix_own _ _ _ _ _ _ _ (Nat.le_refl _) (by omega))
    ⟨⟨⟨_, bO, World.ownsRow_nil _ _ _ _, trivial⟩, bG, bx3, rfl⟩, hB0⟩
    (fun x a' W' => ∃ Bx, Blk W' Bx 106 #[.int .i64 (x.1.kind : Int), .string x.1.pay, .int .i64 (x.1.at_ : Int)] ∧ a' = { tmps := #[.pointer (some ⟨d, 0, none⟩), .int .i64 n, .int .i64 sq, .int .i64 l, undef, undef, .pointer (some ⟨W.heap.size, 0, none⟩), .pointer (some ⟨W.heap.size + 1, 0, none⟩), .pointer (some ⟨W.heap.size + 1 + 1, 0, none⟩), .pointer (some ⟨W.heap.size + 1 + 1 + 1, 0, none⟩), .pointer (some ⟨W.heap.size + 1 + 1 + 1 + 1, 0, none⟩), .int .i64 0, .string D, .int .i64 0, .pointer (some ⟨w2.heap.size, 0, none⟩), .pointer (some ⟨w2.heap.size + 1, 0, none⟩), .pointer (some ⟨Bx, 0, none⟩), .int .i64 (x.1.end_ : Int), undef, undef, .int .i64 n, .int .i64 sq, .int .i64 l, .int .i64 0, .int .i64 0, .bool false, undef, .tuple #[.string D, .int .i64 0], .pointer (some ⟨d, 0, none⟩), .int .i64 n, .string nb, .tuple #[.string D, .int .i64 0], .string D, .int .i64 0, .int .i64 0, .bool false, undef, .string D, .func (.func 87) #[] #[.pointer (some ⟨w2.heap.size + 1 + 1, 0, none⟩)], .agg #[.int .i64 (x.1.kind : Int), .string x.1.pay, .int .i64 (x.1.at_ : Int)], .int .i64 (x.1.end_ : Int), undef, undef, undef, undef, undef, undef, undef, undef, undef, undef, undef, undef, undef, undef, undef, undef, undef, undef, undef, undef, undef, undef, undef, undef, undef, undef, undef, undef], defers := [] })
    (fun x a' s X Y row hs hg hr => by obtain ⟨Bx, h2, h3⟩ := hs; exact ⟨Bx, Jl.blk_own (β := Unit) Bx _ _ _ () X Y row h2 hg hr, h3⟩)
    ?assign ?body ?done ?stop
  case assign =>
    rintro l1 pre x W' K ⟨⟨⟨v, hv, hrow, _⟩, hgd, hbx, hsome⟩, hB⟩ hK
    have hbk := Blk.new W' 106 #[.int .i64 (x.1.kind : Int), .string x.1.pay, .int .i64 (x.1.at_ : Int)]
    unfold Jl.enc
    gi_wp2
    have hA : Below W'.heap.size W' (W'.alloc (.cells #[.int .i64 (x.1.kind : Int), .string x.1.pay, .int .i64 (x.1.at_ : Int)] 106)) := (Below.refl _ _).alloc (Nat.le_refl _) _
    exact hK _ _ ((KeepsOthers.alloc _ _).from _) (Jl.Kp.below hA) ⟨⟨⟨v, hv.alloc _, hrow.alloc _, trivial⟩, hgd.alloc _, hbx.below hA, hsome⟩, hB.alloc hB.size _⟩ ⟨W'.heap.size, hbk, rfl⟩
  case body =>
    rintro l1 pre x a' W' hl ⟨r, hr⟩ ⟨⟨⟨v, hv, hrow, _⟩, hgd, hbx, hsome⟩, hB⟩ ⟨Bx, bX, rfl⟩ hlt
    obtain ⟨⟨acc, g0⟩, hst⟩ := Option.isSome_iff_exists.1 hsome
    rw [hst] at hrow hgd
    simp only [Option.map_some, Option.getD_some] at hrow hgd
    have hal : acc.length = pre.length := (Jn.run_len hst).trans (List.length_map _)
    obtain ⟨⟨q, P, i, e⟩, hxp, hxe⟩ := x
    simp only at hxp hxe bX ⊢
    have kp := payload_any P q l W' (by omega) hl2
    obtain ⟨u, hu⟩ : ∃ u, Jn.pay q P.data.toList l = u := ⟨_, rfl⟩
    rw [hu] at kp
    have hstep : Jn.run sq l (Jl.fr (pre ++ [⟨⟨q, P, i, e⟩, hxp, hxe⟩])) = if u.err = 0 ∧ u.seq = sq + acc.length + 1 then some (acc ++ [u], e) else none := by
      unfold Jl.fr
      rw [List.map_append, List.map_singleton, Jn.run_snoc]
      unfold Jl.fr at hst
      rw [hst]
      show Jn.step sq l (acc, g0) ⟨q, P, i, e⟩ = _
      unfold Jn.step
      rw [hu]
    obtain ⟨uq, uk, ui, uc, ue⟩ := u
    simp only at hstep
    obtain ⟨C, hC, hCd, hCs⟩ := str_of uc
    have hfour : Jl.four ⟨uq, uk, ui, uc, ue⟩ = [.int .i64 uq, .int .i64 uk, .int .i64 ui, .string C] := by unfold Jl.four; rw [hC]
    unfold updV at kp
    simp only [hC] at kp
    obtain ⟨A, cp, rfl⟩ := Jl.slice_form hrow
    have y0 : W'.cell? ⟨Bx, 0, none⟩ = some (.int .i64 (q : Int)) := bX.cell 0
    have y1 : W'.cell? ⟨Bx, 1, none⟩ = some (.string P) := bX.cell 1
    have y2 := hbx.w.cell
    rw [hal] at hstep
    have hpl : pre.length ≤ 268435456 := by omega
    have HX := Lib.hid (And.intro hfour (And.intro hstep hal))
    have w1e : IntKind.i64.wrap ((sq : Int) + (pre.length : Int)) = ((sq + pre.length : Nat) : Int) := (IntWalk.i64_in _ (by omega)).trans (by omega)
    have w2e : IntKind.i64.wrap (((sq + pre.length : Nat) : Int) + 1) = ((sq + pre.length + 1 : Nat) : Int) := (IntWalk.i64_in _ (by omega)).trans (by omega)
    have hsz' := hB.size
    by_cases h1 : ue = 0
    rotate_left
    · have q1 : ((ue : Int) != 0) = true := by rw [bne_iff_ne]; omega
      clear hC hCd hCs hfour hu hst hal hstep hsome w1e w2e bX
      gi_wp2_with (refine ⟨trivial, ?_⟩; gi_at_call 56; refine (CallsIn.inRound l1 (callsIn_wide.2 kp)).mono ?_; clear kp; rintro z w3 ⟨rfl, b3⟩; have bx3 := hbx.below b3; have bx4 := fun o => bx3.below ((Below.refl w3.heap.size w3).alloc (Nat.le_refl _) o); have r3 := fun o => (bx4 o).r.cell; have g3 := fun o => (bx4 o).g.cell; have e3 := fun o => (bx4 o).e.cell; have rf := fun o => (bx4 o).r.frozen; have gf := fun o => (bx4 o).g.frozen; have ef := fun o => (bx4 o).e.frozen)
      exact Jl.left (Nat.le_refl _) bx3 hB b3 hsz' _ (by rw [HX.out.2.1, if_neg (fun hh => h1 hh.1)])
    subst h1
    have q1 : (((0 : Nat) : Int) != 0) = false := rfl
    by_cases h2 : uq = sq + pre.length + 1
    rotate_left
    · have q2 : ((uq : Int) != ((sq + pre.length + 1 : Nat) : Int)) = true := by rw [bne_iff_ne]; omega
      clear hC hCd hCs hfour hu hst hal hstep hsome bX
      gi_wp2_with (refine ⟨trivial, ?_⟩; gi_at_call 56; refine (CallsIn.inRound l1 (callsIn_wide.2 kp)).mono ?_; clear kp; rintro z w3 ⟨rfl, b3⟩; have bx3 := hbx.below b3; have bx4 := fun o => bx3.below ((Below.refl w3.heap.size w3).alloc (Nat.le_refl _) o); have r3 := fun o => (bx4 o).r.cell; have g3 := fun o => (bx4 o).g.cell; have e3 := fun o => (bx4 o).e.cell; have rf := fun o => (bx4 o).r.frozen; have gf := fun o => (bx4 o).g.frozen; have ef := fun o => (bx4 o).e.frozen; have s3 := fun o => (bx4 o).s.cell; have hv3 : Boxed w3 w2.heap.size 54 (.slice A pre.length cp) := (b3.block _ hv.lt).trans hv; have v3 := fun o => (hv3.alloc o).cell)
      exact Jl.left (Nat.le_refl _) bx3 hB b3 hsz' _ (by rw [HX.out.2.1, if_neg (fun hh => h2 hh.2)])
    have q2 : ((uq : Int) != ((sq + pre.length + 1 : Nat) : Int)) = false := by rw [bne_eq_false_iff_eq]; omega
    have HH2 := Lib.hid h2
    clear h2
    clear hC hCd hCs hfour hu hst hal hstep hsome bX
    gi_wp2_with (first
      | (refine ⟨trivial, ?_⟩; gi_at_call 56; refine (CallsIn.inRound l1 (callsIn_wide.2 kp)).mono ?_; clear kp; rintro z w3 ⟨rfl, b3⟩; have bx3 := hbx.below b3; have bx4 := fun o => bx3.below ((Below.refl w3.heap.size w3).alloc (Nat.le_refl _) o); have r3 := fun o => (bx4 o).r.cell; have g3 := fun o => (bx4 o).g.cell; have e3 := fun o => (bx4 o).e.cell; have rf := fun o => (bx4 o).r.frozen; have gf := fun o => (bx4 o).g.frozen; have ef := fun o => (bx4 o).e.frozen; have s3 := fun o => (bx4 o).s.cell; have hv3 : Boxed w3 w2.heap.size 54 (.slice A pre.length cp) := (b3.block _ hv.lt).trans hv; have v3 := fun o => (hv3.alloc o).cell; have hrow3 := Jl.row_grown hrow (Jl.grown_of b3); have hgd3 : Boxed w3 (w2.heap.size + 1) 3 _ := (b3.block _ hgd.lt).trans hgd; have hz3 := b3.size
         have HN := Lib.hid (Jl.news (Blk.new (w3.alloc (.cells #[.int .i64 (uq : Int), .int .i64 (uk : Int), .int .i64 (ui : Int), .string C] 33)) 33 #[.int .i64 (uq : Int), .int .i64 (uk : Int), .int .i64 (ui : Int), .string C]))
         rw [World.size_alloc] at HN)
      | (gi_at_builtin; go_loud (refine wpListIn_append_own _ rfl _ _ 54 rfl W.heap.size 33 i0 (.agg #[.int .i64 0, .int .i64 0, .int .i64 0, .string ⟨#[]⟩]) 4 40 Tryz.underlying54 hi hz0 hz1 hz2 rfl (by decide) (.slice A pre.length cp) pre.length (Jl.cells acc) rfl ((hrow3.alloc (.cells #[.int .i64 (uq : Int), .int .i64 (uk : Int), .int .i64 (ui : Int), .string C] 33)).alloc (.cells #[.int .i64 (uq : Int), .int .i64 (uk : Int), .int .i64 (ui : Int), .string C] 33)) ⟨w3.heap.size + 1, 0, none⟩ 1 1 [.int .i64 (uq : Int), .int .i64 (uk : Int), .int .i64 (ui : Int), .string C] rfl rfl HN.out (by simp [Value.oneCell']) (by unfold maxLen; omega) (by omega) (by simp; omega) ?_; intro v' w5 hown' hgrow _; obtain ⟨g', cap', rfl⟩ := ownsRow_succ hown'; obtain ⟨hv1, _, _, _, _⟩ := (hv3.alloc (.cells #[.int .i64 (uq : Int), .int .i64 (uk : Int), .int .i64 (ui : Int), .string C] 33)).appended (by decide) (hrow3.alloc (.cells #[.int .i64 (uq : Int), .int .i64 (uk : Int), .int .i64 (ui : Int), .string C] 33)) (by simp; omega) hs1 hown' hgrow; have hd1 := hv1.cell; have hf1 := hv1.frozen; have hg5 := ((hgd3.alloc (.cells #[.int .i64 (uq : Int), .int .i64 (uk : Int), .int .i64 (ui : Int), .string C] 33)).alloc (.cells #[.int .i64 (uq : Int), .int .i64 (uk : Int), .int .i64 (ui : Int), .string C] 33)).kept hgrow ((hgd3.alloc (.cells #[.int .i64 (uq : Int), .int .i64 (uk : Int), .int .i64 (ui : Int), .string C] 33)).not_row (by decide) (hrow3.alloc (.cells #[.int .i64 (uq : Int), .int .i64 (uk : Int), .int .i64 (ui : Int), .string C] 33))); have hgc := hg5.cell; have hgf := hg5.frozen)))
    obtain ⟨e1, e2, e3⟩ := HX.out
    rw [if_pos ⟨trivial, HH2.out⟩] at e2
    rw [← e1] at hown'
    exact Jl.goes_on (x := ⟨⟨q, P, i, e⟩, hxp, hxe⟩) (Nat.le_refl _) hp4 rfl hbx ⟨_, hgd⟩ hv hrow hB b3 hsz' hown' hgrow e2 hTB
  case done =>
    rintro D1 ys W' hD1 ⟨i, hC, hend⟩ ⟨⟨⟨v, hv, hrow, _⟩, hgd, hbx, hsome⟩, hB⟩ hK
    obtain ⟨⟨acc, g0⟩, hst⟩ := Option.isSome_iff_exists.1 hsome
    obtain ⟨rfl, hlook⟩ := hC.done hend hst
    have hh := HL.out
    rw [hlook] at hh
    obtain ⟨j1, hh2⟩ := Prod.mk.inj hh
    obtain ⟨j2, j3⟩ := Prod.mk.inj hh2
    clear hh hh2
    subst j1 j2 j3
    rw [hst] at hrow hgd
    simp only [Option.map_some, Option.getD_some] at hrow hgd
    have hal : acc.length = ys.length := (Jn.run_len hst).trans (List.length_map _)
    rw [← hal] at hrow
    obtain ⟨A, cp, rfl⟩ := Jl.slice_form hrow
    have z0 := hv.cell
    have z1 := hgd.cell
    have r3 := hbx.r.cell
    have g3 := hbx.g.cell
    have e3 := hbx.e.cell
    have rf := hbx.r.frozen
    have gf := hbx.g.frozen
    have ef := hbx.e.frozen
    clear hlook hst hsome hal HL hend hC
    gi_wp2
    gi_region
    all_goals gi_wp2
    all_goals
      obtain ⟨X, hX⟩ : ∃ X, (((W'.setCell ⟨W.heap.size + 1 + 1, 0, none⟩ (.slice A acc.length cp)).setCell ⟨W.heap.size + 1 + 1 + 1, 0, none⟩ (.int .i64 (g0 : Int))).setCell ⟨W.heap.size + 1 + 1 + 1 + 1, 0, none⟩ (.int .i64 0)).drew = X := ⟨_, rfl⟩
      have b1 : Boxed X (W.heap.size + 1 + 1) 54 (.slice A acc.length cp) := by rw [← hX]; exact ((hbx.r.set _).other (by omega) _).other (by omega) _
      have b2 : Boxed X (W.heap.size + 1 + 1 + 1) 3 (.int .i64 (g0 : Int)) := by rw [← hX]; exact ((hbx.g.other (by omega) _).set _).other (by omega) _
      have b3 : Boxed X (W.heap.size + 1 + 1 + 1 + 1) 48 (.int .i64 0) := by rw [← hX]; exact ((hbx.e.other (by omega) _).other (by omega) _).set _
      have hK2 : X.heap[D1]? = some (.deferred (some [])) := by
        rw [← hX]
        exact (((KeepsOthers.setCell _ _ _).trans (KeepsOthers.setCell _ _ _)).trans (KeepsOthers.setCell _ _ _)).same D1 _ hK rfl
      have hB2 : Below W.heap.size W X := by
        rw [← hX]
        exact (((hB.setCell (p := ⟨W.heap.size + 1 + 1, 0, none⟩) (by show W.heap.size ≤ W.heap.size + 1 + 1; omega) _).setCell (p := ⟨W.heap.size + 1 + 1 + 1, 0, none⟩) (by show W.heap.size ≤ W.heap.size + 1 + 1 + 1; omega) _).setCell (p := ⟨W.heap.size + 1 + 1 + 1 + 1, 0, none⟩) (by show W.heap.size ≤ W.heap.size + 1 + 1 + 1 + 1; omega) _).drew
      have hrow2 : X.ownsRow W.heap.size 33 4 (.slice A acc.length cp) acc.length (Jl.cells acc) := by
        have n1 := hbx.r.not_row (by decide) hrow
        have n2 := hbx.g.not_row (by decide) hrow
        have n3 := hbx.e.not_row (by decide) hrow
        rw [← hX]
        have r1 := hrow.kept (grownBy_setCell' W' (W.heap.size + 1 + 1) (.slice A acc.length cp)) (.inr n1.symm)
        have r2 := r1.kept (grownBy_setCell' _ (W.heap.size + 1 + 1 + 1) (.int .i64 (g0 : Int))) (.inr n2.symm)
        exact Jl.row_grown (r2.kept (grownBy_setCell' _ (W.heap.size + 1 + 1 + 1 + 1) (.int .i64 0)) (.inr n3.symm)) ⟨rfl, rfl, rfl, Nat.le_refl _, fun _ _ _ => rfl⟩
      rw [hX]
      refine ⟨by simp, .inl ⟨_, _, rfl, run_takeDeferred hK2, ?_⟩⟩
      have kp := fun {b : Nat} {t : TypeId} {v : Value} (h : Boxed X b t v) => Jl.boxed_put (o' := .deferred none) h hK2 rfl
      have q1 := (kp b1).cell
      have q2 := (kp b2).cell
      have q3 := (kp b3).cell
      refine ⟨.tuple #[.slice A acc.length cp, .int .i64 (g0 : Int), .int .i64 0], ?_, ⟨_, rfl, ownsRow_putObj hrow2 _ hK2 rfl⟩, hB2.trans (belowK_b (w := W) (Nat.le_refl _) X D1 _ _ (by omega) hK2 rfl rfl)⟩
      simp [results, Tryz.results28, go_sem, q1, q2, q3]
  case stop =>
    rintro D1 c pre W' hD1 ⟨i, hC⟩ ⟨⟨rfl, hr1, hr2, hr3, hnone⟩, hB⟩ hK
    have hlook := hC.fails hnone
    have hh := HL.out
    rw [hlook] at hh
    obtain ⟨j1, hh2⟩ := Prod.mk.inj hh
    obtain ⟨j2, j3⟩ := Prod.mk.inj hh2
    clear hh hh2
    subst j1 j2 j3
    clear hlook HL hC
    gi_wp2
    refine ⟨by simp, .inl ⟨_, _, rfl, run_takeDeferred hK, ?_⟩⟩
    have kp := fun {b : Nat} {t : TypeId} {v : Value} (h : Boxed W' b t v) => Jl.boxed_put (o' := .deferred none) h hK rfl
    have q1 := (kp hr1).cell
    have q2 := (kp hr2).cell
    have q3 := (kp hr3).cell
    refine ⟨.tuple #[.slice none 0 0, .int .i64 (0 : Nat), .int .i64 80], ?_, ⟨_, rfl, World.ownsRow_nil _ _ _ _⟩, hB.trans (belowK_b (w := W) (Nat.le_refl _) W' D1 _ _ (by omega) hK rfl rfl)⟩
    simp [results, Tryz.results28, go_sem, q1, q2, q3]
theorem Jl.out {w : World} {p : Nat} {sq l : Int} (bx : Jl.Bxs w p sq l) (c : Int) :
    (((w.setCell ⟨p + 1 + 1, 0, none⟩ (.slice none 0 0)).setCell ⟨p + 1 + 1 + 1, 0, none⟩ (.int .i64 0)).setCell ⟨p + 1 + 1 + 1 + 1, 0, none⟩ (.int .i64 c)).cell? ⟨p + 1 + 1, 0, none⟩ = some (.slice none 0 0) ∧
    (((w.setCell ⟨p + 1 + 1, 0, none⟩ (.slice none 0 0)).setCell ⟨p + 1 + 1 + 1, 0, none⟩ (.int .i64 0)).setCell ⟨p + 1 + 1 + 1 + 1, 0, none⟩ (.int .i64 c)).cell? ⟨p + 1 + 1 + 1, 0, none⟩ = some (.int .i64 0) ∧
    (((w.setCell ⟨p + 1 + 1, 0, none⟩ (.slice none 0 0)).setCell ⟨p + 1 + 1 + 1, 0, none⟩ (.int .i64 0)).setCell ⟨p + 1 + 1 + 1 + 1, 0, none⟩ (.int .i64 c)).cell? ⟨p + 1 + 1 + 1 + 1, 0, none⟩ = some (.int .i64 c) :=
  ⟨(((bx.r.set _).other (by omega) _).other (by omega) _).cell, (((bx.g.other (by omega) _).set _).other (by omega) _).cell, (((bx.e.other (by omega) _).other (by omega) _).set _).cell⟩
theorem Jl.name_len (n : Int) : (Jn.name n).length ≤ 9223372036854775807 := by
  unfold Jn.name
  split
  · exact Nat.zero_le _
  · rw [List.length_cons]
    unfold Lib.itoa
    rw [if_neg (by omega), Lib.decDigits_length]
    have := nDigits_le n.toNat
    omega
set_option maxRecDepth 100000 in
set_option maxHeartbeats 8000000 in
/-- Look: what the disk's file tells; the list is new memory. -/
theorem Jl.look_any {W : World} {d : Nat} {m : Dk.M} {F : Nat → Prop} (h : Dk.At W d m F) (hG : Dk.Good m) (n sq l : Int) (hT : TabS W) (hP : PowT W) {us : List Jn.Upd} {g : Nat} {c : Int} (hL : Jl.lookR m n sq l = (us, g, c)) :
    Calls Tryz.prog 28 #[.pointer (some ⟨d, 0, none⟩), .int .i64 n, .int .i64 sq, .int .i64 l] W fun e W' => (∃ v, e = .returned (.tuple #[v, .int .i64 g, .int .i64 c]) ∧ W'.ownsRow W.heap.size 33 4 v us.length (Jl.cells us)) ∧ Below W.heap.size W W' := by
  unfold Jl.lookR at hL
  by_cases hg : Jn.goesE n sq l = 0
  · rw [if_pos hg] at hL
    by_cases hc : Dk.code m (Jn.name n) = 0
    · rw [if_pos hc] at hL
      obtain ⟨_, hw, hs⟩ := Jn.goesE_zero hg
      have hw2 := Jn.wideB_true hw
      obtain ⟨sq, rfl⟩ := Int.eq_ofNat_of_zero_le hs.1
      obtain ⟨l, rfl⟩ := Int.eq_ofNat_of_zero_le (show 0 ≤ l by omega)
      exact Jl.look_main h hG n sq l hT hP hg hc hL
    · rw [if_neg hc] at hL
      obtain ⟨j1, hh2⟩ := Prod.mk.inj hL
      obtain ⟨j2, j3⟩ := Prod.mk.inj hh2
      clear hL hh2
      subst j1 j2
      obtain ⟨nb, hnb, hnbd, hnbs⟩ := str_of (Jn.name n)
      have hname := Jl.name_len n
      have k1 := fun {w : World} (hB : Below W.heap.size W w) => Jl.goes_any n sq l w (hP.below hB)
      have k2 := fun {w : World} (hB : Below W.heap.size W w) => name_any n w (hP.below hB) nb hnb
      have k3 := fun {w : World} (hB : Below W.heap.size W w) => Jl.stored_any (h.later hB (Nat.le_refl _)) hG nb (by omega)
      unfold Jl.storedV at k3
      rw [hnbd, if_neg hc] at k3
      rw [hg] at k1
      rw [j3] at k3 hc
      have q1 : (c != 0) = true := bne_iff_ne.2 hc
      have B0 : Below W.heap.size W (((((W.alloc (.cells #[.int .i64 sq] 3)).alloc (.cells #[.int .i64 l] 3)).alloc (.cells #[.slice none 0 0] 54)).alloc (.cells #[.int .i64 0] 3)).alloc (.cells #[.int .i64 0] 48)) :=
        (((((Below.refl _ _).alloc (Nat.le_refl _) _).alloc (by simp) _).alloc (by simp; omega) _).alloc (by simp; omega) _).alloc (by simp; omega) _
      have bx0 := Jl.Bxs.new W sq l
      obtain ⟨W1, hW1⟩ : ∃ W1, (((((W.alloc (.cells #[.int .i64 sq] 3)).alloc (.cells #[.int .i64 l] 3)).alloc (.cells #[.slice none 0 0] 54)).alloc (.cells #[.int .i64 0] 3)).alloc (.cells #[.int .i64 0] 48)) = W1 := ⟨_, rfl⟩
      rw [hW1] at B0 bx0
      have c0 := bx0.s.cell
      have c1 := bx0.w.cell
      clear h hG hg hc hnb hnbd hnbs hname j3 hP hT
      go_enter Tryz.func28, Tryz.ntmps28
      go_wp2_with (first
        | (go_at_call 46; refine (k1 B0).mono ?_; rintro e w1 ⟨rfl, b1⟩; have B1 := B0.trans (b1.mono B0.size); have bx1 := bx0.below b1; clear k1 c0 c1)
        | (go_at_call 47; refine (k2 B1).mono ?_; rintro e w2 ⟨rfl, b2⟩; have B2 := B1.trans (b2.mono B1.size); have bx2 := bx1.below b2; clear k2)
        | (go_at_call 54; refine (k3 B2).mono ?_; rintro e w' ⟨rfl, rfl⟩; have r3 := bx2.r.cell; have g3 := bx2.g.cell; have e3 := bx2.e.cell; have rf := bx2.r.frozen; have gf := bx2.g.frozen; have ef := bx2.e.frozen))
      have QQ := Jl.out bx2 c
      have B5 : Below W.heap.size W (((w2.setCell ⟨W.heap.size + 1 + 1, 0, none⟩ (.slice none 0 0)).setCell ⟨W.heap.size + 1 + 1 + 1, 0, none⟩ (.int .i64 0)).setCell ⟨W.heap.size + 1 + 1 + 1 + 1, 0, none⟩ (.int .i64 c)) :=
        ((B2.setCell (p := ⟨W.heap.size + 1 + 1, 0, none⟩) (by show W.heap.size ≤ W.heap.size + 1 + 1; omega) _).setCell (p := ⟨W.heap.size + 1 + 1 + 1, 0, none⟩) (by show W.heap.size ≤ W.heap.size + 1 + 1 + 1; omega) _).setCell (p := ⟨W.heap.size + 1 + 1 + 1 + 1, 0, none⟩) (by show W.heap.size ≤ W.heap.size + 1 + 1 + 1 + 1; omega) _
      obtain ⟨X, hX⟩ : ∃ X, (((w2.setCell ⟨W.heap.size + 1 + 1, 0, none⟩ (.slice none 0 0)).setCell ⟨W.heap.size + 1 + 1 + 1, 0, none⟩ (.int .i64 0)).setCell ⟨W.heap.size + 1 + 1 + 1 + 1, 0, none⟩ (.int .i64 c)) = X := ⟨_, rfl⟩
      rw [hX] at QQ B5 ⊢
      obtain ⟨u1, u2, u3⟩ := QQ
      exact bodyPost_ret (v := .tuple #[.slice none 0 0, .int .i64 (0 : Nat), .int .i64 c]) (by simp [results, Tryz.results28, go_sem, u1, u2, u3]) rfl ⟨⟨_, rfl, World.ownsRow_nil _ _ _ _⟩, B5⟩
  · rw [if_neg hg] at hL
    obtain ⟨j1, hh2⟩ := Prod.mk.inj hL
    obtain ⟨j2, j3⟩ := Prod.mk.inj hh2
    clear hL hh2
    subst j1 j2
    have k1 := fun {w : World} (hB : Below W.heap.size W w) => Jl.goes_any n sq l w (hP.below hB)
    rw [j3] at k1 hg
    have q1 : (c != 0) = true := bne_iff_ne.2 hg
    have B0 : Below W.heap.size W (((((W.alloc (.cells #[.int .i64 sq] 3)).alloc (.cells #[.int .i64 l] 3)).alloc (.cells #[.slice none 0 0] 54)).alloc (.cells #[.int .i64 0] 3)).alloc (.cells #[.int .i64 0] 48)) :=
      (((((Below.refl _ _).alloc (Nat.le_refl _) _).alloc (by simp) _).alloc (by simp; omega) _).alloc (by simp; omega) _).alloc (by simp; omega) _
    have bx0 := Jl.Bxs.new W sq l
    obtain ⟨W1, hW1⟩ : ∃ W1, (((((W.alloc (.cells #[.int .i64 sq] 3)).alloc (.cells #[.int .i64 l] 3)).alloc (.cells #[.slice none 0 0] 54)).alloc (.cells #[.int .i64 0] 3)).alloc (.cells #[.int .i64 0] 48)) = W1 := ⟨_, rfl⟩
    rw [hW1] at B0 bx0
    have c0 := bx0.s.cell
    have c1 := bx0.w.cell
    clear h hG hg j3 hP hT
    go_enter Tryz.func28, Tryz.ntmps28
    go_wp2_with (go_at_call 46; refine (k1 B0).mono ?_; rintro e w1 ⟨rfl, b1⟩; have B1 := B0.trans (b1.mono B0.size); have bx1 := bx0.below b1; clear k1 c0 c1; have r3 := bx1.r.cell; have g3 := bx1.g.cell; have e3 := bx1.e.cell; have rf := bx1.r.frozen; have gf := bx1.g.frozen; have ef := bx1.e.frozen)
    have QQ := Jl.out bx1 c
    have B5 : Below W.heap.size W (((w1.setCell ⟨W.heap.size + 1 + 1, 0, none⟩ (.slice none 0 0)).setCell ⟨W.heap.size + 1 + 1 + 1, 0, none⟩ (.int .i64 0)).setCell ⟨W.heap.size + 1 + 1 + 1 + 1, 0, none⟩ (.int .i64 c)) :=
      ((B1.setCell (p := ⟨W.heap.size + 1 + 1, 0, none⟩) (by show W.heap.size ≤ W.heap.size + 1 + 1; omega) _).setCell (p := ⟨W.heap.size + 1 + 1 + 1, 0, none⟩) (by show W.heap.size ≤ W.heap.size + 1 + 1 + 1; omega) _).setCell (p := ⟨W.heap.size + 1 + 1 + 1 + 1, 0, none⟩) (by show W.heap.size ≤ W.heap.size + 1 + 1 + 1 + 1; omega) _
    obtain ⟨X, hX⟩ : ∃ X, (((w1.setCell ⟨W.heap.size + 1 + 1, 0, none⟩ (.slice none 0 0)).setCell ⟨W.heap.size + 1 + 1 + 1, 0, none⟩ (.int .i64 0)).setCell ⟨W.heap.size + 1 + 1 + 1 + 1, 0, none⟩ (.int .i64 c)) = X := ⟨_, rfl⟩
    rw [hX] at QQ B5 ⊢
    obtain ⟨u1, u2, u3⟩ := QQ
    exact bodyPost_ret (v := .tuple #[.slice none 0 0, .int .i64 (0 : Nat), .int .i64 c]) (by simp [results, Tryz.results28, go_sem, u1, u2, u3]) rfl ⟨⟨_, rfl, World.ownsRow_nil _ _ _ _⟩, B5⟩
#print axioms Jl.look_any
end Go.Proofs.YtifkhjihgnnpfaaGreatDoor
