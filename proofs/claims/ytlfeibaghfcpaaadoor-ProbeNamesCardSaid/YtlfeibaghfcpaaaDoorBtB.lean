/- Contracts of bits.chunks, its closure and bits.Chunks: the chunks of a width, one behind the other, in new memory. Conditions: each theorem's own hypotheses. -/
import Derived.RangeFuncNested
import Derived.RangeFuncBound
import Derived.RangeFuncCalls
import Derived.RangeFuncLeaves
import Derived.RangeFuncBox
import Derived.Shelf.Abstract
import Derived.OwnWalkIn
import Derived.TacticsInMore
import Derived.LoopNIn
import Derived.LoopIn
import Derived.Maps.AppendAt
import Derived.Test.YtlfeibaghfcpaaaDoorBtA
import Derived.Test.YtlfeibaghfcpaaaDoorMem
namespace Go.Proofs.YtlfeibaghfcpaaaDoor
open Go.RowKit Go.Shelf
set_option linter.unusedVariables false
attribute [local go_sem] Oper.semAt_some

theorem infoChunk : (Tryd.prog.info? 77).map (fun i => (i.zero, i.size, i.bytes)) = some (some (.agg #[.int .i64 0, .int .i64 0]), 2, 16) := by kernel_rfl

theorem Bt.news {w : World} {g : Nat} {t : TypeId} {cs : Array Value} (h : Blk w g t cs) : ∀ j u, cs.toList[j]? = some u → w.cell? ((⟨g, 0, none⟩ : Addr).add j) = some u := by
  intro j u hu
  rw [show (⟨g, 0, none⟩ : Addr).add j = ⟨g, j, none⟩ from by unfold Addr.add; split <;> simp_all, h.cell]
  simpa using hu
theorem Bt.blk_own {β : Type} (g : Nat) (t : TypeId) (cs : Array Value) (B : Nat) : OwnFrom B (fun (_ : β) W => Blk W g t cs) := fun s X Y row hs hg hrow => by
  refine hs.grown hg fun e => ?_
  obtain ⟨_, o, ho, hc⟩ := hrow g e.symm
  rw [show X.heap[g]? = _ from hs] at ho; cases ho; cases hc

/-- Chunk j with its number. -/
def Bt.ck (w m j : Nat) : Nat × Nat × Nat := (j, Bt.from_ w m j, Bt.bits w m j)
/-- The first k chunks. -/
def Bt.upto (w m k : Nat) : List (Nat × Nat × Nat) := (List.range k).map (Bt.ck w m)
theorem Bt.upto_succ (w m k : Nat) : Bt.upto w m (k + 1) = Bt.upto w m k ++ [Bt.ck w m k] := by simp [Bt.upto, List.range_succ]
theorem Bt.upto_length (w m k : Nat) : (Bt.upto w m k).length = k := by simp [Bt.upto]
/-- Their cells. -/
def Bt.cells (l : List (Nat × Nat × Nat)) : List Value := l.flatMap fun x => [.int .i64 (x.2.1 : Int), .int .i64 (x.2.2 : Int)]
theorem Bt.cells_snoc (l : List (Nat × Nat × Nat)) (x : Nat × Nat × Nat) : Bt.cells (l ++ [x]) = Bt.cells l ++ [.int .i64 (x.2.1 : Int), .int .i64 (x.2.2 : Int)] := by simp [Bt.cells]
def Bt.enc (x : Nat × Nat × Nat) : Array Value := #[.int .i64 (x.1 : Int), .agg #[.int .i64 (x.2.1 : Int), .int .i64 (x.2.2 : Int)]]

/-- What a round keeps: the two boxes that the closure has captured. -/
def Bt.Kp (bm bw w m : Nat) (A B : World) : Prop := (Boxed A bm 3 (.int .i64 (m : Int)) → Boxed B bm 3 (.int .i64 (m : Int))) ∧ (Boxed A bw 3 (.int .i64 (w : Int)) → Boxed B bw 3 (.int .i64 (w : Int)))
theorem Bt.Kp.refl (bm bw w m : Nat) (A : World) : Bt.Kp bm bw w m A A := ⟨id, id⟩
theorem Bt.Kp.trans {bm bw w m : Nat} {A B C : World} (h : Bt.Kp bm bw w m A B) (h' : Bt.Kp bm bw w m B C) : Bt.Kp bm bw w m A C := ⟨fun x => h'.1 (h.1 x), fun x => h'.2 (h.2 x)⟩
theorem Bt.boxed_put {W : World} {b l : Nat} {t : TypeId} {v : Value} {o o' : Obj} (h : Boxed W b t v) (hl : W.heap[l]? = some o) (ho : o.isCells = false) : Boxed (W.putObj l o') b t v := by
  refine h.kept (grownBy_putObj' W l o') fun e => ?_
  obtain rfl : b = l := by simpa using e
  rw [show W.heap[b]? = _ from h] at hl; cases hl; cases ho
theorem Bt.Kp.put {bm bw w m : Nat} (W : World) (l : Nat) (o o' : Obj) (hl : W.heap[l]? = some o) (ho : o.isCells = false) : Bt.Kp bm bw w m W (W.putObj l o') := ⟨fun h => Bt.boxed_put h hl ho, fun h => Bt.boxed_put h hl ho⟩

set_option maxRecDepth 100000 in
set_option maxHeartbeats 2000000 in
/-- The closure of chunks: for every loop body that keeps the two boxes. -/
theorem chunks1_in (F : Fence) (n : Nat) (hf : F.fn 49) (hro : F.round = none) (hn : 1 ≤ n) (l bm bw w m : Nat) (hw : w ≤ 1024) (hm : 1 ≤ m ∧ m ≤ 128) (J Jx : List (Nat × Nat × Nat) → World → Prop)
    (hY : ∀ pre x W, J pre W → pre.length < m → YieldAt F (n - 1) Tryd.prog l (Bt.enc x) W fun e W' =>
      (e = .returned (.bool true) ∧ J (pre ++ [x]) W' ∧ Bt.Kp bm bw w m W W') ∨ (e = .returned (.bool false) ∧ Jx (pre ++ [x]) W'))
    (W : World) (cm : Boxed W bm 3 (.int .i64 (m : Int))) (cw : Boxed W bw 3 (.int .i64 (w : Int))) (h0 : J [] W) :
    CallsIn F n Tryd.prog 49 #[.func (.yield l) #[] #[], .pointer (some ⟨bm, 0, none⟩), .pointer (some ⟨bw, 0, none⟩)] W fun e W' => (∃ v, e = .returned v) ∧
      ((∃ ys, ys = Bt.upto w m m ∧ J ys W') ∨ (∃ pre, (∃ k, k ≤ m ∧ pre = Bt.upto w m k) ∧ Jx pre W')) := by
  refine callsIn_of_wp Tryd.func49 rfl hf ?_ hro
  simp only [Tryd.ntmps49, List.size_toArray, List.length_cons, List.length_nil, Nat.reduceAdd, Nat.reduceSub, Array.replicate_succ, Array.replicate_zero, List.push_toArray, List.append_toArray, List.nil_append, List.cons_append]
  obtain ⟨d, hd⟩ : ∃ d, w / m = d := ⟨_, rfl⟩
  obtain ⟨r, hr⟩ : ∃ r, w % m = r := ⟨_, rfl⟩
  have hdl : d ≤ 1024 := by rw [← hd]; exact Nat.le_trans (Nat.div_le_self _ _) hw
  have ed : (w : Int) / (m : Int) = (d : Int) := by rw [← hd]; rfl
  have er : (w : Int) % (m : Int) = (r : Int) := by rw [← hr]; rfl
  have hm0 : ((m : Int) == 0) = false := by rw [beq_eq_false_iff_ne]; omega
  have hmp : (0 : Int) < (m : Int) := by omega
  have hwp : (0 : Int) ≤ (w : Int) := by omega
  have HD := Lib.hid (And.intro hd hr)
  have cm0 := cm.cell
  have cw0 := cw.cell
  clear hd hr
  gi_wp2
  gi_loopw [4, 8] (fun a i wr => ∃ k : Nat, k ≤ m ∧ i = .int .i64 k ∧ a = .int .i64 (Bt.from_ w m k : Nat) ∧ J (Bt.upto w m k) wr ∧ Bt.Kp bm bw w m W wr)
    (fun _ i _ => m - (intOf i).toNat)
  case atStart => exact ⟨0, Nat.zero_le _, rfl, rfl, h0, Bt.Kp.refl _ _ _ _ _⟩
  case round =>
    obtain ⟨k, hk, rfl, rfl, hJs, hnx⟩ := hrel
    have hcm : wr.cell? ⟨bm, 0, none⟩ = some (.int .i64 (m : Int)) := (hnx.1 cm).cell
    have hcw : wr.cell? ⟨bw, 0, none⟩ = some (.int .i64 (w : Int)) := (hnx.2 cw).cell
    obtain ⟨p, hp⟩ : ∃ p, Bt.from_ w m k = p := ⟨_, rfl⟩
    have hpl : p ≤ 132000 := by
      rw [← hp]
      refine Nat.le_trans (Bt.from_le w m hm.1 k) (Nat.le_trans (Nat.mul_le_mul (Nat.le_trans hk hm.2) (Nat.add_le_add_right hw 1)) (by decide))
    rw [hp]
    by_cases hlt : k < m
    · by_cases hkr : k < r
      · have hck : Bt.ck w m k = (k, p, d + 1) := by obtain ⟨e1, e2⟩ := HD.out; unfold Bt.ck Bt.bits; rw [hp, e1, e2, if_pos hkr]
        have hY1 := hY _ (k, p, d + 1) wr hJs (by rw [Bt.upto_length]; exact hlt)
        obtain ⟨fn, tmps, assign, body, hy, hR⟩ := hY1
        unfold Bt.enc at hy
        dsimp only at hy
        rw [show (((d + 1 : Nat)) : Int) = (d : Int) + 1 from by omega] at hy
        have HP := Lib.hid (And.intro hp hck)
        have hd1 : (0 : Int) ≤ (d : Int) := by omega
        have hd2 : (d : Int) ≤ 1024 := by omega
        clear hp hck
        gi_wp2
        refine hR.mono ?_
        rintro e W3 (⟨rfl, hJ3, hk3⟩ | ⟨rfl, hJx3⟩)
        · gi_wp2
          go_roundw
          case rel => exact ⟨k + 1, by omega, by go_num, by obtain ⟨e1, e2⟩ := HP.out; have e3 := congrArg (fun x => x.2.2) e2; simp only [Bt.ck] at e3; rw [Bt.from_, e1, e3]; go_num, by rw [Bt.upto_succ, HP.out.2]; exact hJ3, hnx.trans hk3⟩
          case measure => simp [intOf]; omega
        · gi_wp2
          refine bodyPost_ret (results_none rfl _ _ _) rfl ?_
          exact ⟨⟨_, rfl⟩, .inr ⟨_, ⟨k + 1, by omega, by rw [Bt.upto_succ, HP.out.2]⟩, hJx3⟩⟩
      · have hck : Bt.ck w m k = (k, p, d) := by obtain ⟨e1, e2⟩ := HD.out; unfold Bt.ck Bt.bits; rw [hp, e1, e2, if_neg hkr]; rfl
        have hY1 := hY _ (k, p, d) wr hJs (by rw [Bt.upto_length]; exact hlt)
        obtain ⟨fn, tmps, assign, body, hy, hR⟩ := hY1
        unfold Bt.enc at hy
        dsimp only at hy
        have hkr' : decide (k < r) = false := decide_eq_false hkr
        have HP := Lib.hid (And.intro hp hck)
        have hd1 : (0 : Int) ≤ (d : Int) := by omega
        have hd2 : (d : Int) ≤ 1024 := by omega
        clear hp hck
        gi_wp2
        refine hR.mono ?_
        rintro e W3 (⟨rfl, hJ3, hk3⟩ | ⟨rfl, hJx3⟩)
        · gi_wp2
          go_roundw
          case rel => exact ⟨k + 1, by omega, by go_num, by obtain ⟨e1, e2⟩ := HP.out; have e3 := congrArg (fun x => x.2.2) e2; simp only [Bt.ck] at e3; rw [Bt.from_, e1, e3]; go_num, by rw [Bt.upto_succ, HP.out.2]; exact hJ3, hnx.trans hk3⟩
          case measure => simp [intOf]; omega
        · gi_wp2
          refine bodyPost_ret (results_none rfl _ _ _) rfl ?_
          exact ⟨⟨_, rfl⟩, .inr ⟨_, ⟨k + 1, by omega, by rw [Bt.upto_succ, HP.out.2]⟩, hJx3⟩⟩
    · obtain rfl : k = m := by omega
      gi_wp2
      go_end0
      exact ⟨⟨_, rfl⟩, .inl ⟨_, rfl, hJs⟩⟩

set_option maxHeartbeats 1000000 in
/-- chunks: its two numbers are boxed, the function value captures the boxes. -/
theorem chunks_in (F : Fence) (n : Nat) (hf : F.fn 37) (hro : F.round = none) (w m : Int) (W : World) :
    CallsIn F n Tryd.prog 37 #[.int .i64 w, .int .i64 m] W fun e W' => e = .returned (.func (.func 49) #[] #[.pointer (some ⟨W.heap.size + 1, 0, none⟩), .pointer (some ⟨W.heap.size, 0, none⟩)]) ∧ W' = (W.alloc (.cells #[.int .i64 w] 3)).alloc (.cells #[.int .i64 m] 3) := by
  refine callsIn_of_wp Tryd.func37 rfl hf ?_ hro
  simp only [Tryd.ntmps37, List.size_toArray, List.length_cons, List.length_nil, Nat.reduceAdd, Nat.reduceSub, Array.replicate_succ, Array.replicate_zero, List.push_toArray, List.append_toArray, List.nil_append, List.cons_append]
  gi_wp2
  go_ret
  exact ⟨rfl, rfl⟩

theorem chunks_stops (F : Fence) (n : Nat) (hf : F.fn 49) (hro : F.round = none) (hn : 1 ≤ n) (bm bw w m : Nat) (hw : w ≤ 1024) (hm : 1 ≤ m ∧ m ≤ 128) (W : World)
    (cm : Boxed W bm 3 (.int .i64 (m : Int))) (cw : Boxed W bw 3 (.int .i64 (w : Int))) :
    SeqStopsK F n Tryd.prog 49 #[.pointer (some ⟨bm, 0, none⟩), .pointer (some ⟨bw, 0, none⟩)] Bt.enc (Bt.Kp bm bw w m) (fun ys => ys = Bt.upto w m m) (fun pre => ∃ k, k ≤ m ∧ pre = Bt.upto w m k) m W := fun l J Jx W1 hW _ _ hY h0 =>
  chunks1_in F n hf hro hn l bm bw w m hw hm J Jx hY W1 ((hW.block _ cm.lt).trans cm) ((hW.block _ cw.lt).trans cw) h0

set_option maxRecDepth 100000 in
set_option maxHeartbeats 4000000 in
/-- bits.Chunks of a width that can be parted: its chunks, in new memory. -/
theorem Chunks_any (w m : Nat) (W : World) (hw : 64 ≤ w ∧ w ≤ 1024) (hm : 1 ≤ m ∧ m ≤ 128) (he : Bt.err w m = 0) :
    Calls Tryd.prog 28 #[.int .i64 (w : Int), .int .i64 (m : Int)] W fun e W' => (∃ g cap, e = .returned (.tuple #[.slice (some ⟨g, 0, none⟩) m cap, .int .i64 0]) ∧ W'.ownsRow W.heap.size 77 2 (.slice (some ⟨g, 0, none⟩) m cap) m (Bt.cells (Bt.upto w m m))) ∧ Below W.heap.size W W' := by
  refine (callsIn_wide (n := 6)).1 ?_
  obtain ⟨i0, hi, hz0, hz1, hz2⟩ := info_parts infoChunk
  have hck := chunked_any w m W
  rw [he] at hck
  have HCK := Lib.hid hck
  clear hck he
  refine callsIn_of_wp_marks Tryd.func28 rfl trivial ?_ rfl
  simp only [Tryd.ntmps28, List.size_toArray, List.length_cons, List.length_nil, Nat.reduceAdd, Nat.reduceSub, Array.replicate_succ, Array.replicate_zero, List.push_toArray, List.append_toArray, List.nil_append, List.cons_append]
  gi_wp2_with (first
    | (refine ⟨trivial, ?_⟩; gi_at_call 36; refine (callsIn_wide.2 HCK.out).mono ?_; rintro e w' ⟨rfl, rfl⟩)
    | (gi_at_make; refine wpListIn_make_own _ rfl _ _ 53 rfl W.heap.size 77 i0 _ 2 Tryd.underlying53 hi hz0 hz1 .i64 .i64 _ m rfl rfl rfl (by rw [hz2]; omega) (by unfold maxLen; omega) (Nat.le_refl _) ?_; intro w1 hown1 hgr1)
    | (refine ⟨trivial, ?_⟩; gi_at_call 37; refine (chunks_in Fence.wide _ trivial rfl _ _ _).mono ?_; rintro e w' ⟨rfl, rfl⟩))
  have hB1 : Below W.heap.size W w1 := (Below.refl _ _).grown hgr1 (Nat.le_refl _) (fun q e => by cases e)
  have bO := ((Boxed.new w1 53 (.slice (some ⟨W.heap.size, 0, none⟩) 0 m)).alloc (.cells #[.int .i64 (w : Int)] 3)).alloc (.cells #[.int .i64 (m : Int)] 3)
  have bW := (Boxed.new (w1.alloc (.cells #[.slice (some ⟨W.heap.size, 0, none⟩) 0 m] 53)) 3 (.int .i64 (w : Int))).alloc (.cells #[.int .i64 (m : Int)] 3)
  have bM := Boxed.new ((w1.alloc (.cells #[.slice (some ⟨W.heap.size, 0, none⟩) 0 m] 53)).alloc (.cells #[.int .i64 (w : Int)] 3)) 3 (.int .i64 (m : Int))
  have hrow0 := ((hown1.alloc (.cells #[.slice (some ⟨W.heap.size, 0, none⟩) 0 m] 53)).alloc (.cells #[.int .i64 (w : Int)] 3)).alloc (.cells #[.int .i64 (m : Int)] 3)
  have hB0 : Below W.heap.size W (((w1.alloc (.cells #[.slice (some ⟨W.heap.size, 0, none⟩) 0 m] 53)).alloc (.cells #[.int .i64 (w : Int)] 3)).alloc (.cells #[.int .i64 (m : Int)] 3)) := ((hB1.alloc hB1.size _).alloc (by have := hB1.size; simp; omega) _).alloc (by have := hB1.size; simp; omega) _
  simp only [World.size_alloc] at bW bM
  have hsz : (((w1.alloc (.cells #[.slice (some ⟨W.heap.size, 0, none⟩) 0 m] 53)).alloc (.cells #[.int .i64 (w : Int)] 3)).alloc (.cells #[.int .i64 (m : Int)] 3)).heap.size = w1.heap.size + 3 := by simp
  have hs1 := hB1.size
  obtain ⟨W0, hW0⟩ : ∃ W0, (((w1.alloc (.cells #[.slice (some ⟨W.heap.size, 0, none⟩) 0 m] 53)).alloc (.cells #[.int .i64 (w : Int)] 3)).alloc (.cells #[.int .i64 (m : Int)] 3)) = W0 := ⟨_, rfl⟩
  rw [hW0] at bO bW bM hrow0 hB0 hsz ⊢
  clear hW0 hown1 hgr1 hB1
  refine wpIn_rangeFunc_ownH rfl (by decide) (gf := 49) (lb := #[.pointer (some ⟨w1.heap.size + 1 + 1, 0, none⟩), .pointer (some ⟨w1.heap.size + 1, 0, none⟩)]) rfl trivial (enters_of Tryd.func49 (by kernel_rfl) rfl)
    (chunks_stops Fence.wide (6 - 1) trivial rfl (by decide) (w1.heap.size + 1 + 1) (w1.heap.size + 1) w m hw.2 hm W0 bM bW) (fun h h' => h.trans h') (fun W' l o o' _ hl ho _ => Bt.Kp.put W' l o o' hl ho) (Below.refl _ _) (fun _ => rfl)
    (fun pre W' => (∃ v, Boxed W' w1.heap.size 53 v ∧ W'.ownsRow W.heap.size 77 2 v pre.length (Bt.cells pre) ∧ True) ∧ Below W.heap.size W W')
    (fun _ _ _ => False)
    (OwnFrom.and (Own.from (holdsRow_own W.heap.size w1.heap.size 53 77 2 (fun pre => pre.length) (fun pre => Bt.cells pre) (fun _ _ => True)) _) (ownFrom_below (Nat.le_refl _) (by omega)))
    (fun _ _ _ _ _ hs _ _ => hs)
    ⟨⟨_, bO, hrow0, trivial⟩, hB0⟩
    (fun x a' W' => ∃ Bx, Blk W' Bx 77 #[.int .i64 (x.2.1 : Int), .int .i64 (x.2.2 : Int)] ∧ a' = { tmps := #[.int .i64 (w : Int), .int .i64 (m : Int), undef, undef, .slice none 0 0, .int .i64 0, .int .i64 0, .pointer (some ⟨w1.heap.size, 0, none⟩), undef, .pointer (some ⟨Bx, 0, none⟩), .int .i64 (w : Int), .int .i64 (m : Int), .int .i64 0, .int .i64 0, .bool false, undef, .int .i64 (m : Int), .slice (some ⟨W.heap.size, 0, none⟩) 0 m, .int .i64 (w : Int), .int .i64 (m : Int), .func (.func 49) #[] #[.pointer (some ⟨w1.heap.size + 1 + 1, 0, none⟩), .pointer (some ⟨w1.heap.size + 1, 0, none⟩)], .int .i64 (x.1 : Int), .agg #[.int .i64 (x.2.1 : Int), .int .i64 (x.2.2 : Int)], undef, undef, undef, undef, undef], defers := [] })
    (fun x a' s X Y row hs hg hr => by obtain ⟨Bx, h2, h3⟩ := hs; exact ⟨Bx, Bt.blk_own (β := Unit) Bx _ _ _ () X Y row h2 hg hr, h3⟩)
    ?assign ?body ?done ?stop
  case assign =>
    rintro l pre x W' K ⟨⟨v, hv, hrow, _⟩, hB⟩ hK
    have hbx := Blk.new W' 77 #[.int .i64 (x.2.1 : Int), .int .i64 (x.2.2 : Int)]
    unfold Bt.enc
    gi_wp2
    exact hK _ _ ((KeepsOthers.alloc _ _).from _) ⟨fun h => h.alloc _, fun h => h.alloc _⟩ ⟨⟨v, hv.alloc _, hrow.alloc _, trivial⟩, hB.alloc hB.size _⟩ ⟨W'.heap.size, hbx, rfl⟩
  case body =>
    rintro l pre x a' W' hl ⟨r, hr⟩ ⟨⟨v, hv, hrow, _⟩, hB⟩ ⟨Bx, bX, rfl⟩ hlt
    have hc := hv.cell
    have hc0 : W'.cell? ⟨Bx, 0, none⟩ = some (.int .i64 (x.2.1 : Int)) := bX.cell 0
    have hc1 : W'.cell? ⟨Bx, 1, none⟩ = some (.int .i64 (x.2.2 : Int)) := bX.cell 1
    have hnews := Bt.news (Blk.new W' 77 #[.int .i64 (x.2.1 : Int), .int .i64 (x.2.2 : Int)])
    have HN := Lib.hid hnews
    clear hnews
    gi_wp2_with (gi_at_builtin; refine wpListIn_append_own _ rfl _ _ 53 rfl W.heap.size 77 i0 (.agg #[.int .i64 0, .int .i64 0]) 2 16 Tryd.underlying53 hi hz0 hz1 hz2 rfl (by decide) _ _ _ rfl (hrow.alloc _) ⟨W'.heap.size, 0, none⟩ 1 1 [.int .i64 (x.2.1 : Int), .int .i64 (x.2.2 : Int)] rfl rfl HN.out (by simp [Value.oneCell']) (by unfold maxLen; omega) (by omega) (by have := hB.size; simp; omega) ?_; intro v' w2 hown' hgrow _; obtain ⟨g', cap', rfl⟩ := ownsRow_succ hown'; obtain ⟨hv1, hv2, hr2, hk2, hb2⟩ := hv.appended (by decide) hrow hB.size hs1 hown' hgrow; have hd1 := hv1.cell; have hf1 := hv1.frozen)
    have hr3 : (w2.setCell ⟨w1.heap.size, 0, none⟩ (.slice (some ⟨g', 0, none⟩) (pre.length + 1) cap')).ownsRow W.heap.size 77 2 (.slice (some ⟨g', 0, none⟩) (pre.length + 1) cap') (pre ++ [x]).length (Bt.cells (pre ++ [x])) := by rw [Bt.cells_snoc, List.length_append]; exact hr2
    refine ⟨hk2.from _, ?_, ⟨_, hv2, hr3⟩, hB.trans hb2⟩
    have hne : ∀ b u, Boxed W' b 3 u → Boxed (w2.setCell ⟨w1.heap.size, 0, none⟩ (.slice (some ⟨g', 0, none⟩) (pre.length + 1) cap')) b 3 u := fun b u hb =>
      ((hb.alloc _).kept hgrow (hb.not_row (by decide) hrow)).other (fun e => by
        subst e
        have := (show W'.heap[w1.heap.size]? = _ from hb).symm.trans (show W'.heap[w1.heap.size]? = _ from hv)
        simp at this) _
    exact ⟨hne _ _, hne _ _⟩
  case done =>
    rintro D ys W' hD rfl ⟨⟨v, hv, hrow, _⟩, hB⟩ hK
    have hc := hv.cell
    rw [Bt.upto_length] at hrow
    obtain ⟨m', rfl⟩ : ∃ m', m = m' + 1 := ⟨m - 1, by omega⟩
    obtain ⟨g, cap, rfl⟩ := ownsRow_succ hrow
    gi_wp2
    refine ⟨by simp, .inl ⟨_, _, rfl, run_takeDeferred hK, ?_⟩⟩
    refine ⟨.tuple #[.slice (some ⟨g, 0, none⟩) (m' + 1) cap, .int .i64 0], ?_, ⟨g, cap, rfl, ownsRow_putObj hrow _ hK rfl⟩, hB.trans (belowK_b (w := W) (Nat.le_refl _) W' D _ _ (by omega) hK rfl rfl)⟩
    simp [results, Tryd.results28, go_sem]
  case stop =>
    rintro D c pre W' _ _ h _
    exact h.elim

theorem Chunks_bad (w m : Int) (W : World) (he : Bt.err w m ≠ 0) :
    Calls Tryd.prog 28 #[.int .i64 w, .int .i64 m] W fun e W' => e = .returned (.tuple #[.slice none 0 0, .int .i64 (Bt.err w m : Nat)]) ∧ W = W' := by
  have hc := chunked_any w m W
  obtain ⟨c, h⟩ : ∃ c, Bt.err w m = c := ⟨_, rfl⟩
  rw [h] at hc he ⊢
  have HC := Lib.hid hc
  have h0 : ((c : Int) != 0) = true := by rw [bne_iff_ne]; omega
  clear hc h
  go_enter Tryd.func28, Tryd.ntmps28
  go_wp2_with fail
  refine HC.out.mono ?_
  rintro e w' ⟨rfl, rfl⟩
  go_wp2_with fail
  go_ret2
  exact ⟨rfl, rfl⟩
end Go.Proofs.YtlfeibaghfcpaaaDoor
