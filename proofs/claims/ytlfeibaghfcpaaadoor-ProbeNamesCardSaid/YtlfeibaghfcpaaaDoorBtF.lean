/- Contract of bits.Split: the values of a code's chunks, in new memory. Conditions: each theorem's own hypotheses. -/
import Derived.Test.YtlfeibaghfcpaaaDoorRi
import Derived.RangeFuncNested
import Derived.Deep.RegionHeldLaw
import Derived.Deep.AppendLies
namespace Go.Proofs.YtlfeibaghfcpaaaDoor
open Go.RowKit Go.Shelf
set_option linter.unusedVariables false
set_option linter.unusedSimpArgs false
attribute [local go_sem] Oper.semAt_some

theorem World.ownsRow_below' {B : Nat} {e : TypeId} {k : Nat} {v : Value} {n : Nat} {xs : List Value} {w w' : World} (h : w.ownsRow B e k v n xs) (hb : Below w.heap.size w w') : w'.ownsRow B e k v n xs := by
  refine h.kept (row := none) ⟨hb.os, hb.tape, hb.output, hb.size, fun j hj _ => hb.block j hj⟩ ?_
  cases hv : v.ownBlock <;> simp
theorem infoIntF : (Tryd.prog.info? 3).map (fun i => (i.zero, i.size, i.bytes)) = some (some (.int .i64 0), 1, 8) := by kernel_rfl
def Bt.valsF (l : List UInt8) (w m : Nat) (pre : List (Fin m)) : List Value := pre.map fun j => .int .i64 (Bt.val l w m j.val : Nat)
theorem Bt.valsF_snoc (l : List UInt8) (w m : Nat) (pre : List (Fin m)) (x : Fin m) : Bt.valsF l w m (pre ++ [x]) = Bt.valsF l w m pre ++ [.int .i64 (Bt.val l w m x.val : Nat)] := by simp [Bt.valsF]
theorem Bt.valsF_all (l : List UInt8) (w m : Nat) : Bt.valsF l w m (List.finRange m) = Bt.vals l w m m := by
  unfold Bt.valsF Bt.vals
  apply List.ext_getElem
  · simp
  · intro i h1 h2
    simp

set_option maxRecDepth 100000 in
set_option maxHeartbeats 4000000 in
theorem Split_any (w m : Nat) (code : ByteArray) (W : World) (hw : 64 ≤ w ∧ w ≤ 1024) (hm : 1 ≤ m ∧ m ≤ 128) (he : Bt.err w m = 0) (hmw : w / 32 ≤ m) (hc : 8 * code.size = w) :
    Calls Tryd.prog 29 #[.int .i64 (w : Int), .int .i64 (m : Int), .string code] W fun e W' => (∃ g cap, e = .returned (.tuple #[.slice (some ⟨g, 0, none⟩) m cap, .int .i64 0]) ∧ W'.ownsRow W.heap.size 3 1 (.slice (some ⟨g, 0, none⟩) m cap) m (Bt.vals code.data.toList w m m)) ∧ Below W.heap.size W W' := by
  refine (callsIn_wide (n := 12)).1 ?_
  obtain ⟨i0, hi, hz0, hz1, hz2'⟩ := info_parts infoIntF
  have hck := fun W => chunked_any w m W
  rw [he] at hck
  have HCK := Lib.hid hck
  clear hck he
  have ew : (w : Int) / 8 = (code.size : Int) := by omega
  refine callsIn_of_wp_marks Tryd.func29 rfl trivial ?_ rfl
  simp only [Tryd.ntmps29, List.size_toArray, List.length_cons, List.length_nil, Nat.reduceAdd, Nat.reduceSub, Array.replicate_succ, Array.replicate_zero, List.push_toArray, List.append_toArray, List.nil_append, List.cons_append]
  gi_wp2_with (first
    | (refine ⟨trivial, ?_⟩; gi_at_call 36; refine (callsIn_wide.2 (HCK.out _)).mono ?_; rintro e w' ⟨rfl, rfl⟩)
    | (gi_at_make; refine wpListIn_make_own _ rfl _ _ 35 rfl (W.heap.size + 1) 3 i0 _ 1 Tryd.underlying35 hi hz0 hz1 .i64 .i64 _ m rfl rfl rfl (by rw [hz2']; omega) (by unfold maxLen; omega) (by simp) ?_; intro w1 hown1 hgr1)
    | (refine ⟨trivial, ?_⟩; gi_at_call 37; refine (chunks_in Fence.wide _ trivial rfl _ _ _).mono ?_; rintro e w' ⟨rfl, rfl⟩))
  have hB1 : Below W.heap.size W w1 := (((Below.refl _ W).alloc (Nat.le_refl _) _).grown hgr1 (by simp) (fun q e => by cases e))
  have hs1 := hB1.size
  have bC : Boxed w1 W.heap.size 9 (.string code) := (Boxed.new W 9 (.string code)).kept hgr1 (by simp)
  have hs0 := bC.lt
  have bO := ((Boxed.new w1 35 (.slice (some ⟨W.heap.size + 1, 0, none⟩) 0 m)).alloc (.cells #[.int .i64 (w : Int)] 3)).alloc (.cells #[.int .i64 (m : Int)] 3)
  have bC0 := ((bC.alloc (.cells #[.slice (some ⟨W.heap.size + 1, 0, none⟩) 0 m] 35)).alloc (.cells #[.int .i64 (w : Int)] 3)).alloc (.cells #[.int .i64 (m : Int)] 3)
  have bW := (Boxed.new (w1.alloc (.cells #[.slice (some ⟨W.heap.size + 1, 0, none⟩) 0 m] 35)) 3 (.int .i64 (w : Int))).alloc (.cells #[.int .i64 (m : Int)] 3)
  have bM := Boxed.new ((w1.alloc (.cells #[.slice (some ⟨W.heap.size + 1, 0, none⟩) 0 m] 35)).alloc (.cells #[.int .i64 (w : Int)] 3)) 3 (.int .i64 (m : Int))
  have hrow0 := ((hown1.alloc (.cells #[.slice (some ⟨W.heap.size + 1, 0, none⟩) 0 m] 35)).alloc (.cells #[.int .i64 (w : Int)] 3)).alloc (.cells #[.int .i64 (m : Int)] 3)
  have hB0 : Below W.heap.size W (((w1.alloc (.cells #[.slice (some ⟨W.heap.size + 1, 0, none⟩) 0 m] 35)).alloc (.cells #[.int .i64 (w : Int)] 3)).alloc (.cells #[.int .i64 (m : Int)] 3)) := ((hB1.alloc hB1.size _).alloc (by have := hB1.size; simp; omega) _).alloc (by have := hB1.size; simp; omega) _
  simp only [World.size_alloc] at bW bM
  obtain ⟨W0, hW0⟩ : ∃ W0, (((w1.alloc (.cells #[.slice (some ⟨W.heap.size + 1, 0, none⟩) 0 m] 35)).alloc (.cells #[.int .i64 (w : Int)] 3)).alloc (.cells #[.int .i64 (m : Int)] 3)) = W0 := ⟨_, rfl⟩
  have hsz : W0.heap.size = w1.heap.size + 3 := by rw [← hW0]; simp
  rw [hW0] at bO bC0 bW bM hrow0 hB0 ⊢
  clear hW0 hown1 hgr1 hB1 bC
  have hrow0' : W0.ownsRow (W.heap.size + 1) 3 1 (.slice (some ⟨W.heap.size + 1, 0, none⟩) 0 m) ([] : List (Fin m)).length (Bt.valsF code.data.toList w m []) := by simpa [Bt.valsF] using hrow0
  have hsc : code.size ≤ 140737488355328 := by omega
  refine wpIn_rangeFunc_ownH rfl (by decide) (gf := 49) (lb := #[.pointer (some ⟨w1.heap.size + 1 + 1, 0, none⟩), .pointer (some ⟨w1.heap.size + 1, 0, none⟩)]) rfl trivial (enters_of Tryd.func49 (by kernel_rfl) rfl)
    (chunks_fin (12 - 1) (by decide) (w1.heap.size + 1 + 1) (w1.heap.size + 1) w m hw.2 hm W0 bM bW) (fun h h' => h.trans h') (fun W' l o o' _ hl ho _ => Bt.Kp.put W' l o o' hl ho) (Below.refl _ _) (fun _ => rfl)
    (fun pre W' => (∃ v, Boxed W' w1.heap.size 35 v ∧ W'.ownsRow (W.heap.size + 1) 3 1 v pre.length (Bt.valsF code.data.toList w m pre) ∧ (v.ownBlock ≠ some (w1.heap.size + 1) ∧ v.ownBlock ≠ some (w1.heap.size + 1 + 1))) ∧ Boxed W' W.heap.size 9 (.string code) ∧ Below W.heap.size W W')
    (fun _ _ _ => False)
    (OwnFrom.and (Own.from (holdsRow_own (W.heap.size + 1) w1.heap.size 35 3 1 (fun pre => pre.length) (fun pre => Bt.valsF code.data.toList w m pre) (fun _ v => (v.ownBlock ≠ some (w1.heap.size + 1) ∧ v.ownBlock ≠ some (w1.heap.size + 1 + 1)))) _) (OwnFrom.and (Own.from (boxed_own W.heap.size 9 (fun _ => .string code)) _) (ownFrom_below (Nat.le_refl _) (by omega))))
    (fun _ _ _ _ _ hs _ _ => hs)
    ⟨⟨_, bO, hrow0', by simp [Value.ownBlock]; omega⟩, bC0, hB0⟩
    (fun x a' W' => ∃ Bx, Blk W' Bx 77 #[.int .i64 (Bt.from_ w m x.val : Nat), .int .i64 (Bt.bits w m x.val : Nat)] ∧ a' = { tmps := #[.int .i64 (w : Int), .int .i64 (m : Int), .string code, undef, undef, .pointer (some ⟨W.heap.size, 0, none⟩), .slice none 0 0, .int .i64 0, .int .i64 0, .pointer (some ⟨w1.heap.size, 0, none⟩), undef, .pointer (some ⟨Bx, 0, none⟩), .int .i64 (w : Int), .int .i64 (m : Int), .int .i64 0, .int .i64 0, .bool false, undef, .string code, .int .i64 (code.size : Int), .int .i64 (w : Int), .int .i64 (code.size : Int), .bool false, .int .i64 (m : Int), .slice (some ⟨W.heap.size + 1, 0, none⟩) 0 m, .int .i64 (w : Int), .int .i64 (m : Int), .func (.func 49) #[] #[.pointer (some ⟨w1.heap.size + 1 + 1, 0, none⟩), .pointer (some ⟨w1.heap.size + 1, 0, none⟩)], .int .i64 (x.val : Int), .agg #[.int .i64 (Bt.from_ w m x.val : Nat), .int .i64 (Bt.bits w m x.val : Nat)], undef, undef, undef, undef, undef, undef, undef, undef, undef, undef, undef], defers := [] })
    (fun x a' s X Y row hs hg hr => by obtain ⟨Bx, h2, h3⟩ := hs; exact ⟨Bx, Bt.blk_own (β := Unit) Bx _ _ _ () X Y row h2 hg hr, h3⟩)
    ?assign ?body ?done ?stop
  case assign =>
    rintro l pre x W' K ⟨⟨v, hv, hrow, hnb⟩, hC, hB⟩ hK
    have hbx := Blk.new W' 77 #[.int .i64 (Bt.from_ w m x.val : Nat), .int .i64 (Bt.bits w m x.val : Nat)]
    unfold Bt.enc Bt.ck
    gi_wp2
    exact hK _ _ ((KeepsOthers.alloc _ _).from _) ⟨fun h => h.alloc _, fun h => h.alloc _⟩ ⟨⟨v, hv.alloc _, hrow.alloc _, hnb⟩, hC.alloc _, hB.alloc hB.size _⟩ ⟨W'.heap.size, hbx, rfl⟩
  case body =>
    rintro l pre x a' W' hl ⟨r, hr⟩ ⟨⟨v, hv, hrow, hnb⟩, hC, hB⟩ ⟨Bx, bX, rfl⟩ hlt
    have hend := Bt.from_end w m hm.1 x.isLt
    have hb63 : Bt.bits w m x.val ≤ 63 := by
      have : w / m ≤ 62 := by
        rw [Nat.div_le_iff_le_mul_add_pred (by omega)]
        have h2 : w ≤ 32 * (w / 32) + 31 := by omega
        omega
      unfold Bt.bits
      split <;> omega
    have hlt63 : Bt.val code.data.toList w m x.val < 9223372036854775808 := Nat.lt_of_lt_of_le (Bt.num_lt _ _ _) (Nat.pow_le_pow_right (by decide) hb63)
    have hnum := fun WW => number_any code (Bt.from_ w m x.val) (Bt.bits w m x.val) hsc (by omega) (by omega) WW
    change ∀ WW, Calls Tryd.prog 38 #[.string code, .int .i64 (Bt.from_ w m x.val : Nat), .int .i64 (Bt.bits w m x.val : Nat)] WW fun e W' => e = .returned (.int .u64 (Bt.val code.data.toList w m x.val : Nat)) ∧ Below WW.heap.size WW W' at hnum
    have hcells : Bt.valsF code.data.toList w m (pre ++ [x]) = Bt.valsF code.data.toList w m pre ++ [.int .i64 (Bt.val code.data.toList w m x.val : Nat)] := Bt.valsF_snoc _ _ _ _ _
    generalize Bt.val code.data.toList w m x.val = N at hlt63 hnum hcells
    have hwr : IntKind.i64.wrap (N : Int) = (N : Int) := by rw [IntKind.wrap_i64]; omega
    have HC := Lib.hid hcells
    have HN := Lib.hid hnum
    clear hnum hend hcells
    have hc := hv.cell
    have hcs := hC.cell
    have hc0 : W'.cell? ⟨Bx, 0, none⟩ = some (.int .i64 (Bt.from_ w m x.val : Nat)) := bX.cell 0
    have hc1 : W'.cell? ⟨Bx, 1, none⟩ = some (.int .i64 (Bt.bits w m x.val : Nat)) := bX.cell 1
    gi_wp2
    have hS : (fun X : World => X.cell? ⟨W.heap.size, 0, none⟩ = some (.string code) ∧ X.cell? ⟨Bx, 0, none⟩ = some (.int .i64 (Bt.from_ w m x.val : Nat)) ∧ X.cell? ⟨Bx, 1, none⟩ = some (.int .i64 (Bt.bits w m x.val : Nat))) W'.drew := ⟨hcs, hc0, hc1⟩
    have hx0 : Bx < W'.heap.size := World.block_lt_of_cell? W' _ hc0
    have hz3 := hB.size
    have hz4 := hv.lt
    refine Ri.region (fun X : World => X.cell? ⟨W.heap.size, 0, none⟩ = some (.string code) ∧ X.cell? ⟨Bx, 0, none⟩ = some (.int .i64 (Bt.from_ w m x.val : Nat)) ∧ X.cell? ⟨Bx, 1, none⟩ = some (.int .i64 (Bt.bits w m x.val : Nat))) (by kernel_rfl) (by rfl) (fun ⟨_, _, h⟩ => h) ?_
    refine wpAnyH_take (i := 1) (v := .string code) rfl (by kernel_rfl) (by kernel_rfl) (by kernel_rfl) (fun _ _ _ h => h) (Or.inl ⟨by rfl, fun ww hSw => by obtain ⟨s2, s3, s4⟩ := hSw; go_simp⟩) hS ?_
    simp only [Act.put, List.setIfInBounds_toArray, List.set_cons_zero, List.set_cons_succ]
    refine wpAnyH_take (i := 2) (v := .pointer (some ⟨Bx, 0, none⟩)) rfl (by kernel_rfl) (by kernel_rfl) (by kernel_rfl) (fun _ _ _ h => h) (Or.inl ⟨by rfl, fun ww hSw => by obtain ⟨s2, s3, s4⟩ := hSw; go_simp⟩) hS ?_
    simp only [Act.put, List.setIfInBounds_toArray, List.set_cons_zero, List.set_cons_succ]
    refine wpAnyH_take (i := 3) (v := .int .i64 (Bt.from_ w m x.val : Nat)) rfl (by kernel_rfl) (by kernel_rfl) (by kernel_rfl) (fun _ _ _ h => h) (Or.inl ⟨by rfl, fun ww hSw => by obtain ⟨s2, s3, s4⟩ := hSw; go_simp⟩) hS ?_
    simp only [Act.put, List.setIfInBounds_toArray, List.set_cons_zero, List.set_cons_succ]
    refine wpAnyH_take (i := 4) (v := .pointer (some ⟨Bx, 1, none⟩)) rfl (by kernel_rfl) (by kernel_rfl) (by kernel_rfl) (fun _ _ _ h => h) (Or.inl ⟨by rfl, fun ww hSw => by obtain ⟨s2, s3, s4⟩ := hSw; go_simp⟩) hS ?_
    simp only [Act.put, List.setIfInBounds_toArray, List.set_cons_zero, List.set_cons_succ]
    refine wpAnyH_take (i := 5) (v := .int .i64 (Bt.bits w m x.val : Nat)) rfl (by kernel_rfl) (by kernel_rfl) (by kernel_rfl) (fun _ _ _ h => h) (Or.inl ⟨by rfl, fun ww hSw => by obtain ⟨s2, s3, s4⟩ := hSw; go_simp⟩) hS ?_
    simp only [Act.put, List.setIfInBounds_toArray, List.set_cons_zero, List.set_cons_succ]
    refine wpAnyH_ready (rs := [0, 6]) (by kernel_rfl) (by simp) (AllReadyH.cons rfl (fun K hK => ?_) (AllReadyH.cons rfl (fun K hK => ?_) AllReadyH.nil))
    go_simp
    refine hK.out _ _ hS (fun _ => ?_)
    clear hK K
    try simp only [Act.put, List.setIfInBounds_toArray, List.set_cons_zero, List.set_cons_succ]
    refine wpAnyH_ready (rs := [6]) (by kernel_rfl) (by simp) (AllReadyH.cons rfl (fun K hK => ?_) AllReadyH.nil)
    go_simp
    focus (go_at_call 38; refine (HN.out _).mono ?_; rintro e w2 ⟨rfl, b2⟩; go_simp)
    have b3 := (Below.refl W'.heap.size W').drew.trans b2
    have hv2 : Boxed w2 w1.heap.size 35 v := (b3.block _ hv.lt).trans hv
    have hl2 := hv2.cell
    have hC2 : Boxed w2 W.heap.size 9 (.string code) := (b3.block _ hC.lt).trans hC
    have bX2 : Blk w2 Bx 77 #[.int .i64 (Bt.from_ w m x.val : Nat), .int .i64 (Bt.bits w m x.val : Nat)] := (b3.block _ hx0).trans bX
    have hz2 := b3.size
    have hS2 : (fun X : World => X.cell? ⟨W.heap.size, 0, none⟩ = some (.string code) ∧ X.cell? ⟨Bx, 0, none⟩ = some (.int .i64 (Bt.from_ w m x.val : Nat)) ∧ X.cell? ⟨Bx, 1, none⟩ = some (.int .i64 (Bt.bits w m x.val : Nat))) w2 := ⟨hC2.cell, bX2.cell 0, bX2.cell 1⟩
    refine hK.out _ _ hS2 (fun hH2 => ?_)
    clear hK K
    try simp only [Act.put, List.setIfInBounds_toArray, List.set_cons_zero, List.set_cons_succ]
    refine wpAnyH_take (i := 7) (v := .int .i64 (N : Int)) rfl (by kernel_rfl) (by kernel_rfl) (by kernel_rfl) (fun _ _ _ h => h) (Or.inl ⟨by rfl, fun ww hSw => by go_simp⟩) hH2 ?_
    simp only [Act.put, List.setIfInBounds_toArray, List.set_cons_zero, List.set_cons_succ]
    refine wpAnyH_ready (rs := [8]) (by kernel_rfl) (by simp) (AllReadyH.cons rfl (fun K hK => ?_) AllReadyH.nil)
    go_simp
    have hl3 : (w2.alloc (.cells #[.int .i64 (N : Int)] 3)).cell? ⟨w1.heap.size, 0, none⟩ = some v := (hv2.alloc _).cell
    have hS3 : (fun X : World => X.cell? ⟨W.heap.size, 0, none⟩ = some (.string code) ∧ X.cell? ⟨Bx, 0, none⟩ = some (.int .i64 (Bt.from_ w m x.val : Nat)) ∧ X.cell? ⟨Bx, 1, none⟩ = some (.int .i64 (Bt.bits w m x.val : Nat))) (w2.alloc (.cells #[.int .i64 (N : Int)] 3)) := ⟨(hC2.alloc _).cell, (bX2.alloc _).cell 0, (bX2.alloc _).cell 1⟩
    refine hK.out _ _ hS3 (fun _ => ?_)
    clear hK K
    try simp only [Act.put, List.setIfInBounds_toArray, List.set_cons_zero, List.set_cons_succ]
    rotate_left
    go_simp
    focus (go_at_call 38; refine (HN.out _).mono ?_; rintro e w2 ⟨rfl, b2⟩; go_simp)
    have b3 := (Below.refl W'.heap.size W').drew.trans b2
    have hv2 : Boxed w2 w1.heap.size 35 v := (b3.block _ hv.lt).trans hv
    have hl2 := hv2.cell
    have hC2 : Boxed w2 W.heap.size 9 (.string code) := (b3.block _ hC.lt).trans hC
    have bX2 : Blk w2 Bx 77 #[.int .i64 (Bt.from_ w m x.val : Nat), .int .i64 (Bt.bits w m x.val : Nat)] := (b3.block _ hx0).trans bX
    have hz2 := b3.size
    have hS2 : (fun X : World => X.cell? ⟨W.heap.size, 0, none⟩ = some (.string code) ∧ X.cell? ⟨Bx, 0, none⟩ = some (.int .i64 (Bt.from_ w m x.val : Nat)) ∧ X.cell? ⟨Bx, 1, none⟩ = some (.int .i64 (Bt.bits w m x.val : Nat))) w2 := ⟨hC2.cell, bX2.cell 0, bX2.cell 1⟩
    refine hK.out _ _ hS2 (fun hH2 => ?_)
    clear hK K
    try simp only [Act.put, List.setIfInBounds_toArray, List.set_cons_zero, List.set_cons_succ]
    refine wpAnyH_take (i := 7) (v := .int .i64 (N : Int)) rfl (by kernel_rfl) (by kernel_rfl) (by kernel_rfl) (fun _ _ _ h => h) (Or.inl ⟨by rfl, fun ww hSw => by go_simp⟩) hH2 ?_
    simp only [Act.put, List.setIfInBounds_toArray, List.set_cons_zero, List.set_cons_succ]
    refine wpAnyH_ready (rs := [0, 8]) (by kernel_rfl) (by simp) (AllReadyH.cons rfl (fun K hK => ?_) (AllReadyH.cons rfl (fun K hK => ?_) AllReadyH.nil))
    go_simp
    refine hK.out _ _ hS2 (fun hH2 => ?_)
    clear hK K
    try simp only [Act.put, List.setIfInBounds_toArray, List.set_cons_zero, List.set_cons_succ]
    refine wpAnyH_ready (rs := [8]) (by kernel_rfl) (by simp) (AllReadyH.cons rfl (fun K hK => ?_) AllReadyH.nil)
    go_simp
    have hl3 : (w2.alloc (.cells #[.int .i64 (N : Int)] 3)).cell? ⟨w1.heap.size, 0, none⟩ = some v := (hv2.alloc _).cell
    have hS3 : (fun X : World => X.cell? ⟨W.heap.size, 0, none⟩ = some (.string code) ∧ X.cell? ⟨Bx, 0, none⟩ = some (.int .i64 (Bt.from_ w m x.val : Nat)) ∧ X.cell? ⟨Bx, 1, none⟩ = some (.int .i64 (Bt.bits w m x.val : Nat))) (w2.alloc (.cells #[.int .i64 (N : Int)] 3)) := ⟨(hC2.alloc _).cell, (bX2.alloc _).cell 0, (bX2.alloc _).cell 1⟩
    refine hK.out _ _ hS3 (fun _ => ?_)
    clear hK K
    try simp only [Act.put, List.setIfInBounds_toArray, List.set_cons_zero, List.set_cons_succ]
    rotate_left
    go_simp
    have hl3 : (w2.alloc (.cells #[.int .i64 (N : Int)] 3)).cell? ⟨w1.heap.size, 0, none⟩ = some v := (hv2.alloc _).cell
    have hS3 : (fun X : World => X.cell? ⟨W.heap.size, 0, none⟩ = some (.string code) ∧ X.cell? ⟨Bx, 0, none⟩ = some (.int .i64 (Bt.from_ w m x.val : Nat)) ∧ X.cell? ⟨Bx, 1, none⟩ = some (.int .i64 (Bt.bits w m x.val : Nat))) (w2.alloc (.cells #[.int .i64 (N : Int)] 3)) := ⟨(hC2.alloc _).cell, (bX2.alloc _).cell 0, (bX2.alloc _).cell 1⟩
    refine hK.out _ _ hS3 (fun _ => ?_)
    clear hK K
    try simp only [Act.put, List.setIfInBounds_toArray, List.set_cons_zero, List.set_cons_succ]
    refine wpAnyH_ready (rs := [0]) (by kernel_rfl) (by simp) (AllReadyH.cons rfl (fun K hK => ?_) AllReadyH.nil)
    go_simp
    refine hK.out _ _ hS3 (fun _ => ?_)
    clear hK K
    try simp only [Act.put, List.setIfInBounds_toArray, List.set_cons_zero, List.set_cons_succ]
    all_goals
      have hcN : (w2.alloc (.cells #[.int .i64 (N : Int)] 3)).cell? ⟨w2.heap.size, 0, none⟩ = some (.int .i64 (N : Int)) := (Boxed.new w2 3 (.int .i64 (N : Int))).cell
      have hr2 := World.ownsRow_below' hrow b3
      refine wpAnyH_ready (rs := [9]) (by kernel_rfl) (by simp) (AllReadyH.cons rfl (fun K3 hK => ?_) AllReadyH.nil)
      refine step_append_lies _ rfl _ _ 35 rfl (W.heap.size + 1) 3 i0 (.int .i64 0) 1 8 Tryd.underlying35 hi hz0 hz1 hz2' rfl (by decide) v pre.length (Bt.valsF code.data.toList w m pre) rfl (hr2.alloc _) ⟨w2.heap.size, 0, none⟩ 1 1 [.int .i64 (N : Int)] rfl rfl (fun j u hj => by match j, hj with | 0, hj => exact hcN.trans hj) (by simp [Value.oneCell']) (by omega) (by unfold maxLen; omega) (by omega) (by rw [World.size_alloc]; omega) _ rfl ?_
      intro g' cap' w3 hown' hgrow hwhere _
      obtain ⟨hv4, hv5, hr5, hk5, hb5⟩ := hv2.appended (by decide) hr2 (by omega) (by omega) hown' hgrow
      have hd1 := hv4.cell
      have hf1 := hv4.frozen
      have hnr : ∀ b u, Boxed W' b 3 u → some b ≠ v.ownBlock → b ≠ w1.heap.size → Boxed (w3.setCell ⟨w1.heap.size, 0, none⟩ (.slice (some ⟨g', 0, none⟩) (pre.length + 1) cap')) b 3 u := fun b u hb h1 h2 =>
        (((show Boxed w2 b 3 u from (b3.block _ hb.lt).trans hb).alloc _).kept hgrow h1).other h2 _
      have hC3 : Boxed w3 W.heap.size 9 (.string code) := (hC2.alloc _).kept hgrow (hC2.not_row (by decide) hr2)
      have hbxn : some Bx ≠ v.ownBlock := by
        rcases hr2.2 with ⟨rfl, _⟩ | ⟨g, cap, cur, rfl, _, hgb, _⟩
        · simp [Value.ownBlock]
        · intro e'
          obtain rfl : Bx = g := by simpa [Value.ownBlock] using e'
          have := (show w2.heap[Bx]? = _ from bX2).symm.trans hgb
          simp at this
      have bX3 := (bX2.alloc (.cells #[.int .i64 (N : Int)] 3)).grown hgrow hbxn
      have hx3 : w3.cell? ⟨Bx, 0, none⟩ = some (.int .i64 (Bt.from_ w m x.val : Nat)) ∧ w3.cell? ⟨Bx, 1, none⟩ = some (.int .i64 (Bt.bits w m x.val : Nat)) := ⟨bX3.cell 0, bX3.cell 1⟩
      refine hK.out _ _ ⟨hC3.cell, hx3.1, hx3.2⟩ (fun hS4 => ?_)
      clear hK
      refine wpAnyH_ready (rs := [10]) (by kernel_rfl) (by simp) ?_
      refine AllReadyH.cons rfl (fun K4 hK => ?_) AllReadyH.nil
      go_simp
      have hne : w1.heap.size ≠ Bx := by
        intro e
        have := (show W'.heap[w1.heap.size]? = _ from hv).symm.trans (e ▸ (show W'.heap[Bx]? = _ from bX))
        simp at this
      refine hK.out _ _ ⟨(hC3.other (by omega) _).cell, ?_, ?_⟩ (fun hS5 => ?_)
      · exact (bX3.far (p := ⟨w1.heap.size, 0, none⟩) hne.symm _).cell 0
      · exact (bX3.far (p := ⟨w1.heap.size, 0, none⟩) hne.symm _).cell 1
      refine wpAnyH_done (by kernel_rfl) ?_ _
      have kf : KeepsFrom W0.heap.size W' w2 := ⟨b3.size, fun k o _ h0 ho => (b3.block k (Array.getElem?_eq_some_iff.1 h0).1).trans h0⟩
      have hlen : (pre ++ [x]).length = pre.length + 1 := by simp
      refine ⟨kf.trans (hk5.from _), ⟨fun h => hnr _ _ h (fun e => hnb.2 e.symm) (by omega), fun h => hnr _ _ h (fun e => hnb.1 e.symm) (by omega)⟩, ⟨⟨_, hv5, ?_, ?_⟩, hC3.other (by omega) _, (hB.trans (b3.mono hB.size)).trans (hb5.mono (Nat.le_succ _))⟩⟩
      · rw [hlen, HC.out]; exact hr5
      · rcases hwhere with h | h
        · rw [show (Value.slice (some ⟨g', 0, none⟩) (pre.length + 1) cap').ownBlock = v.ownBlock from h.symm]; exact hnb
        · simp only [Value.ownBlock]
          have hsa := World.size_alloc w2 (.cells #[.int .i64 (N : Int)] 3)
          have hlW := (Array.getElem?_eq_some_iff.1 hr).1
          refine ⟨fun e => ?_, fun e => ?_⟩ <;> injection e <;> omega
  case done =>
    rintro D ys W' hD rfl ⟨⟨v, hv, hrow, _⟩, hC, hB⟩ hK
    have hc := hv.cell
    rw [List.length_finRange, Bt.valsF_all] at hrow
    obtain ⟨m', rfl⟩ : ∃ m', m = m' + 1 := ⟨m - 1, by omega⟩
    obtain ⟨g, cap, rfl⟩ := ownsRow_succ hrow
    gi_wp2
    refine ⟨by simp, .inl ⟨_, _, rfl, run_takeDeferred hK, ?_⟩⟩
    refine ⟨.tuple #[.slice (some ⟨g, 0, none⟩) (m' + 1) cap, .int .i64 0], ?_, ⟨g, cap, rfl, ownsRow_putObj ⟨hrow.1, hrow.2.imp id fun ⟨g, cap, cur, h1, h2, h3⟩ => ⟨g, cap, cur, h1, by omega, h3⟩⟩ _ hK rfl⟩, hB.trans (belowK_b (w := W) (Nat.le_refl _) W' D _ _ (by omega) hK rfl rfl)⟩
    simp [results, Tryd.results29, go_sem]
  case stop =>
    rintro D c pre W' _ _ h _
    exact h.elim
end Go.Proofs.YtlfeibaghfcpaaaDoor
