/- Ball: the hits within a distance, in memory; contracts of its functions. Conditions: each theorem's own hypotheses. -/
import Derived.Test.YtlfeibaghfcpaaaDoorHpK
namespace Go.Proofs.YtlfeibaghfcpaaaDoor
open Go.RowKit Go.Maps
set_option linter.unusedVariables false
set_option linter.unusedSimpArgs false

structure Hp.BallX (W : World) (bb : Nat) (r : Int) (AA : List Pb.H) (b c : Nat) (l : List Pb.H) (A : Option Addr) (cap mb : Nat) : Prop where
  blk : Blk W bb 75 #[.int .i64 r, .pointer (some ⟨b, 0, none⟩)]
  pile : Hp.At W b c l A cap mb
  cnt : c ≤ AA.length
  heap : Hp.Heap Pb.gt l
  all : l.Perm (AA.filter fun h => decide (h.d ≤ r))
/-- Those of the hits AA that are within distance r, in memory; F: its blocks. -/
def Hp.Ball (W : World) (bb : Nat) (r : Int) (AA : List Pb.H) (F : Nat → Prop) : Prop :=
  ∃ b c l A cap mb, Hp.BallX W bb r AA b c l A cap mb ∧ F = fun x => x = bb ∨ Hp.foot b mb A x
theorem Hp.ball_foot {W : World} {tb b c : Nat} {cs : Array Value} {l : List Pb.H} {A : Option Addr} {cap mb : Nat} (h : Blk W tb 75 cs) (hP : Hp.At W b c l A cap mb) : ¬ Hp.foot b mb A tb := by
  rintro (e | e | ⟨a, ha, e⟩)
  · rw [e] at h
    have := (show W.heap[b]? = _ from h).symm.trans hP.blk
    simp at this
  · obtain ⟨es, clock, hb⟩ := hP.has.isMap
    rw [e] at h
    have := (show W.heap[mb]? = _ from h).symm.trans hb
    cases this
  · obtain ⟨cur, hc⟩ := hP.row_cells ha
    rw [← e] at h
    have := (show W.heap[a.block]? = _ from h).symm.trans hc
    simp at this
theorem Hp.BallX.same {W W' : World} {bb : Nat} {r : Int} {AA : List Pb.H} {b c : Nat} {l : List Pb.H} {A : Option Addr} {cap mb : Nat} (h : Hp.BallX W bb r AA b c l A cap mb) (hk : ∀ x, (x = bb ∨ Hp.foot b mb A x) → W'.heap[x]? = W.heap[x]?) : Hp.BallX W' bb r AA b c l A cap mb :=
  ⟨(hk bb (.inl rfl)).trans h.blk, h.pile.same (fun x hx => hk x (.inr hx)), h.cnt, h.heap, h.all⟩
theorem Hp.BallX.lt {W : World} {bb : Nat} {r : Int} {AA : List Pb.H} {b c : Nat} {l : List Pb.H} {A : Option Addr} {cap mb : Nat} (h : Hp.BallX W bb r AA b c l A cap mb) {x : Nat} (hx : x = bb ∨ Hp.foot b mb A x) : x < W.heap.size := by
  rcases hx with rfl | hx
  · exact h.blk.lt
  · exact h.pile.lt hx
theorem Hp.Ball.same {W W' : World} {bb : Nat} {r : Int} {AA : List Pb.H} {F : Nat → Prop} (h : Hp.Ball W bb r AA F) (hk : ∀ x, F x → W'.heap[x]? = W.heap[x]?) : Hp.Ball W' bb r AA F := by
  obtain ⟨b, c, l, A, cap, mb, hT, rfl⟩ := h
  exact ⟨b, c, l, A, cap, mb, hT.same hk, rfl⟩
theorem Hp.Ball.lt {W : World} {bb : Nat} {r : Int} {AA : List Pb.H} {F : Nat → Prop} (h : Hp.Ball W bb r AA F) {x : Nat} (hx : F x) : x < W.heap.size := by
  obtain ⟨b, c, l, A, cap, mb, hT, rfl⟩ := h
  exact hT.lt hx
theorem Hp.Ball.permA {W : World} {bb : Nat} {r : Int} {AA BB : List Pb.H} {F : Nat → Prop} (h : Hp.Ball W bb r AA F) (hp : AA.Perm BB) : Hp.Ball W bb r BB F := by
  obtain ⟨b, c, l, A, cap, mb, hT, rfl⟩ := h
  exact ⟨b, c, l, A, cap, mb, ⟨hT.blk, hT.pile, by rw [← hp.length_eq]; exact hT.cnt, hT.heap, hT.all.trans (hp.filter _)⟩, rfl⟩
theorem Hp.newBall_any (r : Int) (h0 : 0 ≤ r) (h1 : r ≤ 1024) (W : World) : Calls Tryd.prog 15 #[.int .i64 r] W fun e W' => ∃ bb, e = .returned (.tuple #[.pointer (some ⟨bb, 0, none⟩), .int .i64 0]) ∧ (∃ F, Hp.Ball W' bb r [] F ∧ ∀ x, F x → W.heap.size ≤ x) ∧ Below W.heap.size W W' := by
  have hnp := Hp.newPile_any W
  have u1 : decide (r < 0) = false := decide_eq_false (by omega)
  have u2 : decide (1024 < r) = false := decide_eq_false (by omega)
  go_enter Tryd.func15, Tryd.ntmps15
  go_wp2_with (go_at_call 30; refine hnp.mono ?_; rintro e w1 ⟨rfl, hP, hB, hz⟩)
  go_ret2
  refine ⟨w1.heap.size, by simp [hz], ⟨fun x => x = w1.heap.size ∨ Hp.foot (W.heap.size + 1) W.heap.size none x, ⟨_, 0, [], none, 0, _, ⟨Blk.new w1 _ _, hP.same (fun x hx => Below.heap_alloc _ _ _ (hP.lt hx)), Nat.le_refl _, Hp.Heap.nil, List.Perm.refl _⟩, rfl⟩, ?_⟩, hB.alloc hB.size _⟩
  rintro x (rfl | rfl | rfl | ⟨a, ha, _⟩)
  · exact hB.size
  · omega
  · omega
  · cases ha
def Hp.AddedB (W W' : World) (bb : Nat) (r : Int) (AA : List Pb.H) (F : Nat → Prop) : Prop := ∃ F', Hp.Ball W' bb r AA F' ∧ Bk.Only F W W' ∧ ∀ x, F' x → F x ∨ W.heap.size ≤ x
set_option maxRecDepth 100000 in
set_option maxHeartbeats 4000000 in
theorem Hp.addB_any {W : World} {bb : Nat} {r : Int} {AA : List Pb.H} {F : Nat → Prop} (h : Hp.Ball W bb r AA F) (x : Pb.H) (ok : Hp.Ok x) (hx : x ∉ AA) (hc : AA.length + 1 ≤ 4398046511104) :
    Calls Tryd.prog 17 #[.pointer (some ⟨bb, 0, none⟩), .agg (Hp.enc x).toArray] W fun e W' => Hp.IsBool e ∧ Hp.AddedB W W' bb r (x :: AA) F := by
  obtain ⟨b, c, l, A, cap, mb, hT, rfl⟩ := h
  have hxl : x ∉ l := fun hx' => hx (List.mem_filter.1 (hT.all.mem_iff.1 hx')).1
  have hll : l.length ≤ AA.length := by rw [hT.all.length_eq]; exact List.length_filter_le _ _
  have hput := fun X (hX : Hp.At X b c l A cap mb) => Hp.put_any hX hT.heap x ok hxl (by have := hT.cnt; unfold maxLen; omega) (by omega)
  obtain ⟨xx, hxx⟩ : ∃ xx, x = xx := ⟨_, rfl⟩
  obtain ⟨d, id, s⟩ := x
  unfold Hp.enc at hput ⊢
  unfold Tx.v at hput ⊢
  simp only at hput ⊢
  obtain ⟨bs, hbs⟩ : ∃ bs : ByteArray, (⟨s.toArray⟩ : ByteArray) = bs := ⟨_, rfl⟩
  rw [hbs] at hput ⊢
  have h1 : Blk (W.alloc (.cells #[.int .i64 d, .int .i64 id, .string bs] 50)) W.heap.size 50 #[.int .i64 d, .int .i64 id, .string bs] := Blk.new W _ _
  have c0 := h1.cell 0
  have c1 := h1.cell 1
  have c2 := h1.cell 2
  have A1 := hT.same (W' := W.alloc (.cells #[.int .i64 d, .int .i64 id, .string bs] 50)) (fun k hk => Below.heap_alloc _ _ _ (hT.lt hk))
  have O1 : Bk.Only (fun x => x = bb ∨ Hp.foot b mb A x) W (W.alloc (.cells #[.int .i64 d, .int .i64 id, .string bs] 50)) := (Bk.Only.refl _ W).alloc _
  have d0 := A1.blk.cell 0
  have d1 := A1.blk.cell 1
  have HC := Lib.hid (And.intro hput (And.intro hT.all (And.intro hT.cnt (And.intro hxx ok))))
  rw [hxx]
  have hxd : xx.d = d := by rw [← hxx]
  have hS : (fun X : World => X.cell? ⟨bb, 0, none⟩ = some (.int .i64 r) ∧ X.cell? ⟨W.heap.size, 0, none⟩ = some (.int .i64 d)) (W.alloc (.cells #[.int .i64 d, .int .i64 id, .string bs] 50)).drew := ⟨d0, c0⟩
  have HD := Lib.hid hxd
  clear hput hx ok hbs hxx hll hxl hT hc hxd
  go_enter Tryd.func17, Tryd.ntmps17
  go_upto_region 1 with fail
  refine Ph.region (fun X : World => X.cell? ⟨bb, 0, none⟩ = some (.int .i64 r) ∧ X.cell? ⟨W.heap.size, 0, none⟩ = some (.int .i64 d)) (fun _ => false) (by kernel_rfl) hS ?_
  --PH 0 1 2 3 4 5 6; ⟨s1, s2⟩; hS
  refine Ph.get (i := 0) (v := _) (a' := _) rfl (by kernel_rfl) (by kernel_rfl) (by kernel_rfl) (by kernel_rfl) (fun _ _ _ h => h) hS (Or.inl ⟨by rfl, fun ww hSw => by obtain ⟨s1, s2⟩ := hSw; go_simp <;> rfl⟩) (by simp only [Act.put, List.getElem_toArray, List.getElem_cons_zero, List.getElem_cons_succ, List.setIfInBounds_toArray, List.set_cons_zero, List.set_cons_succ]; rfl) ?_
  refine Ph.get (i := 1) (v := _) (a' := _) rfl (by kernel_rfl) (by kernel_rfl) (by kernel_rfl) (by kernel_rfl) (fun _ _ _ h => h) hS (Or.inl ⟨by rfl, fun ww hSw => by obtain ⟨s1, s2⟩ := hSw; go_simp <;> rfl⟩) (by simp only [Act.put, List.getElem_toArray, List.getElem_cons_zero, List.getElem_cons_succ, List.setIfInBounds_toArray, List.set_cons_zero, List.set_cons_succ]; rfl) ?_
  refine Ph.get (i := 2) (v := _) (a' := _) rfl (by kernel_rfl) (by kernel_rfl) (by kernel_rfl) (by kernel_rfl) (fun _ _ _ h => h) hS (Or.inl ⟨by rfl, fun ww hSw => by obtain ⟨s1, s2⟩ := hSw; go_simp <;> rfl⟩) (by simp only [Act.put, List.getElem_toArray, List.getElem_cons_zero, List.getElem_cons_succ, List.setIfInBounds_toArray, List.set_cons_zero, List.set_cons_succ]; rfl) ?_
  refine Ph.get (i := 3) (v := _) (a' := _) rfl (by kernel_rfl) (by kernel_rfl) (by kernel_rfl) (by kernel_rfl) (fun _ _ _ h => h) hS (Or.inl ⟨by rfl, fun ww hSw => by obtain ⟨s1, s2⟩ := hSw; go_simp <;> rfl⟩) (by simp only [Act.put, List.getElem_toArray, List.getElem_cons_zero, List.getElem_cons_succ, List.setIfInBounds_toArray, List.set_cons_zero, List.set_cons_succ]; rfl) ?_
  refine Ph.get (i := 4) (v := _) (a' := _) rfl (by kernel_rfl) (by kernel_rfl) (by kernel_rfl) (by kernel_rfl) (fun _ _ _ h => h) hS (Or.inl ⟨by rfl, fun ww hSw => by obtain ⟨s1, s2⟩ := hSw; go_simp <;> rfl⟩) (by simp only [Act.put, List.getElem_toArray, List.getElem_cons_zero, List.getElem_cons_succ, List.setIfInBounds_toArray, List.set_cons_zero, List.set_cons_succ]; rfl) ?_
  refine Ph.get (i := 5) (v := _) (a' := _) rfl (by kernel_rfl) (by kernel_rfl) (by kernel_rfl) (by kernel_rfl) (fun _ _ _ h => h) hS (Or.inl ⟨by rfl, fun ww hSw => by obtain ⟨s1, s2⟩ := hSw; go_simp <;> rfl⟩) (by simp only [Act.put, List.getElem_toArray, List.getElem_cons_zero, List.getElem_cons_succ, List.setIfInBounds_toArray, List.set_cons_zero, List.set_cons_succ]; rfl) ?_
  refine Ph.get (i := 6) (v := _) (a' := _) rfl (by kernel_rfl) (by kernel_rfl) (by kernel_rfl) (by kernel_rfl) (fun _ _ _ h => h) hS (Or.inl ⟨by rfl, fun ww hSw => by obtain ⟨s1, s2⟩ := hSw; go_simp <;> rfl⟩) (by simp only [Act.put, List.getElem_toArray, List.getElem_cons_zero, List.getElem_cons_succ, List.setIfInBounds_toArray, List.set_cons_zero, List.set_cons_succ]; rfl) ?_
  refine Ph.done (by kernel_rfl) ?_ _
  by_cases hdr : r < d
  · have u1 : decide (r < d) = true := decide_eq_true hdr
    go_wp2_with fail
    go_ret
    obtain ⟨y1, y2, y3, y4, y5⟩ := HC.out
    have T9 : Hp.BallX (W.alloc (.cells #[.int .i64 d, .int .i64 id, .string bs] 50)) bb r (xx :: AA) b c l A cap mb := ⟨A1.blk, A1.pile, Nat.le_trans y3 (Nat.le_succ _), A1.heap, by
      rw [List.filter_cons, HD.out, if_neg (by simp; omega)]; exact y2⟩
    exact ⟨⟨_, rfl⟩, _, ⟨b, c, l, A, cap, mb, T9.same (fun _ _ => rfl), rfl⟩, O1.drew, fun x hx => .inl hx⟩
  · have u1 : decide (r < d) = false := decide_eq_false hdr
    clear hS
    go_upto_region 3 with fail
    have hS3 : (fun X : World => X.cell? ⟨bb, 1, none⟩ = some (.pointer (some ⟨b, 0, none⟩)) ∧ X.cell? ⟨W.heap.size, 0, none⟩ = some (.int .i64 d) ∧ X.cell? ⟨W.heap.size, 1, none⟩ = some (.int .i64 id) ∧ X.cell? ⟨W.heap.size, 2, none⟩ = some (.string bs)) (W.alloc (.cells #[.int .i64 d, .int .i64 id, .string bs] 50)).drew.drew := ⟨d1, c0, c1, c2⟩
    refine Ph.region (fun X : World => X.cell? ⟨bb, 1, none⟩ = some (.pointer (some ⟨b, 0, none⟩)) ∧ X.cell? ⟨W.heap.size, 0, none⟩ = some (.int .i64 d) ∧ X.cell? ⟨W.heap.size, 1, none⟩ = some (.int .i64 id) ∧ X.cell? ⟨W.heap.size, 2, none⟩ = some (.string bs)) (fun i => i == 5) (by kernel_rfl) hS3 ?_
    --PP 0 1 2
    refine Ph.pure (i := 0) (v := _) (a' := _) rfl (by kernel_rfl) (by kernel_rfl) (by kernel_rfl) (fun _ _ _ h => h) (Or.inl ⟨by rfl, fun ww _ => by go_simp <;> rfl⟩) (by simp only [Act.put, List.getElem_toArray, List.getElem_cons_zero, List.getElem_cons_succ, List.setIfInBounds_toArray, List.set_cons_zero, List.set_cons_succ]; rfl) ?_
    refine Ph.pure (i := 1) (v := _) (a' := _) rfl (by kernel_rfl) (by kernel_rfl) (by kernel_rfl) (fun _ _ _ h => h) (Or.inl ⟨by rfl, fun ww _ => by go_simp <;> rfl⟩) (by simp only [Act.put, List.getElem_toArray, List.getElem_cons_zero, List.getElem_cons_succ, List.setIfInBounds_toArray, List.set_cons_zero, List.set_cons_succ]; rfl) ?_
    refine Ph.pure (i := 2) (v := _) (a' := _) rfl (by kernel_rfl) (by kernel_rfl) (by kernel_rfl) (fun _ _ _ h => h) (Or.inl ⟨by rfl, fun ww _ => by go_simp <;> rfl⟩) (by simp only [Act.put, List.getElem_toArray, List.getElem_cons_zero, List.getElem_cons_succ, List.setIfInBounds_toArray, List.set_cons_zero, List.set_cons_succ]; rfl) ?_
    --PH 3 4; ⟨s1, s2, s3, s4⟩; hS3
    refine Ph.get (i := 3) (v := _) (a' := _) rfl (by kernel_rfl) (by kernel_rfl) (by kernel_rfl) (by kernel_rfl) (fun _ _ _ h => h) hS3 (Or.inl ⟨by rfl, fun ww hSw => by obtain ⟨s1, s2, s3, s4⟩ := hSw; go_simp <;> rfl⟩) (by simp only [Act.put, List.getElem_toArray, List.getElem_cons_zero, List.getElem_cons_succ, List.setIfInBounds_toArray, List.set_cons_zero, List.set_cons_succ]; rfl) ?_
    refine Ph.get (i := 4) (v := _) (a' := _) rfl (by kernel_rfl) (by kernel_rfl) (by kernel_rfl) (by kernel_rfl) (fun _ _ _ h => h) hS3 (Or.inl ⟨by rfl, fun ww hSw => by obtain ⟨s1, s2, s3, s4⟩ := hSw; go_simp <;> rfl⟩) (by simp only [Act.put, List.getElem_toArray, List.getElem_cons_zero, List.getElem_cons_succ, List.setIfInBounds_toArray, List.set_cons_zero, List.set_cons_succ]; rfl) ?_
    refine Ph.last (i := 5) (by kernel_rfl) rfl rfl (fun K hK => ?_)
    go_simp
    refine (HC.out.1 _ (A1.pile.same (W' := (W.alloc (.cells #[.int .i64 d, .int .i64 id, .string bs] 50)).drew.drew) (fun _ _ => rfl))).mono ?_
    rintro e w3 ⟨rfl, hG⟩
    go_simp
    refine hK.out _ _ ?_
    clear hK K
    refine Ph.done (by kernel_rfl) ?_ _
    have A2 := A1.same (W' := (W.alloc (.cells #[.int .i64 d, .int .i64 id, .string bs] 50)).drew.drew) (fun _ _ => rfl)
    have O2 : Bk.Only (fun x => x = bb ∨ Hp.foot b mb A x) W (W.alloc (.cells #[.int .i64 d, .int .i64 id, .string bs] 50)).drew.drew := O1.drew.drew
    have HG := Lib.hid (And.intro hG (And.intro A2 O2))
    clear hG A2 O2 A1 O1 hS3 h1 c0 c1 c2 d0 d1
    go_wp2_with fail
    go_ret
    obtain ⟨⟨l2, A2', cap2, hP2, hH2, hp2, hO2, hF2⟩, A2, O2⟩ := HG.out
    obtain ⟨y1, y2, y3, y4, y5⟩ := HC.out
    refine ⟨⟨_, rfl⟩, _, ⟨b, c + 1, l2, A2', cap2, mb, ⟨(hO2.block bb A2.blk.lt (Hp.ball_foot A2.blk A2.pile)).trans A2.blk, hP2, Nat.succ_le_succ y3, hH2, ?_⟩, rfl⟩, Hp.only_then O2 (fun x hx => .inl (.inr hx)) hO2, ?_⟩
    · rw [List.filter_cons, HD.out, if_pos (by simp; omega), ← y4]
      exact hp2.trans (y2.cons _)
    · rintro x (hx | hx | hx | ⟨a, ha, rfl⟩)
      · exact .inl (.inl hx)
      · exact .inl (.inr (.inl hx))
      · exact .inl (.inr (.inr (.inl hx)))
      · rcases hF2 a ha with ⟨a', e1, e2⟩ | h
        · exact .inl (.inr (.inr (.inr ⟨a', e1, e2⟩)))
        · exact .inr (Nat.le_trans O2.size h)
/-- Those within, in order, in new memory. -/
theorem Hp.ballList_any {W : World} {bb : Nat} {r : Int} {AA F : List Pb.H} {G : Nat → Prop} (h : Hp.Ball W bb r AA G) (hc : AA.length ≤ 4398046511104) (hn : AA.Nodup) (hF : F.Perm AA) (hs : F.Pairwise fun a b => Pb.gt b a = true) : Calls Tryd.prog 20 #[.pointer (some ⟨bb, 0, none⟩)] W fun e W' => ∃ v', e = .returned v' ∧ W'.ownsRow W.heap.size 50 3 v' (F.filter fun h => decide (h.d ≤ r)).length (Hp.cs (F.filter fun h => decide (h.d ≤ r))) ∧ Below W.heap.size W W' := by
  obtain ⟨b, c, l, A, cap, mb, hT, rfl⟩ := h
  have t1 := hT.blk.cell 1
  have hll : l.length ≤ AA.length := by rw [hT.all.length_eq]; exact List.length_filter_le _ _
  have hso := Hp.sorted_any hT.pile (by omega)
  have hnl : l.Nodup := hT.all.nodup_iff.2 (hn.filter _)
  have heq : Hp.sort l = F.filter fun h => decide (h.d ≤ r) := by
    refine List.Perm.eq_of_pairwise (le := fun x y => Pb.gt y x = true) (fun x y _ _ h1 h2 => absurd h2 (by rw [Pb.ord.asymm h1]; decide)) (Hp.sort_sorted hnl) (hs.filter _) ((Hp.sort_perm l).trans (hT.all.trans (hF.filter _).symm))
  have hlen : l.length = (F.filter fun h => decide (h.d ≤ r)).length := by rw [← heq]; exact (Hp.sort_perm l).length_eq.symm
  rw [heq, hlen] at hso
  clear hnl heq hlen hs hF hn hT hll
  go_enter Tryd.func20, Tryd.ntmps20
  go_wp2_with (go_at_call 33; refine hso.mono ?_; clear hso; rintro e w1 ⟨v1, rfl, hr1, hb1⟩)
  go_ret
  exact ⟨_, rfl, hr1, hb1⟩
end Go.Proofs.YtlfeibaghfcpaaaDoor
