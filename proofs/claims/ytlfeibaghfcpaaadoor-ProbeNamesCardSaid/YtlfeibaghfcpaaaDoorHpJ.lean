/- Contracts of best.Top's Worst, of pile's sorted, of slices.Clone. Conditions: each theorem's own hypotheses. -/
import Derived.Test.YtlfeibaghfcpaaaDoorHpI
import Derived.Laws.Cover3
namespace Go.Proofs.YtlfeibaghfcpaaaDoor
open Go.RowKit Go.Maps
set_option linter.unusedVariables false
set_option linter.unusedSimpArgs false

/-- The k-th one's distance, if there are k. -/
theorem Hp.worst_any {W : World} {tb k : Nat} {AA : List Pb.H} {F : Nat → Prop} (h : Hp.Top W tb k AA F) (hk : 1 ≤ k) (hk2 : k ≤ 4096) : Calls Tryd.prog 13 #[.pointer (some ⟨tb, 0, none⟩)] W fun e W' =>
    ((AA.length < k ∧ e = .returned (.tuple #[.int .i64 0, .bool false])) ∨ (k ≤ AA.length ∧ ∃ t : Pb.H, e = .returned (.tuple #[.int .i64 t.d, .bool true]) ∧ ∃ l, Hp.First Pb.gt k AA l ∧ t ∈ l ∧ ∀ x ∈ l, Pb.gt x t = false)) ∧ ∃ n, W' = W.drewN n := by
  obtain ⟨b, c, l, A, cap, mb, hT, rfl⟩ := h
  have t0 := hT.blk.cell 0
  have t1 := hT.blk.cell 1
  have p0 := hT.pile.blk.cell 0
  have u0 : ((k : Int) == 0) = false := by rw [beq_eq_false_iff_ne]; omega
  have hsz := hT.first.size
  have hS : (fun X : World => X.cell? ⟨tb, 0, none⟩ = some (.int .i64 (k : Nat)) ∧ X.cell? ⟨tb, 1, none⟩ = some (.pointer (some ⟨b, 0, none⟩)) ∧ X.cell? ⟨b, 0, none⟩ = some (.slice A l.length cap)) W.drew := ⟨t0, t1, p0⟩
  by_cases hl : AA.length < k
  · have hll : l.length < k := by rw [hsz]; omega
    have hd : decide (l.length < k) = true := decide_eq_true hll
    have HX := Lib.hid (And.intro hl hT)
    clear hsz hl hT
    go_enter Tryd.func13, Tryd.ntmps13
    go_upto_region 3 with fail
    refine Ph.region (fun X : World => X.cell? ⟨tb, 0, none⟩ = some (.int .i64 (k : Nat)) ∧ X.cell? ⟨tb, 1, none⟩ = some (.pointer (some ⟨b, 0, none⟩)) ∧ X.cell? ⟨b, 0, none⟩ = some (.slice A l.length cap)) (fun _ => false) (by kernel_rfl) hS ?_
    --PH 0 1 2 3 4 5 6 7 8 9 10 11 12 13; ⟨s1, s2, s3⟩; hS
    refine Ph.get (i := 0) (v := _) (a' := _) rfl (by kernel_rfl) (by kernel_rfl) (by kernel_rfl) (by kernel_rfl) (fun _ _ _ h => h) hS (Or.inl ⟨by rfl, fun ww hSw => by obtain ⟨s1, s2, s3⟩ := hSw; go_simp <;> rfl⟩) (by simp only [Act.put, List.getElem_toArray, List.getElem_cons_zero, List.getElem_cons_succ, List.setIfInBounds_toArray, List.set_cons_zero, List.set_cons_succ]; rfl) ?_
    refine Ph.get (i := 1) (v := _) (a' := _) rfl (by kernel_rfl) (by kernel_rfl) (by kernel_rfl) (by kernel_rfl) (fun _ _ _ h => h) hS (Or.inl ⟨by rfl, fun ww hSw => by obtain ⟨s1, s2, s3⟩ := hSw; go_simp <;> rfl⟩) (by simp only [Act.put, List.getElem_toArray, List.getElem_cons_zero, List.getElem_cons_succ, List.setIfInBounds_toArray, List.set_cons_zero, List.set_cons_succ]; rfl) ?_
    refine Ph.get (i := 2) (v := _) (a' := _) rfl (by kernel_rfl) (by kernel_rfl) (by kernel_rfl) (by kernel_rfl) (fun _ _ _ h => h) hS (Or.inl ⟨by rfl, fun ww hSw => by obtain ⟨s1, s2, s3⟩ := hSw; go_simp <;> rfl⟩) (by simp only [Act.put, List.getElem_toArray, List.getElem_cons_zero, List.getElem_cons_succ, List.setIfInBounds_toArray, List.set_cons_zero, List.set_cons_succ]; rfl) ?_
    refine Ph.get (i := 3) (v := _) (a' := _) rfl (by kernel_rfl) (by kernel_rfl) (by kernel_rfl) (by kernel_rfl) (fun _ _ _ h => h) hS (Or.inl ⟨by rfl, fun ww hSw => by obtain ⟨s1, s2, s3⟩ := hSw; go_simp <;> rfl⟩) (by simp only [Act.put, List.getElem_toArray, List.getElem_cons_zero, List.getElem_cons_succ, List.setIfInBounds_toArray, List.set_cons_zero, List.set_cons_succ]; rfl) ?_
    refine Ph.get (i := 4) (v := _) (a' := _) rfl (by kernel_rfl) (by kernel_rfl) (by kernel_rfl) (by kernel_rfl) (fun _ _ _ h => h) hS (Or.inl ⟨by rfl, fun ww hSw => by obtain ⟨s1, s2, s3⟩ := hSw; go_simp <;> rfl⟩) (by simp only [Act.put, List.getElem_toArray, List.getElem_cons_zero, List.getElem_cons_succ, List.setIfInBounds_toArray, List.set_cons_zero, List.set_cons_succ]; rfl) ?_
    refine Ph.get (i := 5) (v := _) (a' := _) rfl (by kernel_rfl) (by kernel_rfl) (by kernel_rfl) (by kernel_rfl) (fun _ _ _ h => h) hS (Or.inl ⟨by rfl, fun ww hSw => by obtain ⟨s1, s2, s3⟩ := hSw; go_simp <;> rfl⟩) (by simp only [Act.put, List.getElem_toArray, List.getElem_cons_zero, List.getElem_cons_succ, List.setIfInBounds_toArray, List.set_cons_zero, List.set_cons_succ]; rfl) ?_
    refine Ph.get (i := 6) (v := _) (a' := _) rfl (by kernel_rfl) (by kernel_rfl) (by kernel_rfl) (by kernel_rfl) (fun _ _ _ h => h) hS (Or.inl ⟨by rfl, fun ww hSw => by obtain ⟨s1, s2, s3⟩ := hSw; go_simp <;> rfl⟩) (by simp only [Act.put, List.getElem_toArray, List.getElem_cons_zero, List.getElem_cons_succ, List.setIfInBounds_toArray, List.set_cons_zero, List.set_cons_succ]; rfl) ?_
    refine Ph.get (i := 7) (v := _) (a' := _) rfl (by kernel_rfl) (by kernel_rfl) (by kernel_rfl) (by kernel_rfl) (fun _ _ _ h => h) hS (Or.inl ⟨by rfl, fun ww hSw => by obtain ⟨s1, s2, s3⟩ := hSw; go_simp <;> rfl⟩) (by simp only [Act.put, List.getElem_toArray, List.getElem_cons_zero, List.getElem_cons_succ, List.setIfInBounds_toArray, List.set_cons_zero, List.set_cons_succ]; rfl) ?_
    refine Ph.get (i := 8) (v := _) (a' := _) rfl (by kernel_rfl) (by kernel_rfl) (by kernel_rfl) (by kernel_rfl) (fun _ _ _ h => h) hS (Or.inl ⟨by rfl, fun ww hSw => by obtain ⟨s1, s2, s3⟩ := hSw; go_simp <;> rfl⟩) (by simp only [Act.put, List.getElem_toArray, List.getElem_cons_zero, List.getElem_cons_succ, List.setIfInBounds_toArray, List.set_cons_zero, List.set_cons_succ]; rfl) ?_
    refine Ph.get (i := 9) (v := _) (a' := _) rfl (by kernel_rfl) (by kernel_rfl) (by kernel_rfl) (by kernel_rfl) (fun _ _ _ h => h) hS (Or.inl ⟨by rfl, fun ww hSw => by obtain ⟨s1, s2, s3⟩ := hSw; go_simp <;> rfl⟩) (by simp only [Act.put, List.getElem_toArray, List.getElem_cons_zero, List.getElem_cons_succ, List.setIfInBounds_toArray, List.set_cons_zero, List.set_cons_succ]; rfl) ?_
    refine Ph.get (i := 10) (v := _) (a' := _) rfl (by kernel_rfl) (by kernel_rfl) (by kernel_rfl) (by kernel_rfl) (fun _ _ _ h => h) hS (Or.inl ⟨by rfl, fun ww hSw => by obtain ⟨s1, s2, s3⟩ := hSw; go_simp <;> rfl⟩) (by simp only [Act.put, List.getElem_toArray, List.getElem_cons_zero, List.getElem_cons_succ, List.setIfInBounds_toArray, List.set_cons_zero, List.set_cons_succ]; rfl) ?_
    refine Ph.get (i := 11) (v := _) (a' := _) rfl (by kernel_rfl) (by kernel_rfl) (by kernel_rfl) (by kernel_rfl) (fun _ _ _ h => h) hS (Or.inl ⟨by rfl, fun ww hSw => by obtain ⟨s1, s2, s3⟩ := hSw; go_simp <;> rfl⟩) (by simp only [Act.put, List.getElem_toArray, List.getElem_cons_zero, List.getElem_cons_succ, List.setIfInBounds_toArray, List.set_cons_zero, List.set_cons_succ]; rfl) ?_
    refine Ph.get (i := 12) (v := _) (a' := _) rfl (by kernel_rfl) (by kernel_rfl) (by kernel_rfl) (by kernel_rfl) (fun _ _ _ h => h) hS (Or.inl ⟨by rfl, fun ww hSw => by obtain ⟨s1, s2, s3⟩ := hSw; go_simp <;> rfl⟩) (by simp only [Act.put, List.getElem_toArray, List.getElem_cons_zero, List.getElem_cons_succ, List.setIfInBounds_toArray, List.set_cons_zero, List.set_cons_succ]; rfl) ?_
    refine Ph.get (i := 13) (v := _) (a' := _) rfl (by kernel_rfl) (by kernel_rfl) (by kernel_rfl) (by kernel_rfl) (fun _ _ _ h => h) hS (Or.inl ⟨by rfl, fun ww hSw => by obtain ⟨s1, s2, s3⟩ := hSw; go_simp <;> rfl⟩) (by simp only [Act.put, List.getElem_toArray, List.getElem_cons_zero, List.getElem_cons_succ, List.setIfInBounds_toArray, List.set_cons_zero, List.set_cons_succ]; rfl) ?_
    refine Ph.done (by kernel_rfl) ?_ _
    go_wp2_with fail
    go_ret2
    exact ⟨.inl ⟨HX.out.1, rfl⟩, 1, rfl⟩
  · have hll : l.length = k := by rw [hsz]; omega
    have hd : decide (l.length < k) = false := decide_eq_false (by omega)
    obtain ⟨t, ht⟩ : ∃ t, l[0]? = some t := ⟨_, List.getElem?_eq_getElem (by omega)⟩
    obtain ⟨g, rfl⟩ : ∃ g, A = some ⟨g, 0, none⟩ := by
      rcases hT.pile.row.2 with ⟨e, _⟩ | ⟨g, cap', cur, e, _⟩
      · injection e with _ e2; omega
      · injection e with e; exact ⟨g, e⟩
    obtain ⟨r0, _, _⟩ := Hp.row3 hT.pile.row ht
    rw [Nat.zero_mul] at r0
    have hlen : (0 : Int) < (l.length : Int) := by omega
    have hlen2 : 0 < l.length := by omega
    have hres : ∃ l', Hp.First Pb.gt k AA l' ∧ t ∈ l' ∧ ∀ x ∈ l', Pb.gt x t = false := ⟨l, hT.first, List.mem_of_getElem? ht, fun x hx => hT.heap.mem_top Pb.ord ht hx⟩
    have HX := Lib.hid (And.intro hl hres)
    clear hsz hl hT hres ht hll
    obtain ⟨td, ti, tc⟩ := t
    simp only at r0
    go_enter Tryd.func13, Tryd.ntmps13
    go_upto_region 3 with fail
    refine Ph.region (fun X : World => X.cell? ⟨tb, 0, none⟩ = some (.int .i64 (k : Nat)) ∧ X.cell? ⟨tb, 1, none⟩ = some (.pointer (some ⟨b, 0, none⟩)) ∧ X.cell? ⟨b, 0, none⟩ = some (.slice (some ⟨g, 0, none⟩) l.length cap)) (fun _ => false) (by kernel_rfl) hS ?_
    --PH 0 1 2 3 4 5 6 7 8 9 10 11 12 13; ⟨s1, s2, s3⟩; hS
    refine Ph.get (i := 0) (v := _) (a' := _) rfl (by kernel_rfl) (by kernel_rfl) (by kernel_rfl) (by kernel_rfl) (fun _ _ _ h => h) hS (Or.inl ⟨by rfl, fun ww hSw => by obtain ⟨s1, s2, s3⟩ := hSw; go_simp <;> rfl⟩) (by simp only [Act.put, List.getElem_toArray, List.getElem_cons_zero, List.getElem_cons_succ, List.setIfInBounds_toArray, List.set_cons_zero, List.set_cons_succ]; rfl) ?_
    refine Ph.get (i := 1) (v := _) (a' := _) rfl (by kernel_rfl) (by kernel_rfl) (by kernel_rfl) (by kernel_rfl) (fun _ _ _ h => h) hS (Or.inl ⟨by rfl, fun ww hSw => by obtain ⟨s1, s2, s3⟩ := hSw; go_simp <;> rfl⟩) (by simp only [Act.put, List.getElem_toArray, List.getElem_cons_zero, List.getElem_cons_succ, List.setIfInBounds_toArray, List.set_cons_zero, List.set_cons_succ]; rfl) ?_
    refine Ph.get (i := 2) (v := _) (a' := _) rfl (by kernel_rfl) (by kernel_rfl) (by kernel_rfl) (by kernel_rfl) (fun _ _ _ h => h) hS (Or.inl ⟨by rfl, fun ww hSw => by obtain ⟨s1, s2, s3⟩ := hSw; go_simp <;> rfl⟩) (by simp only [Act.put, List.getElem_toArray, List.getElem_cons_zero, List.getElem_cons_succ, List.setIfInBounds_toArray, List.set_cons_zero, List.set_cons_succ]; rfl) ?_
    refine Ph.get (i := 3) (v := _) (a' := _) rfl (by kernel_rfl) (by kernel_rfl) (by kernel_rfl) (by kernel_rfl) (fun _ _ _ h => h) hS (Or.inl ⟨by rfl, fun ww hSw => by obtain ⟨s1, s2, s3⟩ := hSw; go_simp <;> rfl⟩) (by simp only [Act.put, List.getElem_toArray, List.getElem_cons_zero, List.getElem_cons_succ, List.setIfInBounds_toArray, List.set_cons_zero, List.set_cons_succ]; rfl) ?_
    refine Ph.get (i := 4) (v := _) (a' := _) rfl (by kernel_rfl) (by kernel_rfl) (by kernel_rfl) (by kernel_rfl) (fun _ _ _ h => h) hS (Or.inl ⟨by rfl, fun ww hSw => by obtain ⟨s1, s2, s3⟩ := hSw; go_simp <;> rfl⟩) (by simp only [Act.put, List.getElem_toArray, List.getElem_cons_zero, List.getElem_cons_succ, List.setIfInBounds_toArray, List.set_cons_zero, List.set_cons_succ]; rfl) ?_
    refine Ph.get (i := 5) (v := _) (a' := _) rfl (by kernel_rfl) (by kernel_rfl) (by kernel_rfl) (by kernel_rfl) (fun _ _ _ h => h) hS (Or.inl ⟨by rfl, fun ww hSw => by obtain ⟨s1, s2, s3⟩ := hSw; go_simp <;> rfl⟩) (by simp only [Act.put, List.getElem_toArray, List.getElem_cons_zero, List.getElem_cons_succ, List.setIfInBounds_toArray, List.set_cons_zero, List.set_cons_succ]; rfl) ?_
    refine Ph.get (i := 6) (v := _) (a' := _) rfl (by kernel_rfl) (by kernel_rfl) (by kernel_rfl) (by kernel_rfl) (fun _ _ _ h => h) hS (Or.inl ⟨by rfl, fun ww hSw => by obtain ⟨s1, s2, s3⟩ := hSw; go_simp <;> rfl⟩) (by simp only [Act.put, List.getElem_toArray, List.getElem_cons_zero, List.getElem_cons_succ, List.setIfInBounds_toArray, List.set_cons_zero, List.set_cons_succ]; rfl) ?_
    refine Ph.get (i := 7) (v := _) (a' := _) rfl (by kernel_rfl) (by kernel_rfl) (by kernel_rfl) (by kernel_rfl) (fun _ _ _ h => h) hS (Or.inl ⟨by rfl, fun ww hSw => by obtain ⟨s1, s2, s3⟩ := hSw; go_simp <;> rfl⟩) (by simp only [Act.put, List.getElem_toArray, List.getElem_cons_zero, List.getElem_cons_succ, List.setIfInBounds_toArray, List.set_cons_zero, List.set_cons_succ]; rfl) ?_
    refine Ph.get (i := 8) (v := _) (a' := _) rfl (by kernel_rfl) (by kernel_rfl) (by kernel_rfl) (by kernel_rfl) (fun _ _ _ h => h) hS (Or.inl ⟨by rfl, fun ww hSw => by obtain ⟨s1, s2, s3⟩ := hSw; go_simp <;> rfl⟩) (by simp only [Act.put, List.getElem_toArray, List.getElem_cons_zero, List.getElem_cons_succ, List.setIfInBounds_toArray, List.set_cons_zero, List.set_cons_succ]; rfl) ?_
    refine Ph.get (i := 9) (v := _) (a' := _) rfl (by kernel_rfl) (by kernel_rfl) (by kernel_rfl) (by kernel_rfl) (fun _ _ _ h => h) hS (Or.inl ⟨by rfl, fun ww hSw => by obtain ⟨s1, s2, s3⟩ := hSw; go_simp <;> rfl⟩) (by simp only [Act.put, List.getElem_toArray, List.getElem_cons_zero, List.getElem_cons_succ, List.setIfInBounds_toArray, List.set_cons_zero, List.set_cons_succ]; rfl) ?_
    refine Ph.get (i := 10) (v := _) (a' := _) rfl (by kernel_rfl) (by kernel_rfl) (by kernel_rfl) (by kernel_rfl) (fun _ _ _ h => h) hS (Or.inl ⟨by rfl, fun ww hSw => by obtain ⟨s1, s2, s3⟩ := hSw; go_simp <;> rfl⟩) (by simp only [Act.put, List.getElem_toArray, List.getElem_cons_zero, List.getElem_cons_succ, List.setIfInBounds_toArray, List.set_cons_zero, List.set_cons_succ]; rfl) ?_
    refine Ph.get (i := 11) (v := _) (a' := _) rfl (by kernel_rfl) (by kernel_rfl) (by kernel_rfl) (by kernel_rfl) (fun _ _ _ h => h) hS (Or.inl ⟨by rfl, fun ww hSw => by obtain ⟨s1, s2, s3⟩ := hSw; go_simp <;> rfl⟩) (by simp only [Act.put, List.getElem_toArray, List.getElem_cons_zero, List.getElem_cons_succ, List.setIfInBounds_toArray, List.set_cons_zero, List.set_cons_succ]; rfl) ?_
    refine Ph.get (i := 12) (v := _) (a' := _) rfl (by kernel_rfl) (by kernel_rfl) (by kernel_rfl) (by kernel_rfl) (fun _ _ _ h => h) hS (Or.inl ⟨by rfl, fun ww hSw => by obtain ⟨s1, s2, s3⟩ := hSw; go_simp <;> rfl⟩) (by simp only [Act.put, List.getElem_toArray, List.getElem_cons_zero, List.getElem_cons_succ, List.setIfInBounds_toArray, List.set_cons_zero, List.set_cons_succ]; rfl) ?_
    refine Ph.get (i := 13) (v := _) (a' := _) rfl (by kernel_rfl) (by kernel_rfl) (by kernel_rfl) (by kernel_rfl) (fun _ _ _ h => h) hS (Or.inl ⟨by rfl, fun ww hSw => by obtain ⟨s1, s2, s3⟩ := hSw; go_simp <;> rfl⟩) (by simp only [Act.put, List.getElem_toArray, List.getElem_cons_zero, List.getElem_cons_succ, List.setIfInBounds_toArray, List.set_cons_zero, List.set_cons_succ]; rfl) ?_
    refine Ph.done (by kernel_rfl) ?_ _
    go_wp2_with fail
    go_ret2
    exact ⟨.inr ⟨by have := HX.out.1; omega, _, rfl, HX.out.2⟩, 1, rfl⟩
theorem Hp.run_eql_nil (W : World) (a : Option Addr) (l c : Nat) : (binOp .eql 26 (.slice a l c) (.slice none 0 0)).run Tryd.prog W = .ok (.bool a.isNone) W := by
  have h : (binOp .eql 26 (.slice a l c) (.slice none 0 0)) = (do pure (.bool (← Op.equal 26 (.slice a l c) (.slice none 0 0)))) := rfl
  rw [h, Sem.run_bind, run_equal_slice_nil W _ _ a l c Tryd.underlying26]
  rfl
theorem Hp.own_news {W : World} {B g n cap : Nat} {C : List Pb.H} (h : W.ownsRow B 50 3 (.slice (some ⟨g, 0, none⟩) n cap) n (Hp.cs C)) : ∀ j u, (Hp.cs C)[j]? = some u → W.cell? ((⟨g, 0, none⟩ : Addr).add j) = some u := by
  intro j u hu
  rw [show (⟨g, 0, none⟩ : Addr).add j = ⟨g, j, none⟩ from by unfold Addr.add; split <;> simp_all]
  have hlt : j < (Hp.cs C).length := (List.getElem?_eq_some_iff.1 hu).1
  rw [h.1] at hlt
  exact (h.cellAt j hlt).trans hu
theorem Hp.cs_one (C : List Pb.H) : ∀ v ∈ Hp.cs C, v.oneCell' = true := by
  intro v hv
  unfold Hp.cs at hv
  obtain ⟨x, _, hx⟩ := List.mem_flatMap.1 hv
  simp [Hp.enc] at hx
  rcases hx with rfl | rfl | rfl <;> rfl
set_option maxRecDepth 100000 in
/-- A copy of a row of hits, in new memory. -/
theorem Hp.clone_any {W : World} {v : Value} {C : List Pb.H} (h : W.ownsRow 0 50 3 v C.length (Hp.cs C)) (hl : C.length ≤ 4398046511104) : Calls Tryd.prog 43 #[v] W fun e W' => ∃ v', e = .returned v' ∧ W'.ownsRow W.heap.size 50 3 v' C.length (Hp.cs C) ∧ Below W.heap.size W W' := by
  obtain ⟨i0, hi, hz0, hz1, hz2⟩ := info_parts Hp.hitInfo
  have hund := fun WW a l c => Hp.run_eql_nil WW a l c
  rcases h.2 with ⟨rfl, hn0⟩ | ⟨g, cap, cur, rfl, hbase, hb, h1, h2, h3, h4⟩
  · obtain rfl : C = [] := List.length_eq_zero_iff.1 hn0
    clear h hn0 hl
    go_enter Tryd.func43, Tryd.ntmps43
    go_wp2_with fail
    go_ret
    exact ⟨_, rfl, ⟨rfl, .inl ⟨rfl, rfl⟩⟩, Below.refl _ _⟩
  · have hnews := Hp.own_news h
    have hX : (W.alloc (.cells #[] 50)).ownsRow W.heap.size 50 3 (.slice (some ⟨W.heap.size, 0, none⟩) 0 0) 0 [] := ⟨rfl, .inr ⟨W.heap.size, 0, #[], rfl, Nat.le_refl _, heap_alloc_new W _, Nat.le_refl _, Nat.zero_le _, rfl, rfl⟩⟩
    have hBX : Below W.heap.size W (W.alloc (.cells #[] 50)) := (Below.refl _ _).alloc (Nat.le_refl _) _
    have hgl : g < W.heap.size := (Array.getElem?_eq_some_iff.1 hb).1
    have hnX : ∀ j u, (Hp.cs C)[j]? = some u → (W.alloc (.cells #[] 50)).cell? ((⟨g, 0, none⟩ : Addr).add j) = some u := fun j u hu => Hp.own_news (h.alloc _) j u hu
    have hlen := h.1
    have H1 := Hp.cs_one C
    by_cases hC : C = []
    · subst hC
      have hH := Lib.hid (And.intro hX hBX)
      clear h hnews hb h4 hbase hX hBX hnX hlen H1
      go_enter Tryd.func43, Tryd.ntmps43
      go_wp2_with fail
      go_ret
      exact ⟨_, rfl, hH.out.1, hH.out.2⟩
    · have hpos : 0 < C.length := by
        cases C with
        | nil => exact absurd rfl hC
        | cons x C => simp
      generalize hxs : Hp.cs C = xs at *
      generalize C.length = cl at *
      have hH := Lib.hid (And.intro hX (And.intro hBX (And.intro hnX (And.intro hlen H1))))
      clear h hnews hb h4 hbase hX hBX hnX hlen H1 hC
      go_enter Tryd.func43, Tryd.ntmps43
      go_wp2_with (at_builtin; refine wpList_append_lies _ rfl _ _ 26 rfl W.heap.size 50 i0 (.agg #[.int .i64 0, .int .i64 0, .string ⟨#[]⟩]) 3 32 Tryd.underlying26 hi hz0 hz1 hz2 rfl (by decide) (.slice (some ⟨W.heap.size, 0, none⟩) 0 0) 0 [] rfl hH.out.1 ⟨g, 0, none⟩ cl cap xs rfl hH.out.2.2.2.1 hH.out.2.2.1 hH.out.2.2.2.2 hpos (by unfold maxLen; omega) (by omega) (by have := hH.out.2.1.size; omega) _ rfl ?_; intro g' cap' X5 hown5 hgrow hwhere hlt5)
      go_ret
      refine ⟨_, rfl, ?_, hH.out.2.1.grown hgrow hH.out.2.1.size (fun k e => by have : W.heap.size = k := Option.some.inj e; omega)⟩
      simpa using hown5
/-- The hits of a pile, in order, in new memory. -/
theorem Hp.sorted_any {W : World} {b c : Nat} {l : List Pb.H} {A : Option Addr} {cap mb : Nat} (hA : Hp.At W b c l A cap mb) (hl : l.length ≤ 4398046511104) : Calls Tryd.prog 33 #[.pointer (some ⟨b, 0, none⟩)] W fun e W' => ∃ v', e = .returned v' ∧ W'.ownsRow W.heap.size 50 3 v' l.length (Hp.cs (Hp.sort l)) ∧ Below W.heap.size W W' := by
  have c0 := hA.blk.cell 0
  have hcl := Hp.clone_any hA.row hl
  go_enter Tryd.func33, Tryd.ntmps33
  go_upto_region 2 with (go_at_call 43; refine hcl.mono ?_; clear hcl; rintro e w1 ⟨v1, rfl, hr1, hb1⟩)
  have hso := Hp.sortF hr1 (by omega)
  go_wp2_with (go_at_call 44; refine hso.mono ?_; clear hso; rintro e w2 ⟨rfl, hr2, hg2⟩)
  go_ret
  refine ⟨_, rfl, hr2, hb1.grown hg2 hb1.size (fun k e => ?_)⟩
  rcases hr1.2 with ⟨rfl, _⟩ | ⟨g, cap', cur, rfl, hg, _⟩
  · cases e
  · have : g = k := Option.some.inj e
    omega
/-- The first k, in order, in new memory. -/
theorem Hp.topList_any {W : World} {tb k : Nat} {AA F : List Pb.H} {G : Nat → Prop} (h : Hp.Top W tb k AA G) (hk : k ≤ 4096) (hn : AA.Nodup) (hF : F.Perm AA) (hs : F.Pairwise fun a b => Pb.gt b a = true) : Calls Tryd.prog 27 #[.pointer (some ⟨tb, 0, none⟩)] W fun e W' => ∃ v', e = .returned v' ∧ W'.ownsRow W.heap.size 50 3 v' (F.take k).length (Hp.cs (F.take k)) ∧ Below W.heap.size W W' := by
  obtain ⟨b, c, l, A, cap, mb, hT, rfl⟩ := h
  have t1 := hT.blk.cell 1
  have hsz := hT.first.size
  have hso := Hp.sorted_any hT.pile (by rw [hsz]; omega)
  have hnl : l.Nodup := by
    obtain ⟨r, hr, _⟩ := hT.first.rest
    exact (List.nodup_append.1 (hr.nodup_iff.2 hn)).1
  have htake := hT.first.take Pb.ord (Hp.sort_perm l) (Hp.sort_sorted hnl) hF hs
  have hlen : l.length = (F.take k).length := by rw [← htake]; exact (Hp.sort_perm l).length_eq.symm
  rw [htake, hlen] at hso
  clear hsz hnl htake hlen hs hF hn hT
  go_enter Tryd.func27, Tryd.ntmps27
  go_wp2_with (go_at_call 33; refine hso.mono ?_; clear hso; rintro e w1 ⟨v1, rfl, hr1, hb1⟩)
  go_ret
  exact ⟨_, rfl, hr1, hb1⟩
end Go.Proofs.YtlfeibaghfcpaaaDoor
