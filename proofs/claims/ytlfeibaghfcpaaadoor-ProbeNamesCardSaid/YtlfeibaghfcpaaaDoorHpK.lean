/- Contract of best.Top.Add. Conditions: each theorem's own hypotheses. -/
import Derived.Test.YtlfeibaghfcpaaaDoorHpJ
namespace Go.Proofs.YtlfeibaghfcpaaaDoor
open Go.RowKit Go.Maps Go.Sort Go.Shelf
set_option linter.unusedVariables false
set_option linter.unusedSimpArgs false

theorem Hp.apart_foot {W : World} {tb b c : Nat} {cs : Array Value} {l : List Pb.H} {A : Option Addr} {cap mb : Nat} (h : Blk W tb 64 cs) (hP : Hp.At W b c l A cap mb) : ¬ Hp.foot b mb A tb := by
  rintro (e | e | ⟨a, ha, e⟩)
  · rw [e] at h
    have := (show W.heap[b]? = _ from h).symm.trans hP.blk
    simp at this
  · obtain ⟨es, clock, hb⟩ := hP.has.isMap
    rw [e] at h
    have := (show W.heap[mb]? = _ from h).symm.trans hb
    cases this
  · obtain ⟨cur, hc⟩ := hP.row_cells ha
    rw [← e] at h
    have := (show W.heap[a.block]? = _ from h).symm.trans hc
    simp at this
/-- It returns true or false. -/
def Hp.IsBool (e : Ending) : Prop := ∃ r, e = .returned (.bool r)
/-- What Add leaves. -/
def Hp.Added (W W' : World) (tb k : Nat) (AA : List Pb.H) (F : Nat → Prop) : Prop := ∃ F', Hp.Top W' tb k AA F' ∧ Bk.Only F W W' ∧ ∀ x, F' x → F x ∨ W.heap.size ≤ x
/-- The pile has grown, the rest is as it was. -/
theorem Hp.TopX.grown {W W1 W' : World} {tb k c' : Nat} {AA lh : List Pb.H} {b c : Nat} {l : List Pb.H} {A : Option Addr} {cap mb : Nat} (h : Hp.TopX W1 tb k AA b c l A cap mb) (hO : Bk.Only (fun x => x = tb ∨ Hp.foot b mb A x) W W1) (hz : W.heap.size ≤ W1.heap.size) (g : Hp.Grown W1 W' b c' A mb lh) :
    ∃ l' A' cap', Blk W' tb 64 #[.int .i64 (k : Nat), .pointer (some ⟨b, 0, none⟩)] ∧ Hp.At W' b c' l' A' cap' mb ∧ Hp.Heap Pb.gt l' ∧ l'.Perm lh ∧ Bk.Only (fun x => x = tb ∨ Hp.foot b mb A x) W W' ∧ (∀ x, (x = tb ∨ Hp.foot b mb A' x) → (x = tb ∨ Hp.foot b mb A x) ∨ W.heap.size ≤ x) := by
  obtain ⟨l', A', cap', h1, h2, h3, h4, h5⟩ := g
  refine ⟨l', A', cap', (h4.block tb h.blk.lt h.tb_foot).trans h.blk, h1, h2, h3, Hp.only_then hO (fun x hx => .inl (.inr hx)) h4, ?_⟩
  rintro x (hx | hx | hx | ⟨a, ha, rfl⟩)
  · exact .inl (.inl hx)
  · exact .inl (.inr (.inl hx))
  · exact .inl (.inr (.inr (.inl hx)))
  · rcases h5 a ha with ⟨a', e1, e2⟩ | h
    · exact .inl (.inr (.inr (.inr ⟨a', e1, e2⟩)))
    · exact .inr (Nat.le_trans hz h)
set_option maxRecDepth 100000 in
set_option maxHeartbeats 4000000 in
theorem Hp.add_any {W : World} {tb k : Nat} {AA : List Pb.H} {F : Nat → Prop} (h : Hp.Top W tb k AA F) (hk : 1 ≤ k) (hk2 : k ≤ 4096) (x : Pb.H) (ok : Hp.Ok x) (hok : ∀ y ∈ AA, Hp.Ok y) (hx : x ∉ AA) (hnd : AA.Nodup) (hc : AA.length < maxLen) :
    Calls Tryd.prog 25 #[.pointer (some ⟨tb, 0, none⟩), .agg (Hp.enc x).toArray] W fun e W' => Hp.IsBool e ∧ Hp.Added W W' tb k (x :: AA) F := by
  obtain ⟨b, c, l, A, cap, mb, hT, rfl⟩ := h
  have hxl : x ∉ l := fun hx' => hx (hT.first.mem hx')
  have hnl : l.Nodup := by
    obtain ⟨r, hr, _⟩ := hT.first.rest
    exact (List.nodup_append.1 (hr.nodup_iff.2 hnd)).1
  have hokl : ∀ y ∈ l, Hp.Ok y := fun y hy => hok y (hT.first.mem hy)
  have hsz := hT.first.size
  have hlk : l.length ≤ k := by rw [hsz]; exact Nat.min_le_left _ _
  have hll : l.length ≤ 4096 := Nat.le_trans hlk hk2
  have hcm : c < maxLen := Nat.lt_of_le_of_lt hT.cnt hc
  have hlook := fun X (hX : Hp.Set X mb c l) => hX.look x ok
  rw [decide_eq_false hxl] at hlook
  have hput := fun X (hX : Hp.At X b c l A cap mb) => Hp.put_any hX hT.heap x ok hxl hcm (by omega)
  have hord := fun t WW => Hp.order_any x t WW
  obtain ⟨xx, hxx⟩ : ∃ xx, x = xx := ⟨_, rfl⟩
  have okx := ok
  obtain ⟨d, id, s⟩ := x
  unfold Hp.enc at hlook hput ⊢
  unfold Tx.v at hlook hput ⊢
  simp only at hlook hput ⊢
  obtain ⟨bs, hbs⟩ : ∃ bs : ByteArray, (⟨s.toArray⟩ : ByteArray) = bs := ⟨_, rfl⟩
  rw [hbs] at hlook hput ⊢
  have hordx : ∀ t WW, Calls Tryd.prog 34 #[.agg #[.int .i64 d, .int .i64 id, .string bs], .agg (Hp.enc t).toArray] WW fun e w' => e = .returned (.int .i64 (Pb.cmp ⟨d, id, s⟩ t)) ∧ ∃ q os', w' = grow (WW.drewN q) os' := fun t WW => by
    have := hord t WW
    rw [show (Hp.enc (⟨d, id, s⟩ : Pb.H)).toArray = #[.int .i64 d, .int .i64 id, .string bs] from by unfold Hp.enc Tx.v; simp only [hbs]] at this
    exact this
  rw [hxx] at hordx
  have h1 : Blk (W.alloc (.cells #[.int .i64 d, .int .i64 id, .string bs] 50)) W.heap.size 50 #[.int .i64 d, .int .i64 id, .string bs] := Blk.new W _ _
  have c0 := h1.cell 0
  have c1 := h1.cell 1
  have c2 := h1.cell 2
  have A1 := hT.same (W' := W.alloc (.cells #[.int .i64 d, .int .i64 id, .string bs] 50)) (fun k hk => Below.heap_alloc _ _ _ (hT.lt hk))
  have d1 := A1.blk.cell 1
  have d2 := A1.pile.blk.cell 2
  have HL := Lib.hid (And.intro hlook (And.intro hput hordx))
  have HC := Lib.hid (And.intro hxl (And.intro hnl (And.intro hokl (And.intro hsz (And.intro hlk (And.intro hT hxx))))))
  have hlt := fun x hx => hT.lt (x := x) hx
  rw [hxx]
  clear hlook hput hord hordx hxl hnl hokl hsz hlk hT hnd hok hx hc ok hbs hxx
  go_enter Tryd.func25, Tryd.ntmps25
  go_upto_region 1 with fail
  have hS : (fun X : World => X.cell? ⟨tb, 1, none⟩ = some (.pointer (some ⟨b, 0, none⟩)) ∧ X.cell? ⟨b, 2, none⟩ = some (.map (some mb)) ∧ X.cell? ⟨W.heap.size, 0, none⟩ = some (.int .i64 d) ∧ X.cell? ⟨W.heap.size, 1, none⟩ = some (.int .i64 id) ∧ X.cell? ⟨W.heap.size, 2, none⟩ = some (.string bs) ∧ Hp.Set X mb c l) (W.alloc (.cells #[.int .i64 d, .int .i64 id, .string bs] 50)).drew := ⟨d1, d2, c0, c1, c2, A1.pile.has⟩
  refine Ph.region (fun X : World => X.cell? ⟨tb, 1, none⟩ = some (.pointer (some ⟨b, 0, none⟩)) ∧ X.cell? ⟨b, 2, none⟩ = some (.map (some mb)) ∧ X.cell? ⟨W.heap.size, 0, none⟩ = some (.int .i64 d) ∧ X.cell? ⟨W.heap.size, 1, none⟩ = some (.int .i64 id) ∧ X.cell? ⟨W.heap.size, 2, none⟩ = some (.string bs) ∧ Hp.Set X mb c l) (fun _ => false) (by kernel_rfl) hS ?_
  --PH 0 1 2 3 4 5 6 7 8 9 10 11; ⟨s1, s2, s3, s4, s5, s6⟩ | have s7 := HL.out.1 _ s6; hS
  refine Ph.get (i := 0) (v := _) (a' := _) rfl (by kernel_rfl) (by kernel_rfl) (by kernel_rfl) (by kernel_rfl) (fun _ _ _ h => h) hS (Or.inl ⟨by rfl, fun ww hSw => by obtain ⟨s1, s2, s3, s4, s5, s6⟩ := hSw; have s7 := HL.out.1 _ s6; go_simp <;> rfl⟩) (by simp only [Act.put, List.getElem_toArray, List.getElem_cons_zero, List.getElem_cons_succ, List.setIfInBounds_toArray, List.set_cons_zero, List.set_cons_succ]; rfl) ?_
  refine Ph.get (i := 1) (v := _) (a' := _) rfl (by kernel_rfl) (by kernel_rfl) (by kernel_rfl) (by kernel_rfl) (fun _ _ _ h => h) hS (Or.inl ⟨by rfl, fun ww hSw => by obtain ⟨s1, s2, s3, s4, s5, s6⟩ := hSw; have s7 := HL.out.1 _ s6; go_simp <;> rfl⟩) (by simp only [Act.put, List.getElem_toArray, List.getElem_cons_zero, List.getElem_cons_succ, List.setIfInBounds_toArray, List.set_cons_zero, List.set_cons_succ]; rfl) ?_
  refine Ph.get (i := 2) (v := _) (a' := _) rfl (by kernel_rfl) (by kernel_rfl) (by kernel_rfl) (by kernel_rfl) (fun _ _ _ h => h) hS (Or.inl ⟨by rfl, fun ww hSw => by obtain ⟨s1, s2, s3, s4, s5, s6⟩ := hSw; have s7 := HL.out.1 _ s6; go_simp <;> rfl⟩) (by simp only [Act.put, List.getElem_toArray, List.getElem_cons_zero, List.getElem_cons_succ, List.setIfInBounds_toArray, List.set_cons_zero, List.set_cons_succ]; rfl) ?_
  refine Ph.get (i := 3) (v := _) (a' := _) rfl (by kernel_rfl) (by kernel_rfl) (by kernel_rfl) (by kernel_rfl) (fun _ _ _ h => h) hS (Or.inl ⟨by rfl, fun ww hSw => by obtain ⟨s1, s2, s3, s4, s5, s6⟩ := hSw; have s7 := HL.out.1 _ s6; go_simp <;> rfl⟩) (by simp only [Act.put, List.getElem_toArray, List.getElem_cons_zero, List.getElem_cons_succ, List.setIfInBounds_toArray, List.set_cons_zero, List.set_cons_succ]; rfl) ?_
  refine Ph.get (i := 4) (v := _) (a' := _) rfl (by kernel_rfl) (by kernel_rfl) (by kernel_rfl) (by kernel_rfl) (fun _ _ _ h => h) hS (Or.inl ⟨by rfl, fun ww hSw => by obtain ⟨s1, s2, s3, s4, s5, s6⟩ := hSw; have s7 := HL.out.1 _ s6; go_simp <;> rfl⟩) (by simp only [Act.put, List.getElem_toArray, List.getElem_cons_zero, List.getElem_cons_succ, List.setIfInBounds_toArray, List.set_cons_zero, List.set_cons_succ]; rfl) ?_
  refine Ph.get (i := 5) (v := _) (a' := _) rfl (by kernel_rfl) (by kernel_rfl) (by kernel_rfl) (by kernel_rfl) (fun _ _ _ h => h) hS (Or.inl ⟨by rfl, fun ww hSw => by obtain ⟨s1, s2, s3, s4, s5, s6⟩ := hSw; have s7 := HL.out.1 _ s6; go_simp <;> rfl⟩) (by simp only [Act.put, List.getElem_toArray, List.getElem_cons_zero, List.getElem_cons_succ, List.setIfInBounds_toArray, List.set_cons_zero, List.set_cons_succ]; rfl) ?_
  refine Ph.get (i := 6) (v := _) (a' := _) rfl (by kernel_rfl) (by kernel_rfl) (by kernel_rfl) (by kernel_rfl) (fun _ _ _ h => h) hS (Or.inl ⟨by rfl, fun ww hSw => by obtain ⟨s1, s2, s3, s4, s5, s6⟩ := hSw; have s7 := HL.out.1 _ s6; go_simp <;> rfl⟩) (by simp only [Act.put, List.getElem_toArray, List.getElem_cons_zero, List.getElem_cons_succ, List.setIfInBounds_toArray, List.set_cons_zero, List.set_cons_succ]; rfl) ?_
  refine Ph.get (i := 7) (v := _) (a' := _) rfl (by kernel_rfl) (by kernel_rfl) (by kernel_rfl) (by kernel_rfl) (fun _ _ _ h => h) hS (Or.inl ⟨by rfl, fun ww hSw => by obtain ⟨s1, s2, s3, s4, s5, s6⟩ := hSw; have s7 := HL.out.1 _ s6; go_simp <;> rfl⟩) (by simp only [Act.put, List.getElem_toArray, List.getElem_cons_zero, List.getElem_cons_succ, List.setIfInBounds_toArray, List.set_cons_zero, List.set_cons_succ]; rfl) ?_
  refine Ph.get (i := 8) (v := _) (a' := _) rfl (by kernel_rfl) (by kernel_rfl) (by kernel_rfl) (by kernel_rfl) (fun _ _ _ h => h) hS (Or.inl ⟨by rfl, fun ww hSw => by obtain ⟨s1, s2, s3, s4, s5, s6⟩ := hSw; have s7 := HL.out.1 _ s6; go_simp <;> rfl⟩) (by simp only [Act.put, List.getElem_toArray, List.getElem_cons_zero, List.getElem_cons_succ, List.setIfInBounds_toArray, List.set_cons_zero, List.set_cons_succ]; rfl) ?_
  refine Ph.get (i := 9) (v := _) (a' := _) rfl (by kernel_rfl) (by kernel_rfl) (by kernel_rfl) (by kernel_rfl) (fun _ _ _ h => h) hS (Or.inl ⟨by rfl, fun ww hSw => by obtain ⟨s1, s2, s3, s4, s5, s6⟩ := hSw; have s7 := HL.out.1 _ s6; go_simp <;> rfl⟩) (by simp only [Act.put, List.getElem_toArray, List.getElem_cons_zero, List.getElem_cons_succ, List.setIfInBounds_toArray, List.set_cons_zero, List.set_cons_succ]; rfl) ?_
  refine Ph.get (i := 10) (v := _) (a' := _) rfl (by kernel_rfl) (by kernel_rfl) (by kernel_rfl) (by kernel_rfl) (fun _ _ _ h => h) hS (Or.inl ⟨by rfl, fun ww hSw => by obtain ⟨s1, s2, s3, s4, s5, s6⟩ := hSw; have s7 := HL.out.1 _ s6; go_simp <;> rfl⟩) (by simp only [Act.put, List.getElem_toArray, List.getElem_cons_zero, List.getElem_cons_succ, List.setIfInBounds_toArray, List.set_cons_zero, List.set_cons_succ]; rfl) ?_
  refine Ph.get (i := 11) (v := _) (a' := _) rfl (by kernel_rfl) (by kernel_rfl) (by kernel_rfl) (by kernel_rfl) (fun _ _ _ h => h) hS (Or.inl ⟨by rfl, fun ww hSw => by obtain ⟨s1, s2, s3, s4, s5, s6⟩ := hSw; have s7 := HL.out.1 _ s6; go_simp <;> rfl⟩) (by simp only [Act.put, List.getElem_toArray, List.getElem_cons_zero, List.getElem_cons_succ, List.setIfInBounds_toArray, List.set_cons_zero, List.set_cons_succ]; rfl) ?_
  refine Ph.one (i := 12) (by kernel_rfl) rfl (fun K hK => ?_)
  go_simp
  have A2 := A1.same (W' := ((W.alloc (.cells #[.int .i64 d, .int .i64 id, .string bs] 50)).alloc (.cells #[] 79)).drew) (fun k hk => Below.heap_alloc _ _ _ (A1.lt hk))
  have h2 : Blk ((W.alloc (.cells #[.int .i64 d, .int .i64 id, .string bs] 50)).alloc (.cells #[] 79)).drew W.heap.size 50 #[.int .i64 d, .int .i64 id, .string bs] := h1.alloc _
  refine hK.out _ _ ⟨A2.blk.cell 1, A2.pile.blk.cell 2, h2.cell 0, h2.cell 1, h2.cell 2, A2.pile.has⟩ (fun hS2 => ?_)
  clear hK K
  refine Ph.one (i := 13) (by kernel_rfl) rfl (fun K hK => ?_)
  go_simp
  refine hK.out _ _ hS2 (fun _ => ?_)
  clear hK K
  refine Ph.one (i := 14) (by kernel_rfl) rfl (fun K hK => ?_)
  go_simp
  refine hK.out _ _ hS2 (fun _ => ?_)
  clear hK K
  refine Ph.done (by kernel_rfl) ?_ _
  have O2 : Bk.Only (fun x => x = tb ∨ Hp.foot b mb A x) W ((W.alloc (.cells #[.int .i64 d, .int .i64 id, .string bs] 50)).alloc (.cells #[] 79)).drew := (((Bk.Only.refl _ W).alloc _).alloc _).drew
  generalize ((W.alloc (.cells #[.int .i64 d, .int .i64 id, .string bs] 50)).alloc (.cells #[] 79)).drew = Y2 at A2 h2 hS2 O2 ⊢
  clear A1 h1 c0 c1 c2 d1 d2 hS hS2
  have t0 := A2.blk.cell 0
  have t1 := A2.blk.cell 1
  have p0 := A2.pile.blk.cell 0
  have b0 := h2.cell 0
  have b1 := h2.cell 1
  have b2 := h2.cell 2
  have u0 : ((k : Int) == 0) = false := by rw [beq_eq_false_iff_ne]; omega
  go_upto_region 4 with fail
  by_cases hlk : l.length = k
  · have u1 : ((l.length : Int) == (k : Int)) = true := by rw [beq_iff_eq]; omega
    obtain ⟨t, ht⟩ : ∃ t, l[0]? = some t := ⟨_, List.getElem?_eq_getElem (by omega)⟩
    obtain ⟨g, rfl⟩ : ∃ g, A = some ⟨g, 0, none⟩ := by
      rcases A2.pile.row.2 with ⟨e, _⟩ | ⟨g, cap', cur, e, _⟩
      · injection e with _ e2; omega
      · injection e with e; exact ⟨g, e⟩
    obtain ⟨r0, r1, r2⟩ := Hp.row3 A2.pile.row ht
    simp only [Nat.zero_mul, Nat.zero_add] at r0 r1 r2
    have hlen : (0 : Int) < (l.length : Int) := by omega
    have hlen2 : 0 < l.length := by omega
    have hordt := fun WW => HL.out.2.2 t WW
    have htop : ∀ y ∈ l, Pb.gt y t = false := fun y hy => A2.heap.mem_top Pb.ord ht hy
    obtain ⟨q, hq⟩ : ∃ q, Pb.cmp ⟨d, id, s⟩ t = q := ⟨_, rfl⟩
    rw [← HC.out.2.2.2.2.2.2] at hordt
    have hgt : Pb.gt ⟨d, id, s⟩ t = decide (0 < q) := by unfold Pb.gt; rw [hq]
    rw [hq] at hordt
    obtain ⟨td, ti, tc⟩ := t
    unfold Hp.enc at hordt
    simp only at hordt r0 r1 r2
    obtain ⟨ub, hub, _⟩ := Tx.of tc
    rw [Tx.v_eq hub] at hordt r2
    have HT := Lib.hid (And.intro hordt (And.intro htop (And.intro hgt hlk)))
    clear hordt htop hgt hq ht hub hlk
    have hS : (fun X : World => X.cell? ⟨tb, 0, none⟩ = some (.int .i64 (k : Nat)) ∧ X.cell? ⟨tb, 1, none⟩ = some (.pointer (some ⟨b, 0, none⟩)) ∧ X.cell? ⟨b, 0, none⟩ = some (.slice (some ⟨g, 0, none⟩) l.length cap) ∧ X.cell? ⟨W.heap.size, 0, none⟩ = some (.int .i64 d) ∧ X.cell? ⟨W.heap.size, 1, none⟩ = some (.int .i64 id) ∧ X.cell? ⟨W.heap.size, 2, none⟩ = some (.string bs) ∧ X.cell? ⟨g, 0, none⟩ = some (.int .i64 td) ∧ X.cell? ⟨g, 1, none⟩ = some (.int .i64 ti) ∧ X.cell? ⟨g, 2, none⟩ = some (.string ub)) Y2.drew := ⟨t0, t1, p0, b0, b1, b2, r0, r1, r2⟩
    refine Ph.region (fun X : World => X.cell? ⟨tb, 0, none⟩ = some (.int .i64 (k : Nat)) ∧ X.cell? ⟨tb, 1, none⟩ = some (.pointer (some ⟨b, 0, none⟩)) ∧ X.cell? ⟨b, 0, none⟩ = some (.slice (some ⟨g, 0, none⟩) l.length cap) ∧ X.cell? ⟨W.heap.size, 0, none⟩ = some (.int .i64 d) ∧ X.cell? ⟨W.heap.size, 1, none⟩ = some (.int .i64 id) ∧ X.cell? ⟨W.heap.size, 2, none⟩ = some (.string bs) ∧ X.cell? ⟨g, 0, none⟩ = some (.int .i64 td) ∧ X.cell? ⟨g, 1, none⟩ = some (.int .i64 ti) ∧ X.cell? ⟨g, 2, none⟩ = some (.string ub)) (fun _ => false) (by kernel_rfl) hS ?_
    --PH 0 1 2 3 4 5 6 7 8 9 10 11 12 13 14 15 16 17 18 19 20 21 22 23 24 25 26 27 28 29; ⟨s1, s2, s3, s4, s5, s6, s7, s8, s9⟩; hS
    refine Ph.get (i := 0) (v := _) (a' := _) rfl (by kernel_rfl) (by kernel_rfl) (by kernel_rfl) (by kernel_rfl) (fun _ _ _ h => h) hS (Or.inl ⟨by rfl, fun ww hSw => by obtain ⟨s1, s2, s3, s4, s5, s6, s7, s8, s9⟩ := hSw; go_simp <;> rfl⟩) (by simp only [Act.put, List.getElem_toArray, List.getElem_cons_zero, List.getElem_cons_succ, List.setIfInBounds_toArray, List.set_cons_zero, List.set_cons_succ]; rfl) ?_
    refine Ph.get (i := 1) (v := _) (a' := _) rfl (by kernel_rfl) (by kernel_rfl) (by kernel_rfl) (by kernel_rfl) (fun _ _ _ h => h) hS (Or.inl ⟨by rfl, fun ww hSw => by obtain ⟨s1, s2, s3, s4, s5, s6, s7, s8, s9⟩ := hSw; go_simp <;> rfl⟩) (by simp only [Act.put, List.getElem_toArray, List.getElem_cons_zero, List.getElem_cons_succ, List.setIfInBounds_toArray, List.set_cons_zero, List.set_cons_succ]; rfl) ?_
    refine Ph.get (i := 2) (v := _) (a' := _) rfl (by kernel_rfl) (by kernel_rfl) (by kernel_rfl) (by kernel_rfl) (fun _ _ _ h => h) hS (Or.inl ⟨by rfl, fun ww hSw => by obtain ⟨s1, s2, s3, s4, s5, s6, s7, s8, s9⟩ := hSw; go_simp <;> rfl⟩) (by simp only [Act.put, List.getElem_toArray, List.getElem_cons_zero, List.getElem_cons_succ, List.setIfInBounds_toArray, List.set_cons_zero, List.set_cons_succ]; rfl) ?_
    refine Ph.get (i := 3) (v := _) (a' := _) rfl (by kernel_rfl) (by kernel_rfl) (by kernel_rfl) (by kernel_rfl) (fun _ _ _ h => h) hS (Or.inl ⟨by rfl, fun ww hSw => by obtain ⟨s1, s2, s3, s4, s5, s6, s7, s8, s9⟩ := hSw; go_simp <;> rfl⟩) (by simp only [Act.put, List.getElem_toArray, List.getElem_cons_zero, List.getElem_cons_succ, List.setIfInBounds_toArray, List.set_cons_zero, List.set_cons_succ]; rfl) ?_
    refine Ph.get (i := 4) (v := _) (a' := _) rfl (by kernel_rfl) (by kernel_rfl) (by kernel_rfl) (by kernel_rfl) (fun _ _ _ h => h) hS (Or.inl ⟨by rfl, fun ww hSw => by obtain ⟨s1, s2, s3, s4, s5, s6, s7, s8, s9⟩ := hSw; go_simp <;> rfl⟩) (by simp only [Act.put, List.getElem_toArray, List.getElem_cons_zero, List.getElem_cons_succ, List.setIfInBounds_toArray, List.set_cons_zero, List.set_cons_succ]; rfl) ?_
    refine Ph.get (i := 5) (v := _) (a' := _) rfl (by kernel_rfl) (by kernel_rfl) (by kernel_rfl) (by kernel_rfl) (fun _ _ _ h => h) hS (Or.inl ⟨by rfl, fun ww hSw => by obtain ⟨s1, s2, s3, s4, s5, s6, s7, s8, s9⟩ := hSw; go_simp <;> rfl⟩) (by simp only [Act.put, List.getElem_toArray, List.getElem_cons_zero, List.getElem_cons_succ, List.setIfInBounds_toArray, List.set_cons_zero, List.set_cons_succ]; rfl) ?_
    refine Ph.get (i := 6) (v := _) (a' := _) rfl (by kernel_rfl) (by kernel_rfl) (by kernel_rfl) (by kernel_rfl) (fun _ _ _ h => h) hS (Or.inl ⟨by rfl, fun ww hSw => by obtain ⟨s1, s2, s3, s4, s5, s6, s7, s8, s9⟩ := hSw; go_simp <;> rfl⟩) (by simp only [Act.put, List.getElem_toArray, List.getElem_cons_zero, List.getElem_cons_succ, List.setIfInBounds_toArray, List.set_cons_zero, List.set_cons_succ]; rfl) ?_
    refine Ph.get (i := 7) (v := _) (a' := _) rfl (by kernel_rfl) (by kernel_rfl) (by kernel_rfl) (by kernel_rfl) (fun _ _ _ h => h) hS (Or.inl ⟨by rfl, fun ww hSw => by obtain ⟨s1, s2, s3, s4, s5, s6, s7, s8, s9⟩ := hSw; go_simp <;> rfl⟩) (by simp only [Act.put, List.getElem_toArray, List.getElem_cons_zero, List.getElem_cons_succ, List.setIfInBounds_toArray, List.set_cons_zero, List.set_cons_succ]; rfl) ?_
    refine Ph.get (i := 8) (v := _) (a' := _) rfl (by kernel_rfl) (by kernel_rfl) (by kernel_rfl) (by kernel_rfl) (fun _ _ _ h => h) hS (Or.inl ⟨by rfl, fun ww hSw => by obtain ⟨s1, s2, s3, s4, s5, s6, s7, s8, s9⟩ := hSw; go_simp <;> rfl⟩) (by simp only [Act.put, List.getElem_toArray, List.getElem_cons_zero, List.getElem_cons_succ, List.setIfInBounds_toArray, List.set_cons_zero, List.set_cons_succ]; rfl) ?_
    refine Ph.get (i := 9) (v := _) (a' := _) rfl (by kernel_rfl) (by kernel_rfl) (by kernel_rfl) (by kernel_rfl) (fun _ _ _ h => h) hS (Or.inl ⟨by rfl, fun ww hSw => by obtain ⟨s1, s2, s3, s4, s5, s6, s7, s8, s9⟩ := hSw; go_simp <;> rfl⟩) (by simp only [Act.put, List.getElem_toArray, List.getElem_cons_zero, List.getElem_cons_succ, List.setIfInBounds_toArray, List.set_cons_zero, List.set_cons_succ]; rfl) ?_
    refine Ph.get (i := 10) (v := _) (a' := _) rfl (by kernel_rfl) (by kernel_rfl) (by kernel_rfl) (by kernel_rfl) (fun _ _ _ h => h) hS (Or.inl ⟨by rfl, fun ww hSw => by obtain ⟨s1, s2, s3, s4, s5, s6, s7, s8, s9⟩ := hSw; go_simp <;> rfl⟩) (by simp only [Act.put, List.getElem_toArray, List.getElem_cons_zero, List.getElem_cons_succ, List.setIfInBounds_toArray, List.set_cons_zero, List.set_cons_succ]; rfl) ?_
    refine Ph.get (i := 11) (v := _) (a' := _) rfl (by kernel_rfl) (by kernel_rfl) (by kernel_rfl) (by kernel_rfl) (fun _ _ _ h => h) hS (Or.inl ⟨by rfl, fun ww hSw => by obtain ⟨s1, s2, s3, s4, s5, s6, s7, s8, s9⟩ := hSw; go_simp <;> rfl⟩) (by simp only [Act.put, List.getElem_toArray, List.getElem_cons_zero, List.getElem_cons_succ, List.setIfInBounds_toArray, List.set_cons_zero, List.set_cons_succ]; rfl) ?_
    refine Ph.get (i := 12) (v := _) (a' := _) rfl (by kernel_rfl) (by kernel_rfl) (by kernel_rfl) (by kernel_rfl) (fun _ _ _ h => h) hS (Or.inl ⟨by rfl, fun ww hSw => by obtain ⟨s1, s2, s3, s4, s5, s6, s7, s8, s9⟩ := hSw; go_simp <;> rfl⟩) (by simp only [Act.put, List.getElem_toArray, List.getElem_cons_zero, List.getElem_cons_succ, List.setIfInBounds_toArray, List.set_cons_zero, List.set_cons_succ]; rfl) ?_
    refine Ph.get (i := 13) (v := _) (a' := _) rfl (by kernel_rfl) (by kernel_rfl) (by kernel_rfl) (by kernel_rfl) (fun _ _ _ h => h) hS (Or.inl ⟨by rfl, fun ww hSw => by obtain ⟨s1, s2, s3, s4, s5, s6, s7, s8, s9⟩ := hSw; go_simp <;> rfl⟩) (by simp only [Act.put, List.getElem_toArray, List.getElem_cons_zero, List.getElem_cons_succ, List.setIfInBounds_toArray, List.set_cons_zero, List.set_cons_succ]; rfl) ?_
    refine Ph.get (i := 14) (v := _) (a' := _) rfl (by kernel_rfl) (by kernel_rfl) (by kernel_rfl) (by kernel_rfl) (fun _ _ _ h => h) hS (Or.inl ⟨by rfl, fun ww hSw => by obtain ⟨s1, s2, s3, s4, s5, s6, s7, s8, s9⟩ := hSw; go_simp <;> rfl⟩) (by simp only [Act.put, List.getElem_toArray, List.getElem_cons_zero, List.getElem_cons_succ, List.setIfInBounds_toArray, List.set_cons_zero, List.set_cons_succ]; rfl) ?_
    refine Ph.get (i := 15) (v := _) (a' := _) rfl (by kernel_rfl) (by kernel_rfl) (by kernel_rfl) (by kernel_rfl) (fun _ _ _ h => h) hS (Or.inl ⟨by rfl, fun ww hSw => by obtain ⟨s1, s2, s3, s4, s5, s6, s7, s8, s9⟩ := hSw; go_simp <;> rfl⟩) (by simp only [Act.put, List.getElem_toArray, List.getElem_cons_zero, List.getElem_cons_succ, List.setIfInBounds_toArray, List.set_cons_zero, List.set_cons_succ]; rfl) ?_
    refine Ph.get (i := 16) (v := _) (a' := _) rfl (by kernel_rfl) (by kernel_rfl) (by kernel_rfl) (by kernel_rfl) (fun _ _ _ h => h) hS (Or.inl ⟨by rfl, fun ww hSw => by obtain ⟨s1, s2, s3, s4, s5, s6, s7, s8, s9⟩ := hSw; go_simp <;> rfl⟩) (by simp only [Act.put, List.getElem_toArray, List.getElem_cons_zero, List.getElem_cons_succ, List.setIfInBounds_toArray, List.set_cons_zero, List.set_cons_succ]; rfl) ?_
    refine Ph.get (i := 17) (v := _) (a' := _) rfl (by kernel_rfl) (by kernel_rfl) (by kernel_rfl) (by kernel_rfl) (fun _ _ _ h => h) hS (Or.inl ⟨by rfl, fun ww hSw => by obtain ⟨s1, s2, s3, s4, s5, s6, s7, s8, s9⟩ := hSw; go_simp <;> rfl⟩) (by simp only [Act.put, List.getElem_toArray, List.getElem_cons_zero, List.getElem_cons_succ, List.setIfInBounds_toArray, List.set_cons_zero, List.set_cons_succ]; rfl) ?_
    refine Ph.get (i := 18) (v := _) (a' := _) rfl (by kernel_rfl) (by kernel_rfl) (by kernel_rfl) (by kernel_rfl) (fun _ _ _ h => h) hS (Or.inl ⟨by rfl, fun ww hSw => by obtain ⟨s1, s2, s3, s4, s5, s6, s7, s8, s9⟩ := hSw; go_simp <;> rfl⟩) (by simp only [Act.put, List.getElem_toArray, List.getElem_cons_zero, List.getElem_cons_succ, List.setIfInBounds_toArray, List.set_cons_zero, List.set_cons_succ]; rfl) ?_
    refine Ph.get (i := 19) (v := _) (a' := _) rfl (by kernel_rfl) (by kernel_rfl) (by kernel_rfl) (by kernel_rfl) (fun _ _ _ h => h) hS (Or.inl ⟨by rfl, fun ww hSw => by obtain ⟨s1, s2, s3, s4, s5, s6, s7, s8, s9⟩ := hSw; go_simp <;> rfl⟩) (by simp only [Act.put, List.getElem_toArray, List.getElem_cons_zero, List.getElem_cons_succ, List.setIfInBounds_toArray, List.set_cons_zero, List.set_cons_succ]; rfl) ?_
    refine Ph.get (i := 20) (v := _) (a' := _) rfl (by kernel_rfl) (by kernel_rfl) (by kernel_rfl) (by kernel_rfl) (fun _ _ _ h => h) hS (Or.inl ⟨by rfl, fun ww hSw => by obtain ⟨s1, s2, s3, s4, s5, s6, s7, s8, s9⟩ := hSw; go_simp <;> rfl⟩) (by simp only [Act.put, List.getElem_toArray, List.getElem_cons_zero, List.getElem_cons_succ, List.setIfInBounds_toArray, List.set_cons_zero, List.set_cons_succ]; rfl) ?_
    refine Ph.get (i := 21) (v := _) (a' := _) rfl (by kernel_rfl) (by kernel_rfl) (by kernel_rfl) (by kernel_rfl) (fun _ _ _ h => h) hS (Or.inl ⟨by rfl, fun ww hSw => by obtain ⟨s1, s2, s3, s4, s5, s6, s7, s8, s9⟩ := hSw; go_simp <;> rfl⟩) (by simp only [Act.put, List.getElem_toArray, List.getElem_cons_zero, List.getElem_cons_succ, List.setIfInBounds_toArray, List.set_cons_zero, List.set_cons_succ]; rfl) ?_
    refine Ph.get (i := 22) (v := _) (a' := _) rfl (by kernel_rfl) (by kernel_rfl) (by kernel_rfl) (by kernel_rfl) (fun _ _ _ h => h) hS (Or.inl ⟨by rfl, fun ww hSw => by obtain ⟨s1, s2, s3, s4, s5, s6, s7, s8, s9⟩ := hSw; go_simp <;> rfl⟩) (by simp only [Act.put, List.getElem_toArray, List.getElem_cons_zero, List.getElem_cons_succ, List.setIfInBounds_toArray, List.set_cons_zero, List.set_cons_succ]; rfl) ?_
    refine Ph.get (i := 23) (v := _) (a' := _) rfl (by kernel_rfl) (by kernel_rfl) (by kernel_rfl) (by kernel_rfl) (fun _ _ _ h => h) hS (Or.inl ⟨by rfl, fun ww hSw => by obtain ⟨s1, s2, s3, s4, s5, s6, s7, s8, s9⟩ := hSw; go_simp <;> rfl⟩) (by simp only [Act.put, List.getElem_toArray, List.getElem_cons_zero, List.getElem_cons_succ, List.setIfInBounds_toArray, List.set_cons_zero, List.set_cons_succ]; rfl) ?_
    refine Ph.get (i := 24) (v := _) (a' := _) rfl (by kernel_rfl) (by kernel_rfl) (by kernel_rfl) (by kernel_rfl) (fun _ _ _ h => h) hS (Or.inl ⟨by rfl, fun ww hSw => by obtain ⟨s1, s2, s3, s4, s5, s6, s7, s8, s9⟩ := hSw; go_simp <;> rfl⟩) (by simp only [Act.put, List.getElem_toArray, List.getElem_cons_zero, List.getElem_cons_succ, List.setIfInBounds_toArray, List.set_cons_zero, List.set_cons_succ]; rfl) ?_
    refine Ph.get (i := 25) (v := _) (a' := _) rfl (by kernel_rfl) (by kernel_rfl) (by kernel_rfl) (by kernel_rfl) (fun _ _ _ h => h) hS (Or.inl ⟨by rfl, fun ww hSw => by obtain ⟨s1, s2, s3, s4, s5, s6, s7, s8, s9⟩ := hSw; go_simp <;> rfl⟩) (by simp only [Act.put, List.getElem_toArray, List.getElem_cons_zero, List.getElem_cons_succ, List.setIfInBounds_toArray, List.set_cons_zero, List.set_cons_succ]; rfl) ?_
    refine Ph.get (i := 26) (v := _) (a' := _) rfl (by kernel_rfl) (by kernel_rfl) (by kernel_rfl) (by kernel_rfl) (fun _ _ _ h => h) hS (Or.inl ⟨by rfl, fun ww hSw => by obtain ⟨s1, s2, s3, s4, s5, s6, s7, s8, s9⟩ := hSw; go_simp <;> rfl⟩) (by simp only [Act.put, List.getElem_toArray, List.getElem_cons_zero, List.getElem_cons_succ, List.setIfInBounds_toArray, List.set_cons_zero, List.set_cons_succ]; rfl) ?_
    refine Ph.get (i := 27) (v := _) (a' := _) rfl (by kernel_rfl) (by kernel_rfl) (by kernel_rfl) (by kernel_rfl) (fun _ _ _ h => h) hS (Or.inl ⟨by rfl, fun ww hSw => by obtain ⟨s1, s2, s3, s4, s5, s6, s7, s8, s9⟩ := hSw; go_simp <;> rfl⟩) (by simp only [Act.put, List.getElem_toArray, List.getElem_cons_zero, List.getElem_cons_succ, List.setIfInBounds_toArray, List.set_cons_zero, List.set_cons_succ]; rfl) ?_
    refine Ph.get (i := 28) (v := _) (a' := _) rfl (by kernel_rfl) (by kernel_rfl) (by kernel_rfl) (by kernel_rfl) (fun _ _ _ h => h) hS (Or.inl ⟨by rfl, fun ww hSw => by obtain ⟨s1, s2, s3, s4, s5, s6, s7, s8, s9⟩ := hSw; go_simp <;> rfl⟩) (by simp only [Act.put, List.getElem_toArray, List.getElem_cons_zero, List.getElem_cons_succ, List.setIfInBounds_toArray, List.set_cons_zero, List.set_cons_succ]; rfl) ?_
    refine Ph.get (i := 29) (v := _) (a' := _) rfl (by kernel_rfl) (by kernel_rfl) (by kernel_rfl) (by kernel_rfl) (fun _ _ _ h => h) hS (Or.inl ⟨by rfl, fun ww hSw => by obtain ⟨s1, s2, s3, s4, s5, s6, s7, s8, s9⟩ := hSw; go_simp <;> rfl⟩) (by simp only [Act.put, List.getElem_toArray, List.getElem_cons_zero, List.getElem_cons_succ, List.setIfInBounds_toArray, List.set_cons_zero, List.set_cons_succ]; rfl) ?_
    refine Ph.one (i := 30) (by kernel_rfl) rfl (fun K hK => ?_)
    go_simp
    refine (HT.out.1 _).mono ?_
    rintro e w2 ⟨rfl, qn, os, hw2⟩
    have bw0 : Below Y2.heap.size Y2.drew w2 := hw2 ▸ Hp.below_grow (B := Y2.heap.size) (w := Y2.drew) (Nat.le_refl _) qn os
    clear hw2
    go_simp
    have bw : Below Y2.heap.size Y2 w2 := (Below.refl _ Y2).drew.trans bw0
    have A3 := A2.same (W' := w2) (fun x hx => bw.block x (A2.lt hx))
    have h3 : Blk w2 W.heap.size 50 #[.int .i64 d, .int .i64 id, .string bs] := (bw.block _ h2.lt).trans h2
    have O3 : Bk.Only (fun x => x = tb ∨ Hp.foot b mb (some ⟨g, 0, none⟩) x) W w2 := O2.trans (.of bw)
    have rc : ∀ j, w2.cell? ⟨g, j, none⟩ = Y2.cell? ⟨g, j, none⟩ := fun j => by
      unfold World.cell?
      rw [show w2.heap[g]? = Y2.heap[g]? from bw.block g (A2.lt (.inr (.inr (.inr ⟨_, rfl, rfl⟩))))]
    refine hK.out _ _ ⟨A3.blk.cell 0, A3.blk.cell 1, A3.pile.blk.cell 0, h3.cell 0, h3.cell 1, h3.cell 2, (rc 0).trans r0, (rc 1).trans r1, (rc 2).trans r2⟩ (fun hS3 => ?_)
    clear hK K hS t0 t1 p0 b0 b1 b2 r0 r1 r2 rc bw bw0 A2 h2 O2
    --PH 31 32 33; ⟨s1, s2, s3, s4, s5, s6, s7, s8, s9⟩; hS3
    refine Ph.get (i := 31) (v := _) (a' := _) rfl (by kernel_rfl) (by kernel_rfl) (by kernel_rfl) (by kernel_rfl) (fun _ _ _ h => h) hS3 (Or.inl ⟨by rfl, fun ww hSw => by obtain ⟨s1, s2, s3, s4, s5, s6, s7, s8, s9⟩ := hSw; go_simp <;> rfl⟩) (by simp only [Act.put, List.getElem_toArray, List.getElem_cons_zero, List.getElem_cons_succ, List.setIfInBounds_toArray, List.set_cons_zero, List.set_cons_succ]; rfl) ?_
    refine Ph.get (i := 32) (v := _) (a' := _) rfl (by kernel_rfl) (by kernel_rfl) (by kernel_rfl) (by kernel_rfl) (fun _ _ _ h => h) hS3 (Or.inl ⟨by rfl, fun ww hSw => by obtain ⟨s1, s2, s3, s4, s5, s6, s7, s8, s9⟩ := hSw; go_simp <;> rfl⟩) (by simp only [Act.put, List.getElem_toArray, List.getElem_cons_zero, List.getElem_cons_succ, List.setIfInBounds_toArray, List.set_cons_zero, List.set_cons_succ]; rfl) ?_
    refine Ph.get (i := 33) (v := _) (a' := _) rfl (by kernel_rfl) (by kernel_rfl) (by kernel_rfl) (by kernel_rfl) (fun _ _ _ h => h) hS3 (Or.inl ⟨by rfl, fun ww hSw => by obtain ⟨s1, s2, s3, s4, s5, s6, s7, s8, s9⟩ := hSw; go_simp <;> rfl⟩) (by simp only [Act.put, List.getElem_toArray, List.getElem_cons_zero, List.getElem_cons_succ, List.setIfInBounds_toArray, List.set_cons_zero, List.set_cons_succ]; rfl) ?_
    refine Ph.done (by kernel_rfl) ?_ _
    have t1 := A3.blk.cell 1
    have b0 := h3.cell 0
    have b1 := h3.cell 1
    have b2 := h3.cell 2
    clear hS3
    by_cases hq0 : 0 < q
    · have u2 : decide (0 < q) = true := decide_eq_true hq0
      go_wp2_with fail
      go_ret
      obtain ⟨_, z2, z3, z4⟩ := HT.out
      obtain ⟨_, _, _, _, y5, y6, y7⟩ := HC.out
      refine ⟨⟨_, rfl⟩, _, ⟨b, c, l, _, cap, mb, ⟨A3.blk, A3.pile, Nat.le_trans A3.cnt (Nat.le_succ _), A3.heap, A3.first.not z4 (fun y hy => ?_)⟩, rfl⟩, O3, fun x hx => .inl hx⟩
      cases hg : Pb.gt xx y with
      | true => rfl
      | false =>
        have := Pb.ord.le_trans hg (z2 y hy)
        rw [← y7, z3, u2] at this
        cases this
    · have u2 : decide (0 < q) = false := decide_eq_false hq0
      go_upto_region 6 with fail
      have hS6 : (fun X : World => X.cell? ⟨tb, 1, none⟩ = some (.pointer (some ⟨b, 0, none⟩)) ∧ X.cell? ⟨W.heap.size, 0, none⟩ = some (.int .i64 d) ∧ X.cell? ⟨W.heap.size, 1, none⟩ = some (.int .i64 id) ∧ X.cell? ⟨W.heap.size, 2, none⟩ = some (.string bs)) w2.drew := ⟨t1, b0, b1, b2⟩
      refine Ph.region (fun X : World => X.cell? ⟨tb, 1, none⟩ = some (.pointer (some ⟨b, 0, none⟩)) ∧ X.cell? ⟨W.heap.size, 0, none⟩ = some (.int .i64 d) ∧ X.cell? ⟨W.heap.size, 1, none⟩ = some (.int .i64 id) ∧ X.cell? ⟨W.heap.size, 2, none⟩ = some (.string bs)) (fun i => i == 5) (by kernel_rfl) hS6 ?_
      --PP 0 1 2
      refine Ph.pure (i := 0) (v := _) (a' := _) rfl (by kernel_rfl) (by kernel_rfl) (by kernel_rfl) (fun _ _ _ h => h) (Or.inl ⟨by rfl, fun ww _ => by go_simp <;> rfl⟩) (by simp only [Act.put, List.getElem_toArray, List.getElem_cons_zero, List.getElem_cons_succ, List.setIfInBounds_toArray, List.set_cons_zero, List.set_cons_succ]; rfl) ?_
      refine Ph.pure (i := 1) (v := _) (a' := _) rfl (by kernel_rfl) (by kernel_rfl) (by kernel_rfl) (fun _ _ _ h => h) (Or.inl ⟨by rfl, fun ww _ => by go_simp <;> rfl⟩) (by simp only [Act.put, List.getElem_toArray, List.getElem_cons_zero, List.getElem_cons_succ, List.setIfInBounds_toArray, List.set_cons_zero, List.set_cons_succ]; rfl) ?_
      refine Ph.pure (i := 2) (v := _) (a' := _) rfl (by kernel_rfl) (by kernel_rfl) (by kernel_rfl) (fun _ _ _ h => h) (Or.inl ⟨by rfl, fun ww _ => by go_simp <;> rfl⟩) (by simp only [Act.put, List.getElem_toArray, List.getElem_cons_zero, List.getElem_cons_succ, List.setIfInBounds_toArray, List.set_cons_zero, List.set_cons_succ]; rfl) ?_
      --PH 3 4; ⟨s1, s2, s3, s4⟩; hS6
      refine Ph.get (i := 3) (v := _) (a' := _) rfl (by kernel_rfl) (by kernel_rfl) (by kernel_rfl) (by kernel_rfl) (fun _ _ _ h => h) hS6 (Or.inl ⟨by rfl, fun ww hSw => by obtain ⟨s1, s2, s3, s4⟩ := hSw; go_simp <;> rfl⟩) (by simp only [Act.put, List.getElem_toArray, List.getElem_cons_zero, List.getElem_cons_succ, List.setIfInBounds_toArray, List.set_cons_zero, List.set_cons_succ]; rfl) ?_
      refine Ph.get (i := 4) (v := _) (a' := _) rfl (by kernel_rfl) (by kernel_rfl) (by kernel_rfl) (by kernel_rfl) (fun _ _ _ h => h) hS6 (Or.inl ⟨by rfl, fun ww hSw => by obtain ⟨s1, s2, s3, s4⟩ := hSw; go_simp <;> rfl⟩) (by simp only [Act.put, List.getElem_toArray, List.getElem_cons_zero, List.getElem_cons_succ, List.setIfInBounds_toArray, List.set_cons_zero, List.set_cons_succ]; rfl) ?_
      refine Ph.last (i := 5) (by kernel_rfl) rfl rfl (fun K hK => ?_)
      go_simp
      refine (HL.out.2.1 w2.drew (A3.pile.same (fun _ _ => rfl))).mono ?_
      rintro e w3 ⟨rfl, hG⟩
      go_simp
      obtain ⟨l2, A2', cap2, tb2, hP2, hH2, hp2, hO2, hF2⟩ := (A3.same (W' := w2.drew) (fun _ _ => rfl)).grown O3.drew O3.drew.size hG
      refine hK.out _ _ ?_
      clear hK K hG hS6
      refine Ph.done (by kernel_rfl) ?_ _
      have v0 := tb2.cell 0
      have v1 := tb2.cell 1
      have v2 := hP2.blk.cell 0
      have hl2 : l2.length = l.length + 1 := by rw [hp2.length_eq]; rfl
      have u3 : decide (k < l2.length) = true := decide_eq_true (by have := HT.out.2.2.2; omega)
      have HZ := Lib.hid (And.intro tb2 (And.intro hP2 (And.intro hH2 (And.intro hp2 (And.intro hO2 (And.intro hF2 hl2))))))
      clear tb2 hP2 hH2 hp2 hO2 hF2 hl2 A3 O3 t1 b0 b1 b2 h3
      go_upto_region 7 with fail
      have hS7 : (fun X : World => X.cell? ⟨tb, 0, none⟩ = some (.int .i64 (k : Nat)) ∧ X.cell? ⟨tb, 1, none⟩ = some (.pointer (some ⟨b, 0, none⟩)) ∧ X.cell? ⟨b, 0, none⟩ = some (.slice A2' l2.length cap2)) w3.drew := ⟨v0, v1, v2⟩
      refine Ph.region (fun X : World => X.cell? ⟨tb, 0, none⟩ = some (.int .i64 (k : Nat)) ∧ X.cell? ⟨tb, 1, none⟩ = some (.pointer (some ⟨b, 0, none⟩)) ∧ X.cell? ⟨b, 0, none⟩ = some (.slice A2' l2.length cap2)) (fun _ => false) (by kernel_rfl) hS7 ?_
      --PH 0 1 2 3 4 5 6 7 8 9 10 11 12; ⟨s1, s2, s3⟩; hS7
      refine Ph.get (i := 0) (v := _) (a' := _) rfl (by kernel_rfl) (by kernel_rfl) (by kernel_rfl) (by kernel_rfl) (fun _ _ _ h => h) hS7 (Or.inl ⟨by rfl, fun ww hSw => by obtain ⟨s1, s2, s3⟩ := hSw; go_simp <;> rfl⟩) (by simp only [Act.put, List.getElem_toArray, List.getElem_cons_zero, List.getElem_cons_succ, List.setIfInBounds_toArray, List.set_cons_zero, List.set_cons_succ]; rfl) ?_
      refine Ph.get (i := 1) (v := _) (a' := _) rfl (by kernel_rfl) (by kernel_rfl) (by kernel_rfl) (by kernel_rfl) (fun _ _ _ h => h) hS7 (Or.inl ⟨by rfl, fun ww hSw => by obtain ⟨s1, s2, s3⟩ := hSw; go_simp <;> rfl⟩) (by simp only [Act.put, List.getElem_toArray, List.getElem_cons_zero, List.getElem_cons_succ, List.setIfInBounds_toArray, List.set_cons_zero, List.set_cons_succ]; rfl) ?_
      refine Ph.get (i := 2) (v := _) (a' := _) rfl (by kernel_rfl) (by kernel_rfl) (by kernel_rfl) (by kernel_rfl) (fun _ _ _ h => h) hS7 (Or.inl ⟨by rfl, fun ww hSw => by obtain ⟨s1, s2, s3⟩ := hSw; go_simp <;> rfl⟩) (by simp only [Act.put, List.getElem_toArray, List.getElem_cons_zero, List.getElem_cons_succ, List.setIfInBounds_toArray, List.set_cons_zero, List.set_cons_succ]; rfl) ?_
      refine Ph.get (i := 3) (v := _) (a' := _) rfl (by kernel_rfl) (by kernel_rfl) (by kernel_rfl) (by kernel_rfl) (fun _ _ _ h => h) hS7 (Or.inl ⟨by rfl, fun ww hSw => by obtain ⟨s1, s2, s3⟩ := hSw; go_simp <;> rfl⟩) (by simp only [Act.put, List.getElem_toArray, List.getElem_cons_zero, List.getElem_cons_succ, List.setIfInBounds_toArray, List.set_cons_zero, List.set_cons_succ]; rfl) ?_
      refine Ph.get (i := 4) (v := _) (a' := _) rfl (by kernel_rfl) (by kernel_rfl) (by kernel_rfl) (by kernel_rfl) (fun _ _ _ h => h) hS7 (Or.inl ⟨by rfl, fun ww hSw => by obtain ⟨s1, s2, s3⟩ := hSw; go_simp <;> rfl⟩) (by simp only [Act.put, List.getElem_toArray, List.getElem_cons_zero, List.getElem_cons_succ, List.setIfInBounds_toArray, List.set_cons_zero, List.set_cons_succ]; rfl) ?_
      refine Ph.get (i := 5) (v := _) (a' := _) rfl (by kernel_rfl) (by kernel_rfl) (by kernel_rfl) (by kernel_rfl) (fun _ _ _ h => h) hS7 (Or.inl ⟨by rfl, fun ww hSw => by obtain ⟨s1, s2, s3⟩ := hSw; go_simp <;> rfl⟩) (by simp only [Act.put, List.getElem_toArray, List.getElem_cons_zero, List.getElem_cons_succ, List.setIfInBounds_toArray, List.set_cons_zero, List.set_cons_succ]; rfl) ?_
      refine Ph.get (i := 6) (v := _) (a' := _) rfl (by kernel_rfl) (by kernel_rfl) (by kernel_rfl) (by kernel_rfl) (fun _ _ _ h => h) hS7 (Or.inl ⟨by rfl, fun ww hSw => by obtain ⟨s1, s2, s3⟩ := hSw; go_simp <;> rfl⟩) (by simp only [Act.put, List.getElem_toArray, List.getElem_cons_zero, List.getElem_cons_succ, List.setIfInBounds_toArray, List.set_cons_zero, List.set_cons_succ]; rfl) ?_
      refine Ph.get (i := 7) (v := _) (a' := _) rfl (by kernel_rfl) (by kernel_rfl) (by kernel_rfl) (by kernel_rfl) (fun _ _ _ h => h) hS7 (Or.inl ⟨by rfl, fun ww hSw => by obtain ⟨s1, s2, s3⟩ := hSw; go_simp <;> rfl⟩) (by simp only [Act.put, List.getElem_toArray, List.getElem_cons_zero, List.getElem_cons_succ, List.setIfInBounds_toArray, List.set_cons_zero, List.set_cons_succ]; rfl) ?_
      refine Ph.get (i := 8) (v := _) (a' := _) rfl (by kernel_rfl) (by kernel_rfl) (by kernel_rfl) (by kernel_rfl) (fun _ _ _ h => h) hS7 (Or.inl ⟨by rfl, fun ww hSw => by obtain ⟨s1, s2, s3⟩ := hSw; go_simp <;> rfl⟩) (by simp only [Act.put, List.getElem_toArray, List.getElem_cons_zero, List.getElem_cons_succ, List.setIfInBounds_toArray, List.set_cons_zero, List.set_cons_succ]; rfl) ?_
      refine Ph.get (i := 9) (v := _) (a' := _) rfl (by kernel_rfl) (by kernel_rfl) (by kernel_rfl) (by kernel_rfl) (fun _ _ _ h => h) hS7 (Or.inl ⟨by rfl, fun ww hSw => by obtain ⟨s1, s2, s3⟩ := hSw; go_simp <;> rfl⟩) (by simp only [Act.put, List.getElem_toArray, List.getElem_cons_zero, List.getElem_cons_succ, List.setIfInBounds_toArray, List.set_cons_zero, List.set_cons_succ]; rfl) ?_
      refine Ph.get (i := 10) (v := _) (a' := _) rfl (by kernel_rfl) (by kernel_rfl) (by kernel_rfl) (by kernel_rfl) (fun _ _ _ h => h) hS7 (Or.inl ⟨by rfl, fun ww hSw => by obtain ⟨s1, s2, s3⟩ := hSw; go_simp <;> rfl⟩) (by simp only [Act.put, List.getElem_toArray, List.getElem_cons_zero, List.getElem_cons_succ, List.setIfInBounds_toArray, List.set_cons_zero, List.set_cons_succ]; rfl) ?_
      refine Ph.get (i := 11) (v := _) (a' := _) rfl (by kernel_rfl) (by kernel_rfl) (by kernel_rfl) (by kernel_rfl) (fun _ _ _ h => h) hS7 (Or.inl ⟨by rfl, fun ww hSw => by obtain ⟨s1, s2, s3⟩ := hSw; go_simp <;> rfl⟩) (by simp only [Act.put, List.getElem_toArray, List.getElem_cons_zero, List.getElem_cons_succ, List.setIfInBounds_toArray, List.set_cons_zero, List.set_cons_succ]; rfl) ?_
      refine Ph.get (i := 12) (v := _) (a' := _) rfl (by kernel_rfl) (by kernel_rfl) (by kernel_rfl) (by kernel_rfl) (fun _ _ _ h => h) hS7 (Or.inl ⟨by rfl, fun ww hSw => by obtain ⟨s1, s2, s3⟩ := hSw; go_simp <;> rfl⟩) (by simp only [Act.put, List.getElem_toArray, List.getElem_cons_zero, List.getElem_cons_succ, List.setIfInBounds_toArray, List.set_cons_zero, List.set_cons_succ]; rfl) ?_
      refine Ph.done (by kernel_rfl) ?_ _
      have hdr : Calls Tryd.prog 35 #[.pointer (some ⟨b, 0, none⟩)] w3.drew fun e W' => e = .returned (.tuple #[]) ∧ ∃ t x, l2[0]? = some t ∧ l2[l2.length - 1]? = some x ∧ Hp.Grown w3.drew W' b (c + 1) A2' mb ((l2.set 0 x).take (l2.length - 1)) := by
        obtain ⟨z1, z2, z3, z4, z5, z6, z7⟩ := HZ.out
        obtain ⟨y1, y2, y3, y4, y5, y6, y7⟩ := HC.out
        exact Hp.drop_any (z2.same (fun _ _ => rfl)) z3 (fun y hy => by
          rcases List.mem_cons.1 (z4.mem_iff.1 hy) with rfl | hy
          · exact okx
          · exact y3 y hy) (n := l.length) (by omega) (z4.nodup_iff.2 (List.nodup_cons.2 ⟨y1, y2⟩)) (by omega)
      go_wp2_with (go_at_call 35; refine hdr.mono ?_; clear hdr; rintro e w4 ⟨rfl, t9, x9, e1, e2, hG9⟩)
      go_ret
      obtain ⟨z1, z2, z3, z4, z5, z6, z7⟩ := HZ.out
      obtain ⟨y1, y2, y3, y4, y5, y6, y7⟩ := HC.out
      have hmid : Hp.TopX w3 tb k (xx :: l) b (c + 1) l2 A2' cap2 mb → True := fun _ => trivial
      have htf : ¬ Hp.foot b mb A2' tb := Hp.apart_foot z1 z2
      obtain ⟨l5, A5, cap5, g1, g2, g3, g4, g5⟩ := hG9
      have hperm := Hp.drop_perm e1 e2
      have htp : ∀ y ∈ (⟨d, id, s⟩ : Pb.H) :: l, Pb.gt y t9 = false := fun y hy => z3.mem_top Pb.ord e1 (z4.mem_iff.2 hy)
      have hfull := y6.first.full Pb.ord (x := ⟨d, id, s⟩) (t := t9) (l' := l5) HT.out.2.2.2 y2 y1 (((g3.cons t9).trans hperm).trans z4) htp
      rw [y7] at hfull
      refine ⟨⟨_, rfl⟩, _, ⟨b, c + 1, l5, A5, cap5, mb, ⟨(g4.block tb (by show tb < w3.heap.size; exact z1.lt) htf).trans z1, g1, Nat.succ_le_succ y6.cnt, g2, hfull⟩, rfl⟩, Hp.only_then (z5.trans (.of (Below.refl _ _).drew)) (fun x hx => z6 x (.inr hx)) g4, ?_⟩
      rintro x (hx | hx | hx | ⟨a, ha, rfl⟩)
      · exact .inl (.inl hx)
      · exact .inl (.inr (.inl hx))
      · exact .inl (.inr (.inr (.inl hx)))
      · rcases g5 a ha with ⟨a', f1, f2⟩ | h
        · exact f2 ▸ z6 a'.block (.inr (.inr (.inr ⟨a', f1, rfl⟩)))
        · exact .inr (Nat.le_trans z5.size h)
  · have u1 : ((l.length : Int) == (k : Int)) = false := by rw [beq_eq_false_iff_ne]; omega
    have hS : (fun X : World => X.cell? ⟨tb, 0, none⟩ = some (.int .i64 (k : Nat)) ∧ X.cell? ⟨tb, 1, none⟩ = some (.pointer (some ⟨b, 0, none⟩)) ∧ X.cell? ⟨b, 0, none⟩ = some (.slice A l.length cap)) Y2.drew := ⟨t0, t1, p0⟩
    refine Ph.region (fun X : World => X.cell? ⟨tb, 0, none⟩ = some (.int .i64 (k : Nat)) ∧ X.cell? ⟨tb, 1, none⟩ = some (.pointer (some ⟨b, 0, none⟩)) ∧ X.cell? ⟨b, 0, none⟩ = some (.slice A l.length cap)) (fun _ => false) (by kernel_rfl) hS ?_
    --PH 0 1 2 3 4 5 6 7 8 9 10 11 12 13 14 15 16 17 18 19; ⟨s1, s2, s3⟩; hS
    refine Ph.get (i := 0) (v := _) (a' := _) rfl (by kernel_rfl) (by kernel_rfl) (by kernel_rfl) (by kernel_rfl) (fun _ _ _ h => h) hS (Or.inl ⟨by rfl, fun ww hSw => by obtain ⟨s1, s2, s3⟩ := hSw; go_simp <;> rfl⟩) (by simp only [Act.put, List.getElem_toArray, List.getElem_cons_zero, List.getElem_cons_succ, List.setIfInBounds_toArray, List.set_cons_zero, List.set_cons_succ]; rfl) ?_
    refine Ph.get (i := 1) (v := _) (a' := _) rfl (by kernel_rfl) (by kernel_rfl) (by kernel_rfl) (by kernel_rfl) (fun _ _ _ h => h) hS (Or.inl ⟨by rfl, fun ww hSw => by obtain ⟨s1, s2, s3⟩ := hSw; go_simp <;> rfl⟩) (by simp only [Act.put, List.getElem_toArray, List.getElem_cons_zero, List.getElem_cons_succ, List.setIfInBounds_toArray, List.set_cons_zero, List.set_cons_succ]; rfl) ?_
    refine Ph.get (i := 2) (v := _) (a' := _) rfl (by kernel_rfl) (by kernel_rfl) (by kernel_rfl) (by kernel_rfl) (fun _ _ _ h => h) hS (Or.inl ⟨by rfl, fun ww hSw => by obtain ⟨s1, s2, s3⟩ := hSw; go_simp <;> rfl⟩) (by simp only [Act.put, List.getElem_toArray, List.getElem_cons_zero, List.getElem_cons_succ, List.setIfInBounds_toArray, List.set_cons_zero, List.set_cons_succ]; rfl) ?_
    refine Ph.get (i := 3) (v := _) (a' := _) rfl (by kernel_rfl) (by kernel_rfl) (by kernel_rfl) (by kernel_rfl) (fun _ _ _ h => h) hS (Or.inl ⟨by rfl, fun ww hSw => by obtain ⟨s1, s2, s3⟩ := hSw; go_simp <;> rfl⟩) (by simp only [Act.put, List.getElem_toArray, List.getElem_cons_zero, List.getElem_cons_succ, List.setIfInBounds_toArray, List.set_cons_zero, List.set_cons_succ]; rfl) ?_
    refine Ph.get (i := 4) (v := _) (a' := _) rfl (by kernel_rfl) (by kernel_rfl) (by kernel_rfl) (by kernel_rfl) (fun _ _ _ h => h) hS (Or.inl ⟨by rfl, fun ww hSw => by obtain ⟨s1, s2, s3⟩ := hSw; go_simp <;> rfl⟩) (by simp only [Act.put, List.getElem_toArray, List.getElem_cons_zero, List.getElem_cons_succ, List.setIfInBounds_toArray, List.set_cons_zero, List.set_cons_succ]; rfl) ?_
    refine Ph.get (i := 5) (v := _) (a' := _) rfl (by kernel_rfl) (by kernel_rfl) (by kernel_rfl) (by kernel_rfl) (fun _ _ _ h => h) hS (Or.inl ⟨by rfl, fun ww hSw => by obtain ⟨s1, s2, s3⟩ := hSw; go_simp <;> rfl⟩) (by simp only [Act.put, List.getElem_toArray, List.getElem_cons_zero, List.getElem_cons_succ, List.setIfInBounds_toArray, List.set_cons_zero, List.set_cons_succ]; rfl) ?_
    refine Ph.get (i := 6) (v := _) (a' := _) rfl (by kernel_rfl) (by kernel_rfl) (by kernel_rfl) (by kernel_rfl) (fun _ _ _ h => h) hS (Or.inl ⟨by rfl, fun ww hSw => by obtain ⟨s1, s2, s3⟩ := hSw; go_simp <;> rfl⟩) (by simp only [Act.put, List.getElem_toArray, List.getElem_cons_zero, List.getElem_cons_succ, List.setIfInBounds_toArray, List.set_cons_zero, List.set_cons_succ]; rfl) ?_
    refine Ph.get (i := 7) (v := _) (a' := _) rfl (by kernel_rfl) (by kernel_rfl) (by kernel_rfl) (by kernel_rfl) (fun _ _ _ h => h) hS (Or.inl ⟨by rfl, fun ww hSw => by obtain ⟨s1, s2, s3⟩ := hSw; go_simp <;> rfl⟩) (by simp only [Act.put, List.getElem_toArray, List.getElem_cons_zero, List.getElem_cons_succ, List.setIfInBounds_toArray, List.set_cons_zero, List.set_cons_succ]; rfl) ?_
    refine Ph.get (i := 8) (v := _) (a' := _) rfl (by kernel_rfl) (by kernel_rfl) (by kernel_rfl) (by kernel_rfl) (fun _ _ _ h => h) hS (Or.inl ⟨by rfl, fun ww hSw => by obtain ⟨s1, s2, s3⟩ := hSw; go_simp <;> rfl⟩) (by simp only [Act.put, List.getElem_toArray, List.getElem_cons_zero, List.getElem_cons_succ, List.setIfInBounds_toArray, List.set_cons_zero, List.set_cons_succ]; rfl) ?_
    refine Ph.get (i := 9) (v := _) (a' := _) rfl (by kernel_rfl) (by kernel_rfl) (by kernel_rfl) (by kernel_rfl) (fun _ _ _ h => h) hS (Or.inl ⟨by rfl, fun ww hSw => by obtain ⟨s1, s2, s3⟩ := hSw; go_simp <;> rfl⟩) (by simp only [Act.put, List.getElem_toArray, List.getElem_cons_zero, List.getElem_cons_succ, List.setIfInBounds_toArray, List.set_cons_zero, List.set_cons_succ]; rfl) ?_
    refine Ph.get (i := 10) (v := _) (a' := _) rfl (by kernel_rfl) (by kernel_rfl) (by kernel_rfl) (by kernel_rfl) (fun _ _ _ h => h) hS (Or.inl ⟨by rfl, fun ww hSw => by obtain ⟨s1, s2, s3⟩ := hSw; go_simp <;> rfl⟩) (by simp only [Act.put, List.getElem_toArray, List.getElem_cons_zero, List.getElem_cons_succ, List.setIfInBounds_toArray, List.set_cons_zero, List.set_cons_succ]; rfl) ?_
    refine Ph.get (i := 11) (v := _) (a' := _) rfl (by kernel_rfl) (by kernel_rfl) (by kernel_rfl) (by kernel_rfl) (fun _ _ _ h => h) hS (Or.inl ⟨by rfl, fun ww hSw => by obtain ⟨s1, s2, s3⟩ := hSw; go_simp <;> rfl⟩) (by simp only [Act.put, List.getElem_toArray, List.getElem_cons_zero, List.getElem_cons_succ, List.setIfInBounds_toArray, List.set_cons_zero, List.set_cons_succ]; rfl) ?_
    refine Ph.get (i := 12) (v := _) (a' := _) rfl (by kernel_rfl) (by kernel_rfl) (by kernel_rfl) (by kernel_rfl) (fun _ _ _ h => h) hS (Or.inl ⟨by rfl, fun ww hSw => by obtain ⟨s1, s2, s3⟩ := hSw; go_simp <;> rfl⟩) (by simp only [Act.put, List.getElem_toArray, List.getElem_cons_zero, List.getElem_cons_succ, List.setIfInBounds_toArray, List.set_cons_zero, List.set_cons_succ]; rfl) ?_
    refine Ph.get (i := 13) (v := _) (a' := _) rfl (by kernel_rfl) (by kernel_rfl) (by kernel_rfl) (by kernel_rfl) (fun _ _ _ h => h) hS (Or.inl ⟨by rfl, fun ww hSw => by obtain ⟨s1, s2, s3⟩ := hSw; go_simp <;> rfl⟩) (by simp only [Act.put, List.getElem_toArray, List.getElem_cons_zero, List.getElem_cons_succ, List.setIfInBounds_toArray, List.set_cons_zero, List.set_cons_succ]; rfl) ?_
    refine Ph.get (i := 14) (v := _) (a' := _) rfl (by kernel_rfl) (by kernel_rfl) (by kernel_rfl) (by kernel_rfl) (fun _ _ _ h => h) hS (Or.inl ⟨by rfl, fun ww hSw => by obtain ⟨s1, s2, s3⟩ := hSw; go_simp <;> rfl⟩) (by simp only [Act.put, List.getElem_toArray, List.getElem_cons_zero, List.getElem_cons_succ, List.setIfInBounds_toArray, List.set_cons_zero, List.set_cons_succ]; rfl) ?_
    refine Ph.get (i := 15) (v := _) (a' := _) rfl (by kernel_rfl) (by kernel_rfl) (by kernel_rfl) (by kernel_rfl) (fun _ _ _ h => h) hS (Or.inl ⟨by rfl, fun ww hSw => by obtain ⟨s1, s2, s3⟩ := hSw; go_simp <;> rfl⟩) (by simp only [Act.put, List.getElem_toArray, List.getElem_cons_zero, List.getElem_cons_succ, List.setIfInBounds_toArray, List.set_cons_zero, List.set_cons_succ]; rfl) ?_
    refine Ph.get (i := 16) (v := _) (a' := _) rfl (by kernel_rfl) (by kernel_rfl) (by kernel_rfl) (by kernel_rfl) (fun _ _ _ h => h) hS (Or.inl ⟨by rfl, fun ww hSw => by obtain ⟨s1, s2, s3⟩ := hSw; go_simp <;> rfl⟩) (by simp only [Act.put, List.getElem_toArray, List.getElem_cons_zero, List.getElem_cons_succ, List.setIfInBounds_toArray, List.set_cons_zero, List.set_cons_succ]; rfl) ?_
    refine Ph.get (i := 17) (v := _) (a' := _) rfl (by kernel_rfl) (by kernel_rfl) (by kernel_rfl) (by kernel_rfl) (fun _ _ _ h => h) hS (Or.inl ⟨by rfl, fun ww hSw => by obtain ⟨s1, s2, s3⟩ := hSw; go_simp <;> rfl⟩) (by simp only [Act.put, List.getElem_toArray, List.getElem_cons_zero, List.getElem_cons_succ, List.setIfInBounds_toArray, List.set_cons_zero, List.set_cons_succ]; rfl) ?_
    refine Ph.get (i := 18) (v := _) (a' := _) rfl (by kernel_rfl) (by kernel_rfl) (by kernel_rfl) (by kernel_rfl) (fun _ _ _ h => h) hS (Or.inl ⟨by rfl, fun ww hSw => by obtain ⟨s1, s2, s3⟩ := hSw; go_simp <;> rfl⟩) (by simp only [Act.put, List.getElem_toArray, List.getElem_cons_zero, List.getElem_cons_succ, List.setIfInBounds_toArray, List.set_cons_zero, List.set_cons_succ]; rfl) ?_
    refine Ph.get (i := 19) (v := _) (a' := _) rfl (by kernel_rfl) (by kernel_rfl) (by kernel_rfl) (by kernel_rfl) (fun _ _ _ h => h) hS (Or.inl ⟨by rfl, fun ww hSw => by obtain ⟨s1, s2, s3⟩ := hSw; go_simp <;> rfl⟩) (by simp only [Act.put, List.getElem_toArray, List.getElem_cons_zero, List.getElem_cons_succ, List.setIfInBounds_toArray, List.set_cons_zero, List.set_cons_succ]; rfl) ?_
    --PS 20 21 22 23 24 25 26 27 28 29 30 31
    refine Ph.pure (i := 20) (v := undef) (a' := _) rfl (by kernel_rfl) (by kernel_rfl) (by kernel_rfl) (fun _ _ _ h => h) (Or.inr ⟨by rfl, rfl⟩) (by simp only [Act.put, List.getElem_toArray, List.getElem_cons_zero, List.getElem_cons_succ, List.setIfInBounds_toArray, List.set_cons_zero, List.set_cons_succ]; rfl) ?_
    refine Ph.pure (i := 21) (v := undef) (a' := _) rfl (by kernel_rfl) (by kernel_rfl) (by kernel_rfl) (fun _ _ _ h => h) (Or.inr ⟨by rfl, rfl⟩) (by simp only [Act.put, List.getElem_toArray, List.getElem_cons_zero, List.getElem_cons_succ, List.setIfInBounds_toArray, List.set_cons_zero, List.set_cons_succ]; rfl) ?_
    refine Ph.pure (i := 22) (v := undef) (a' := _) rfl (by kernel_rfl) (by kernel_rfl) (by kernel_rfl) (fun _ _ _ h => h) (Or.inr ⟨by rfl, rfl⟩) (by simp only [Act.put, List.getElem_toArray, List.getElem_cons_zero, List.getElem_cons_succ, List.setIfInBounds_toArray, List.set_cons_zero, List.set_cons_succ]; rfl) ?_
    refine Ph.pure (i := 23) (v := undef) (a' := _) rfl (by kernel_rfl) (by kernel_rfl) (by kernel_rfl) (fun _ _ _ h => h) (Or.inr ⟨by rfl, rfl⟩) (by simp only [Act.put, List.getElem_toArray, List.getElem_cons_zero, List.getElem_cons_succ, List.setIfInBounds_toArray, List.set_cons_zero, List.set_cons_succ]; rfl) ?_
    refine Ph.pure (i := 24) (v := undef) (a' := _) rfl (by kernel_rfl) (by kernel_rfl) (by kernel_rfl) (fun _ _ _ h => h) (Or.inr ⟨by rfl, rfl⟩) (by simp only [Act.put, List.getElem_toArray, List.getElem_cons_zero, List.getElem_cons_succ, List.setIfInBounds_toArray, List.set_cons_zero, List.set_cons_succ]; rfl) ?_
    refine Ph.pure (i := 25) (v := undef) (a' := _) rfl (by kernel_rfl) (by kernel_rfl) (by kernel_rfl) (fun _ _ _ h => h) (Or.inr ⟨by rfl, rfl⟩) (by simp only [Act.put, List.getElem_toArray, List.getElem_cons_zero, List.getElem_cons_succ, List.setIfInBounds_toArray, List.set_cons_zero, List.set_cons_succ]; rfl) ?_
    refine Ph.pure (i := 26) (v := undef) (a' := _) rfl (by kernel_rfl) (by kernel_rfl) (by kernel_rfl) (fun _ _ _ h => h) (Or.inr ⟨by rfl, rfl⟩) (by simp only [Act.put, List.getElem_toArray, List.getElem_cons_zero, List.getElem_cons_succ, List.setIfInBounds_toArray, List.set_cons_zero, List.set_cons_succ]; rfl) ?_
    refine Ph.pure (i := 27) (v := undef) (a' := _) rfl (by kernel_rfl) (by kernel_rfl) (by kernel_rfl) (fun _ _ _ h => h) (Or.inr ⟨by rfl, rfl⟩) (by simp only [Act.put, List.getElem_toArray, List.getElem_cons_zero, List.getElem_cons_succ, List.setIfInBounds_toArray, List.set_cons_zero, List.set_cons_succ]; rfl) ?_
    refine Ph.pure (i := 28) (v := undef) (a' := _) rfl (by kernel_rfl) (by kernel_rfl) (by kernel_rfl) (fun _ _ _ h => h) (Or.inr ⟨by rfl, rfl⟩) (by simp only [Act.put, List.getElem_toArray, List.getElem_cons_zero, List.getElem_cons_succ, List.setIfInBounds_toArray, List.set_cons_zero, List.set_cons_succ]; rfl) ?_
    refine Ph.pure (i := 29) (v := undef) (a' := _) rfl (by kernel_rfl) (by kernel_rfl) (by kernel_rfl) (fun _ _ _ h => h) (Or.inr ⟨by rfl, rfl⟩) (by simp only [Act.put, List.getElem_toArray, List.getElem_cons_zero, List.getElem_cons_succ, List.setIfInBounds_toArray, List.set_cons_zero, List.set_cons_succ]; rfl) ?_
    refine Ph.pure (i := 30) (v := undef) (a' := _) rfl (by kernel_rfl) (by kernel_rfl) (by kernel_rfl) (fun _ _ _ h => h) (Or.inr ⟨by rfl, rfl⟩) (by simp only [Act.put, List.getElem_toArray, List.getElem_cons_zero, List.getElem_cons_succ, List.setIfInBounds_toArray, List.set_cons_zero, List.set_cons_succ]; rfl) ?_
    refine Ph.pure (i := 31) (v := undef) (a' := _) rfl (by kernel_rfl) (by kernel_rfl) (by kernel_rfl) (fun _ _ _ h => h) (Or.inr ⟨by rfl, rfl⟩) (by simp only [Act.put, List.getElem_toArray, List.getElem_cons_zero, List.getElem_cons_succ, List.setIfInBounds_toArray, List.set_cons_zero, List.set_cons_succ]; rfl) ?_
    --PH 32 33; ⟨s1, s2, s3⟩; hS
    refine Ph.get (i := 32) (v := _) (a' := _) rfl (by kernel_rfl) (by kernel_rfl) (by kernel_rfl) (by kernel_rfl) (fun _ _ _ h => h) hS (Or.inl ⟨by rfl, fun ww hSw => by obtain ⟨s1, s2, s3⟩ := hSw; go_simp <;> rfl⟩) (by simp only [Act.put, List.getElem_toArray, List.getElem_cons_zero, List.getElem_cons_succ, List.setIfInBounds_toArray, List.set_cons_zero, List.set_cons_succ]; rfl) ?_
    refine Ph.get (i := 33) (v := _) (a' := _) rfl (by kernel_rfl) (by kernel_rfl) (by kernel_rfl) (by kernel_rfl) (fun _ _ _ h => h) hS (Or.inl ⟨by rfl, fun ww hSw => by obtain ⟨s1, s2, s3⟩ := hSw; go_simp <;> rfl⟩) (by simp only [Act.put, List.getElem_toArray, List.getElem_cons_zero, List.getElem_cons_succ, List.setIfInBounds_toArray, List.set_cons_zero, List.set_cons_succ]; rfl) ?_
    refine Ph.done (by kernel_rfl) ?_ _
    clear hS t0 p0
    have A3 := A2.same (W' := Y2.drew) (fun _ _ => rfl)
    have O3 := O2.drew
    have t1 : Y2.drew.cell? ⟨tb, 1, none⟩ = some (.pointer (some ⟨b, 0, none⟩)) := t1
    have b0 : Y2.drew.cell? ⟨W.heap.size, 0, none⟩ = some (.int .i64 d) := b0
    have b1 : Y2.drew.cell? ⟨W.heap.size, 1, none⟩ = some (.int .i64 id) := b1
    have b2 : Y2.drew.cell? ⟨W.heap.size, 2, none⟩ = some (.string bs) := b2
    clear A2 h2 O2
    generalize Y2.drew = Y3 at A3 O3 t1 b0 b1 b2 ⊢
    go_upto_region 6 with fail
    have hS6 : (fun X : World => X.cell? ⟨tb, 1, none⟩ = some (.pointer (some ⟨b, 0, none⟩)) ∧ X.cell? ⟨W.heap.size, 0, none⟩ = some (.int .i64 d) ∧ X.cell? ⟨W.heap.size, 1, none⟩ = some (.int .i64 id) ∧ X.cell? ⟨W.heap.size, 2, none⟩ = some (.string bs)) Y3.drew := ⟨t1, b0, b1, b2⟩
    refine Ph.region (fun X : World => X.cell? ⟨tb, 1, none⟩ = some (.pointer (some ⟨b, 0, none⟩)) ∧ X.cell? ⟨W.heap.size, 0, none⟩ = some (.int .i64 d) ∧ X.cell? ⟨W.heap.size, 1, none⟩ = some (.int .i64 id) ∧ X.cell? ⟨W.heap.size, 2, none⟩ = some (.string bs)) (fun i => i == 5) (by kernel_rfl) hS6 ?_
    --PP 0 1 2
    refine Ph.pure (i := 0) (v := _) (a' := _) rfl (by kernel_rfl) (by kernel_rfl) (by kernel_rfl) (fun _ _ _ h => h) (Or.inl ⟨by rfl, fun ww _ => by go_simp <;> rfl⟩) (by simp only [Act.put, List.getElem_toArray, List.getElem_cons_zero, List.getElem_cons_succ, List.setIfInBounds_toArray, List.set_cons_zero, List.set_cons_succ]; rfl) ?_
    refine Ph.pure (i := 1) (v := _) (a' := _) rfl (by kernel_rfl) (by kernel_rfl) (by kernel_rfl) (fun _ _ _ h => h) (Or.inl ⟨by rfl, fun ww _ => by go_simp <;> rfl⟩) (by simp only [Act.put, List.getElem_toArray, List.getElem_cons_zero, List.getElem_cons_succ, List.setIfInBounds_toArray, List.set_cons_zero, List.set_cons_succ]; rfl) ?_
    refine Ph.pure (i := 2) (v := _) (a' := _) rfl (by kernel_rfl) (by kernel_rfl) (by kernel_rfl) (fun _ _ _ h => h) (Or.inl ⟨by rfl, fun ww _ => by go_simp <;> rfl⟩) (by simp only [Act.put, List.getElem_toArray, List.getElem_cons_zero, List.getElem_cons_succ, List.setIfInBounds_toArray, List.set_cons_zero, List.set_cons_succ]; rfl) ?_
    --PH 3 4; ⟨s1, s2, s3, s4⟩; hS6
    refine Ph.get (i := 3) (v := _) (a' := _) rfl (by kernel_rfl) (by kernel_rfl) (by kernel_rfl) (by kernel_rfl) (fun _ _ _ h => h) hS6 (Or.inl ⟨by rfl, fun ww hSw => by obtain ⟨s1, s2, s3, s4⟩ := hSw; go_simp <;> rfl⟩) (by simp only [Act.put, List.getElem_toArray, List.getElem_cons_zero, List.getElem_cons_succ, List.setIfInBounds_toArray, List.set_cons_zero, List.set_cons_succ]; rfl) ?_
    refine Ph.get (i := 4) (v := _) (a' := _) rfl (by kernel_rfl) (by kernel_rfl) (by kernel_rfl) (by kernel_rfl) (fun _ _ _ h => h) hS6 (Or.inl ⟨by rfl, fun ww hSw => by obtain ⟨s1, s2, s3, s4⟩ := hSw; go_simp <;> rfl⟩) (by simp only [Act.put, List.getElem_toArray, List.getElem_cons_zero, List.getElem_cons_succ, List.setIfInBounds_toArray, List.set_cons_zero, List.set_cons_succ]; rfl) ?_
    refine Ph.last (i := 5) (by kernel_rfl) rfl rfl (fun K hK => ?_)
    go_simp
    refine (HL.out.2.1 Y3.drew (A3.pile.same (fun _ _ => rfl))).mono ?_
    rintro e w3 ⟨rfl, hG⟩
    go_simp
    obtain ⟨l2, A2', cap2, tb2, hP2, hH2, hp2, hO2, hF2⟩ := (A3.same (W' := Y3.drew) (fun _ _ => rfl)).grown O3.drew O3.drew.size hG
    refine hK.out _ _ ?_
    clear hK K hG hS6
    refine Ph.done (by kernel_rfl) ?_ _
    have v0 := tb2.cell 0
    have v1 := tb2.cell 1
    have v2 := hP2.blk.cell 0
    have hl2 : l2.length = l.length + 1 := by rw [hp2.length_eq]; rfl
    have u2 : decide (k < l2.length) = false := decide_eq_false (by have := HC.out.2.2.2.2.1; omega)
    have HZ := Lib.hid (And.intro tb2 (And.intro hP2 (And.intro hH2 (And.intro hp2 (And.intro hO2 hF2)))))
    clear tb2 hP2 hH2 hp2 hO2 hF2 hl2 A3 O3 t1 b0 b1 b2
    go_upto_region 7 with fail
    have hS7 : (fun X : World => X.cell? ⟨tb, 0, none⟩ = some (.int .i64 (k : Nat)) ∧ X.cell? ⟨tb, 1, none⟩ = some (.pointer (some ⟨b, 0, none⟩)) ∧ X.cell? ⟨b, 0, none⟩ = some (.slice A2' l2.length cap2)) w3.drew := ⟨v0, v1, v2⟩
    refine Ph.region (fun X : World => X.cell? ⟨tb, 0, none⟩ = some (.int .i64 (k : Nat)) ∧ X.cell? ⟨tb, 1, none⟩ = some (.pointer (some ⟨b, 0, none⟩)) ∧ X.cell? ⟨b, 0, none⟩ = some (.slice A2' l2.length cap2)) (fun _ => false) (by kernel_rfl) hS7 ?_
    --PH 0 1 2 3 4 5 6 7 8 9 10 11 12; ⟨s1, s2, s3⟩; hS7
    refine Ph.get (i := 0) (v := _) (a' := _) rfl (by kernel_rfl) (by kernel_rfl) (by kernel_rfl) (by kernel_rfl) (fun _ _ _ h => h) hS7 (Or.inl ⟨by rfl, fun ww hSw => by obtain ⟨s1, s2, s3⟩ := hSw; go_simp <;> rfl⟩) (by simp only [Act.put, List.getElem_toArray, List.getElem_cons_zero, List.getElem_cons_succ, List.setIfInBounds_toArray, List.set_cons_zero, List.set_cons_succ]; rfl) ?_
    refine Ph.get (i := 1) (v := _) (a' := _) rfl (by kernel_rfl) (by kernel_rfl) (by kernel_rfl) (by kernel_rfl) (fun _ _ _ h => h) hS7 (Or.inl ⟨by rfl, fun ww hSw => by obtain ⟨s1, s2, s3⟩ := hSw; go_simp <;> rfl⟩) (by simp only [Act.put, List.getElem_toArray, List.getElem_cons_zero, List.getElem_cons_succ, List.setIfInBounds_toArray, List.set_cons_zero, List.set_cons_succ]; rfl) ?_
    refine Ph.get (i := 2) (v := _) (a' := _) rfl (by kernel_rfl) (by kernel_rfl) (by kernel_rfl) (by kernel_rfl) (fun _ _ _ h => h) hS7 (Or.inl ⟨by rfl, fun ww hSw => by obtain ⟨s1, s2, s3⟩ := hSw; go_simp <;> rfl⟩) (by simp only [Act.put, List.getElem_toArray, List.getElem_cons_zero, List.getElem_cons_succ, List.setIfInBounds_toArray, List.set_cons_zero, List.set_cons_succ]; rfl) ?_
    refine Ph.get (i := 3) (v := _) (a' := _) rfl (by kernel_rfl) (by kernel_rfl) (by kernel_rfl) (by kernel_rfl) (fun _ _ _ h => h) hS7 (Or.inl ⟨by rfl, fun ww hSw => by obtain ⟨s1, s2, s3⟩ := hSw; go_simp <;> rfl⟩) (by simp only [Act.put, List.getElem_toArray, List.getElem_cons_zero, List.getElem_cons_succ, List.setIfInBounds_toArray, List.set_cons_zero, List.set_cons_succ]; rfl) ?_
    refine Ph.get (i := 4) (v := _) (a' := _) rfl (by kernel_rfl) (by kernel_rfl) (by kernel_rfl) (by kernel_rfl) (fun _ _ _ h => h) hS7 (Or.inl ⟨by rfl, fun ww hSw => by obtain ⟨s1, s2, s3⟩ := hSw; go_simp <;> rfl⟩) (by simp only [Act.put, List.getElem_toArray, List.getElem_cons_zero, List.getElem_cons_succ, List.setIfInBounds_toArray, List.set_cons_zero, List.set_cons_succ]; rfl) ?_
    refine Ph.get (i := 5) (v := _) (a' := _) rfl (by kernel_rfl) (by kernel_rfl) (by kernel_rfl) (by kernel_rfl) (fun _ _ _ h => h) hS7 (Or.inl ⟨by rfl, fun ww hSw => by obtain ⟨s1, s2, s3⟩ := hSw; go_simp <;> rfl⟩) (by simp only [Act.put, List.getElem_toArray, List.getElem_cons_zero, List.getElem_cons_succ, List.setIfInBounds_toArray, List.set_cons_zero, List.set_cons_succ]; rfl) ?_
    refine Ph.get (i := 6) (v := _) (a' := _) rfl (by kernel_rfl) (by kernel_rfl) (by kernel_rfl) (by kernel_rfl) (fun _ _ _ h => h) hS7 (Or.inl ⟨by rfl, fun ww hSw => by obtain ⟨s1, s2, s3⟩ := hSw; go_simp <;> rfl⟩) (by simp only [Act.put, List.getElem_toArray, List.getElem_cons_zero, List.getElem_cons_succ, List.setIfInBounds_toArray, List.set_cons_zero, List.set_cons_succ]; rfl) ?_
    refine Ph.get (i := 7) (v := _) (a' := _) rfl (by kernel_rfl) (by kernel_rfl) (by kernel_rfl) (by kernel_rfl) (fun _ _ _ h => h) hS7 (Or.inl ⟨by rfl, fun ww hSw => by obtain ⟨s1, s2, s3⟩ := hSw; go_simp <;> rfl⟩) (by simp only [Act.put, List.getElem_toArray, List.getElem_cons_zero, List.getElem_cons_succ, List.setIfInBounds_toArray, List.set_cons_zero, List.set_cons_succ]; rfl) ?_
    refine Ph.get (i := 8) (v := _) (a' := _) rfl (by kernel_rfl) (by kernel_rfl) (by kernel_rfl) (by kernel_rfl) (fun _ _ _ h => h) hS7 (Or.inl ⟨by rfl, fun ww hSw => by obtain ⟨s1, s2, s3⟩ := hSw; go_simp <;> rfl⟩) (by simp only [Act.put, List.getElem_toArray, List.getElem_cons_zero, List.getElem_cons_succ, List.setIfInBounds_toArray, List.set_cons_zero, List.set_cons_succ]; rfl) ?_
    refine Ph.get (i := 9) (v := _) (a' := _) rfl (by kernel_rfl) (by kernel_rfl) (by kernel_rfl) (by kernel_rfl) (fun _ _ _ h => h) hS7 (Or.inl ⟨by rfl, fun ww hSw => by obtain ⟨s1, s2, s3⟩ := hSw; go_simp <;> rfl⟩) (by simp only [Act.put, List.getElem_toArray, List.getElem_cons_zero, List.getElem_cons_succ, List.setIfInBounds_toArray, List.set_cons_zero, List.set_cons_succ]; rfl) ?_
    refine Ph.get (i := 10) (v := _) (a' := _) rfl (by kernel_rfl) (by kernel_rfl) (by kernel_rfl) (by kernel_rfl) (fun _ _ _ h => h) hS7 (Or.inl ⟨by rfl, fun ww hSw => by obtain ⟨s1, s2, s3⟩ := hSw; go_simp <;> rfl⟩) (by simp only [Act.put, List.getElem_toArray, List.getElem_cons_zero, List.getElem_cons_succ, List.setIfInBounds_toArray, List.set_cons_zero, List.set_cons_succ]; rfl) ?_
    refine Ph.get (i := 11) (v := _) (a' := _) rfl (by kernel_rfl) (by kernel_rfl) (by kernel_rfl) (by kernel_rfl) (fun _ _ _ h => h) hS7 (Or.inl ⟨by rfl, fun ww hSw => by obtain ⟨s1, s2, s3⟩ := hSw; go_simp <;> rfl⟩) (by simp only [Act.put, List.getElem_toArray, List.getElem_cons_zero, List.getElem_cons_succ, List.setIfInBounds_toArray, List.set_cons_zero, List.set_cons_succ]; rfl) ?_
    refine Ph.get (i := 12) (v := _) (a' := _) rfl (by kernel_rfl) (by kernel_rfl) (by kernel_rfl) (by kernel_rfl) (fun _ _ _ h => h) hS7 (Or.inl ⟨by rfl, fun ww hSw => by obtain ⟨s1, s2, s3⟩ := hSw; go_simp <;> rfl⟩) (by simp only [Act.put, List.getElem_toArray, List.getElem_cons_zero, List.getElem_cons_succ, List.setIfInBounds_toArray, List.set_cons_zero, List.set_cons_succ]; rfl) ?_
    refine Ph.done (by kernel_rfl) ?_ _
    go_wp2_with fail
    go_ret
    obtain ⟨z1, z2, z3, z4, z5, z6⟩ := HZ.out
    obtain ⟨_, _, _, _, y5, y6, y7⟩ := HC.out
    rw [y7] at z4
    have T9 : Hp.TopX w3 tb k (xx :: AA) b (c + 1) l2 A2' cap2 mb := ⟨z1, z2, Nat.succ_le_succ y6.cnt, z3, (y6.first.room xx (by omega)).perm z4⟩
    exact ⟨⟨_, rfl⟩, _, ⟨b, c + 1, l2, A2', cap2, mb, T9.same (fun _ _ => rfl), rfl⟩, z5.trans (.of (Below.refl _ _).drew), z6⟩
end Go.Proofs.YtlfeibaghfcpaaaDoor
