/- The k nearest where there are no codes. Conditions: each theorem's own hypotheses. -/
import Derived.Test.YtlfeibaghfcpaaaDoorPgC
import Derived.Laws.EntriesVeiled
namespace Go.Proofs.YtlfeibaghfcpaaaDoor
open Go.RowKit Go.Maps Go.Shelf
set_option linter.unusedVariables false
set_option linter.unusedSimpArgs false

theorem Pg.blk_later {w w' : World} {g : Nat} {t : TypeId} {cs : Array Value} (h : Blk w g t cs) (hb : Below w.heap.size w w') : Blk w' g t cs := (hb.block _ h.lt).trans h
theorem Pg.topK1_any (W : World) : Calls Tryd.prog 11 #[] W fun e W' => e = .returned (.int .i64 0) ∧ W = W' := by
  go_enter Tryd.func11, Tryd.ntmps11
  go_wp2_with fail
  go_ret
  exact ⟨rfl, rfl⟩
set_option maxRecDepth 100000 in
set_option maxHeartbeats 8000000 in
theorem Pg.top0_any (w m k : Nat) (f1 f2 : Fn) (a1 a2 b1 b2 : Array Value) (ef : Fn) (ea eb : Array Value) (q : ByteArray) (W : World) (hw : 64 ≤ w ∧ w ≤ 1024) (hm : 1 ≤ m ∧ m ≤ 128) (he : Bt.err w m = 0) (hmw : w / 32 ≤ m) (hc : 8 * q.size = w) (hk : 1 ≤ k) (hk2 : k ≤ 4096) :
    Calls Tryd.prog 10 #[.agg #[.int .i64 (w : Nat), .int .i64 (m : Nat), .int .i64 0, .func f1 a1 b1, .func f2 a2 b2], .string q, .int .i64 (k : Nat), .func (.func 11) #[] #[], .func ef ea eb] W fun e W' => ∃ A cap, e = .returned (.tuple #[.slice A 0 cap, .agg #[.int .i64 0, .int .i64 0, .int .i64 0, .int .i64 0], .int .i64 0]) ∧ Below W.heap.size W W' := by
  have h1 : Blk (((W.alloc (.cells #[.int .i64 (w : Nat), .int .i64 (m : Nat), .int .i64 0, .func f1 a1 b1, .func f2 a2 b2] 25)).alloc (.cells #[.func ef ea eb] 42)).alloc (.cells #[.int .i64 0, .int .i64 0, .int .i64 0, .int .i64 0] 28)) W.heap.size 25 #[.int .i64 (w : Nat), .int .i64 (m : Nat), .int .i64 0, .func f1 a1 b1, .func f2 a2 b2] := ((Blk.new W _ _).alloc _).alloc _
  have h3 : Blk (((W.alloc (.cells #[.int .i64 (w : Nat), .int .i64 (m : Nat), .int .i64 0, .func f1 a1 b1, .func f2 a2 b2] 25)).alloc (.cells #[.func ef ea eb] 42)).alloc (.cells #[.int .i64 0, .int .i64 0, .int .i64 0, .int .i64 0] 28)) (W.heap.size + 1 + 1) 28 #[.int .i64 0, .int .i64 0, .int .i64 0, .int .i64 0] := by
    have := Blk.new ((W.alloc (.cells #[.int .i64 (w : Nat), .int .i64 (m : Nat), .int .i64 0, .func f1 a1 b1, .func f2 a2 b2] 25)).alloc (.cells #[.func ef ea eb] 42)) 28 #[.int .i64 0, .int .i64 0, .int .i64 0, .int .i64 0]
    rwa [World.size_alloc, World.size_alloc] at this
  have B1 : Below W.heap.size W (((W.alloc (.cells #[.int .i64 (w : Nat), .int .i64 (m : Nat), .int .i64 0, .func f1 a1 b1, .func f2 a2 b2] 25)).alloc (.cells #[.func ef ea eb] 42)).alloc (.cells #[.int .i64 0, .int .i64 0, .int .i64 0, .int .i64 0] 28)) := (((Below.refl _ W).alloc (Nat.le_refl _) _).alloc (by simp) _).alloc (by simp; omega) _
  have hb := Pg.begin_any w m 0 f1 f2 a1 a2 b1 b2 q (((W.alloc (.cells #[.int .i64 (w : Nat), .int .i64 (m : Nat), .int .i64 0, .func f1 a1 b1, .func f2 a2 b2] 25)).alloc (.cells #[.func ef ea eb] 42)).alloc (.cells #[.int .i64 0, .int .i64 0, .int .i64 0, .int .i64 0] 28)) hw hm he hmw hc (Int.le_refl 0)
  have HB := Lib.hid (And.intro hb (And.intro h3 B1))
  have k0 := h1.cell 0
  have k1 := h1.cell 1
  have k2 := h1.cell 2
  have k3 := h1.cell 3
  have k4 := h1.cell 4
  have hm1 := hm.1
  have hbits : (0 : Int) ≤ (Bt.bits w m 0 : Nat) := by omega
  have hu0 : Bt.upto w m m = Bt.ck w m 0 :: (Bt.upto w m m).tail := by
    obtain ⟨m', rfl⟩ : ∃ m', m = m' + 1 := ⟨m - 1, by omega⟩
    unfold Bt.upto
    rw [List.range_succ_eq_map]
    rfl
  have HU := Lib.hid (And.intro hu0 hbits)
  clear hb h1 h3 B1 hw hm he hmw hc hu0 hbits
  go_enter Tryd.func10, Tryd.ntmps10
  go_upto_region 4 with (go_at_call 14; refine HB.out.1.mono ?_; rintro e w1 ⟨sb, rfl, hBg, hb1⟩)
  have h4 : Blk w1 (W.heap.size + 1 + 1) 28 #[.int .i64 0, .int .i64 0, .int .i64 0, .int .i64 0] := (hb1.block _ HB.out.2.1.lt).trans HB.out.2.1
  have B2 := HB.out.2.2.trans (hb1.mono HB.out.2.2.size)
  obtain ⟨g1, c1, g2, c2, mb, hsb, hr1, hr2, hmp, hs1, hs2, hs3⟩ := hBg
  have hX : (((W.alloc (.cells #[.int .i64 (w : Nat), .int .i64 (m : Nat), .int .i64 0, .func f1 a1 b1, .func f2 a2 b2] 25)).alloc (.cells #[.func ef ea eb] 42)).alloc (.cells #[.int .i64 0, .int .i64 0, .int .i64 0, .int .i64 0] 28)).heap.size = W.heap.size + 3 := by simp
  rw [hX] at hr1 hr2 hs1 hs2
  have HW := Lib.hid (And.intro hsb (And.intro hr1 (And.intro hmp (And.intro hs1 (And.intro hs2 (And.intro h4 (And.intro B2 hs3)))))))
  have hnt := Hp.newTop_any k hk2 w1
  clear k0 k1 k2 k3 k4 hb1 h4 B2 hsb hr1 hr2 hmp hs1 hs2 hs3 hX
  go_upto_region 6 with (go_at_call 23; refine hnt.mono ?_; clear hnt; rintro e w2 ⟨tb, rfl, ⟨F, hT, hF⟩, hb2⟩)
  obtain ⟨hsb, hr1, hmp, hs1, hs2, h4, B2, hs3⟩ := HW.out
  have B3 := B2.trans (hb2.mono B2.size)
  have hsb3 : Blk (w2.alloc (.cells #[.pointer (some ⟨tb, 0, none⟩)] 39)) sb 56 #[.int .i64 (w : Nat), .int .i64 (m : Nat), .int .i64 0, .func f1 a1 b1, .func f2 a2 b2, .string q, .slice (some ⟨g1, 0, none⟩) m c1, .slice (some ⟨g2, 0, none⟩) m c2, .map (some mb), .int .i64 0, .int .i64 0, .int .i64 0, .int .i64 0, .nilFunc] := (Pg.blk_later hsb hb2).alloc _
  have h4' : Blk (w2.alloc (.cells #[.pointer (some ⟨tb, 0, none⟩)] 39)) (W.heap.size + 1 + 1) 28 #[.int .i64 0, .int .i64 0, .int .i64 0, .int .i64 0] := (Pg.blk_later h4 hb2).alloc _
  have ht15 : Blk (w2.alloc (.cells #[.pointer (some ⟨tb, 0, none⟩)] 39)) w2.heap.size 39 #[.pointer (some ⟨tb, 0, none⟩)] := Blk.new w2 _ _
  have hr3 := (Hp.row_later hr1 hb2).alloc (.cells #[.pointer (some ⟨tb, 0, none⟩)] 39)
  have hmp3 : (w2.alloc (.cells #[.pointer (some ⟨tb, 0, none⟩)] 39)).ownsMap Tryd.prog 9 (unitElem (H := Unit)) mb 0 (.map []) := by
    obtain ⟨es, clock, hb, r⟩ := hmp
    exact (show w2.ownsMap Tryd.prog 9 (unitElem (H := Unit)) mb 0 (.map []) from ⟨es, clock, (hb2.block _ (Array.getElem?_eq_some_iff.1 hb).1).trans hb, r⟩).alloc _
  have hT3 : Hp.Top (w2.alloc (.cells #[.pointer (some ⟨tb, 0, none⟩)] 39)) tb k [] F := hT.same (fun x hx => Below.heap_alloc _ _ _ (hT.lt hx))
  have B4 : Below W.heap.size W (w2.alloc (.cells #[.pointer (some ⟨tb, 0, none⟩)] 39)) := B3.alloc B3.size _
  have hFn : ∀ x, F x → x ≠ sb ∧ x ≠ W.heap.size + 1 + 1 ∧ x ≠ w2.heap.size := fun x hx => ⟨fun e => by have := hF x hx; have := hsb.lt; omega, fun e => by have := hF x hx; have := h4.lt; omega, fun e => by have := hT.lt hx; omega⟩
  have hsn : sb ≠ W.heap.size + 1 + 1 ∧ sb ≠ w2.heap.size ∧ W.heap.size + 1 + 1 ≠ w2.heap.size := ⟨by omega, by have := (Pg.blk_later hsb hb2).lt; omega, by have := (Pg.blk_later h4 hb2).lt; omega⟩
  have hs15 : W.heap.size ≤ w2.heap.size := B3.size
  generalize w2.heap.size = t15 at ht15 hFn hsn hs15 ⊢
  generalize w2.alloc (.cells #[.pointer (some ⟨tb, 0, none⟩)] 39) = Y at hsb3 h4' ht15 hr3 hmp3 hT3 B4 ⊢
  clear hsb hr1 hmp hT hF hb2 B3 HW h4 B2
  have f13 := hsb3.frozen 13
  have u1 : ((k : Int) == 0) = false := by rw [beq_eq_false_iff_ne]; omega
  have j13 := hsb3.cell 13
  have hB5 : Blk (Y.setCell ⟨sb, 13, none⟩ (.func (.func 24) #[] #[.pointer (some ⟨t15, 0, none⟩)])) sb 56 #[.int .i64 (w : Nat), .int .i64 (m : Nat), .int .i64 0, .func f1 a1 b1, .func f2 a2 b2, .string q, .slice (some ⟨g1, 0, none⟩) m c1, .slice (some ⟨g2, 0, none⟩) m c2, .map (some mb), .int .i64 0, .int .i64 0, .int .i64 0, .int .i64 0, .func (.func 24) #[] #[.pointer (some ⟨t15, 0, none⟩)]] := hsb3.set_ 13 _
  have hch0 : (Y.setCell ⟨sb, 13, none⟩ (.func (.func 24) #[] #[.pointer (some ⟨t15, 0, none⟩)])).cell? ⟨g1, 1, none⟩ = some (.int .i64 (Bt.bits w m 0 : Nat)) := by
    have hne : (⟨sb, 13, none⟩ : Addr).block ≠ (⟨g1, 1, none⟩ : Addr).block := fun e => by
      rcases hr3.2 with ⟨e2, _⟩ | ⟨g, cap, cur, e2, _, hg, _⟩
      · cases e2
      · injection e2 with e3
        injection e3 with e3
        injection e3 with e3
        have e : sb = g1 := e
        rw [e, e3] at hsb3
        have := (show Y.heap[g]? = _ from hsb3).symm.trans hg
        simp at this
    rw [World.cell?_setCell_far _ _ _ _ hne, hr3.cellAt 1 (by omega), HU.out.1]
    unfold Bt.cells
    rfl
  have hmp5 : (Y.setCell ⟨sb, 13, none⟩ (.func (.func 24) #[] #[.pointer (some ⟨t15, 0, none⟩)])).ownsMap Tryd.prog 9 (unitElem (H := Unit)) mb 0 (.map []) := hmp3.setCell (a := ⟨sb, 13, none⟩) (Ne.symm hs3) _
  have hrun := Pg.run0_any (enough := .func (.func 26) #[] #[.pointer (some ⟨W.heap.size + 1, 0, none⟩), .pointer (some ⟨t15, 0, none⟩)]) hB5 rfl rfl rfl (by omega) hch0 HU.out.2 hmp5
  have hT5 : Hp.Top (Y.setCell ⟨sb, 13, none⟩ (.func (.func 24) #[] #[.pointer (some ⟨t15, 0, none⟩)])) tb k [] F := hT3.same (fun x hx => Below.heap_setCell _ _ _ _ (hFn x hx).1)
  have h45 : Blk (Y.setCell ⟨sb, 13, none⟩ (.func (.func 24) #[] #[.pointer (some ⟨t15, 0, none⟩)])) (W.heap.size + 1 + 1) 28 #[.int .i64 0, .int .i64 0, .int .i64 0, .int .i64 0] := h4'.far (p := ⟨sb, 13, none⟩) hsn.1.symm _
  have ht5 : Blk (Y.setCell ⟨sb, 13, none⟩ (.func (.func 24) #[] #[.pointer (some ⟨t15, 0, none⟩)])) t15 39 #[.pointer (some ⟨tb, 0, none⟩)] := ht15.far (p := ⟨sb, 13, none⟩) hsn.2.1.symm _
  have B5 : Below W.heap.size W (Y.setCell ⟨sb, 13, none⟩ (.func (.func 24) #[] #[.pointer (some ⟨t15, 0, none⟩)])) := B4.setCell (p := ⟨sb, 13, none⟩) (by show W.heap.size ≤ sb; omega) _
  have HR := Lib.hid (And.intro hrun (And.intro hB5 (And.intro hT5 (And.intro h45 (And.intro ht5 B5)))))
  clear hrun hB5 hT5 h45 ht5 B5 hch0 hmp5 hmp3 hr3 hT3 h4' hsb3 B4 ht15
  go_upto_region 13 with (first | (go_at_call 11; refine (Pg.topK1_any _).mono ?_; rintro e w' ⟨rfl, rfl⟩) | (go_at_call 18; refine HR.out.1.mono ?_; rintro e w5 ⟨rfl, n5, rfl⟩))
  obtain ⟨_, hB5, hT5, h45, ht5, B5⟩ := HR.out
  have hT6 : Hp.Top ((Y.setCell ⟨sb, 13, none⟩ (.func (.func 24) #[] #[.pointer (some ⟨t15, 0, none⟩)])).drewN n5) tb k [] F := hT5.same (fun _ _ => rfl)
  have hB6 : Blk ((Y.setCell ⟨sb, 13, none⟩ (.func (.func 24) #[] #[.pointer (some ⟨t15, 0, none⟩)])).drewN n5) sb 56 #[.int .i64 (w : Nat), .int .i64 (m : Nat), .int .i64 0, .func f1 a1 b1, .func f2 a2 b2, .string q, .slice (some ⟨g1, 0, none⟩) m c1, .slice (some ⟨g2, 0, none⟩) m c2, .map (some mb), .int .i64 0, .int .i64 0, .int .i64 0, .int .i64 0, .func (.func 24) #[] #[.pointer (some ⟨t15, 0, none⟩)]] := hB5
  have h46 : Blk ((Y.setCell ⟨sb, 13, none⟩ (.func (.func 24) #[] #[.pointer (some ⟨t15, 0, none⟩)])).drewN n5) (W.heap.size + 1 + 1) 28 #[.int .i64 0, .int .i64 0, .int .i64 0, .int .i64 0] := h45
  have ht6 : Blk ((Y.setCell ⟨sb, 13, none⟩ (.func (.func 24) #[] #[.pointer (some ⟨t15, 0, none⟩)])).drewN n5) t15 39 #[.pointer (some ⟨tb, 0, none⟩)] := ht5
  have B6 : Below W.heap.size W ((Y.setCell ⟨sb, 13, none⟩ (.func (.func 24) #[] #[.pointer (some ⟨t15, 0, none⟩)])).drewN n5) := below_dn B5 n5
  generalize ((Y.setCell ⟨sb, 13, none⟩ (.func (.func 24) #[] #[.pointer (some ⟨t15, 0, none⟩)])).drewN n5) = Z at hT6 hB6 h46 ht6 B6 ⊢
  clear hB5 hT5 h45 ht5 B5 HR f13 j13
  have hS : (fun X : World => X.cell? ⟨t15, 0, none⟩ = some (.pointer (some ⟨tb, 0, none⟩)) ∧ X.cell? ⟨sb, 9, none⟩ = some (.int .i64 0) ∧ X.cell? ⟨sb, 10, none⟩ = some (.int .i64 0) ∧ X.cell? ⟨sb, 11, none⟩ = some (.int .i64 0) ∧ X.cell? ⟨sb, 12, none⟩ = some (.int .i64 0)) Z.drew := ⟨ht6.cell 0, hB6.cell 9, hB6.cell 10, hB6.cell 11, hB6.cell 12⟩
  have hlist := Hp.topList_any (W := Z.drew) (F := []) (hT6.same (fun _ _ => rfl)) hk2 List.nodup_nil (List.Perm.refl _) List.Pairwise.nil
  refine Ph.region (fun X : World => X.cell? ⟨t15, 0, none⟩ = some (.pointer (some ⟨tb, 0, none⟩)) ∧ X.cell? ⟨sb, 9, none⟩ = some (.int .i64 0) ∧ X.cell? ⟨sb, 10, none⟩ = some (.int .i64 0) ∧ X.cell? ⟨sb, 11, none⟩ = some (.int .i64 0) ∧ X.cell? ⟨sb, 12, none⟩ = some (.int .i64 0)) (fun i => i == 7) (by kernel_rfl) hS ?_
  --PH 0 2 3 4 5; ⟨s1, s2, s3, s4, s5⟩; hS
  refine Ph.get (i := 0) (v := _) (a' := _) rfl (by kernel_rfl) (by kernel_rfl) (by kernel_rfl) (by kernel_rfl) (fun _ _ _ h => h) hS (Or.inl ⟨by rfl, fun ww hSw => by obtain ⟨s1, s2, s3, s4, s5⟩ := hSw; go_simp <;> rfl⟩) (by simp only [Act.put, List.getElem_toArray, List.getElem_cons_zero, List.getElem_cons_succ, List.setIfInBounds_toArray, List.set_cons_zero, List.set_cons_succ]; rfl) ?_
  refine Ph.get (i := 2) (v := _) (a' := _) rfl (by kernel_rfl) (by kernel_rfl) (by kernel_rfl) (by kernel_rfl) (fun _ _ _ h => h) hS (Or.inl ⟨by rfl, fun ww hSw => by obtain ⟨s1, s2, s3, s4, s5⟩ := hSw; go_simp <;> rfl⟩) (by simp only [Act.put, List.getElem_toArray, List.getElem_cons_zero, List.getElem_cons_succ, List.setIfInBounds_toArray, List.set_cons_zero, List.set_cons_succ]; rfl) ?_
  refine Ph.get (i := 3) (v := _) (a' := _) rfl (by kernel_rfl) (by kernel_rfl) (by kernel_rfl) (by kernel_rfl) (fun _ _ _ h => h) hS (Or.inl ⟨by rfl, fun ww hSw => by obtain ⟨s1, s2, s3, s4, s5⟩ := hSw; go_simp <;> rfl⟩) (by simp only [Act.put, List.getElem_toArray, List.getElem_cons_zero, List.getElem_cons_succ, List.setIfInBounds_toArray, List.set_cons_zero, List.set_cons_succ]; rfl) ?_
  refine Ph.get (i := 4) (v := _) (a' := _) rfl (by kernel_rfl) (by kernel_rfl) (by kernel_rfl) (by kernel_rfl) (fun _ _ _ h => h) hS (Or.inl ⟨by rfl, fun ww hSw => by obtain ⟨s1, s2, s3, s4, s5⟩ := hSw; go_simp <;> rfl⟩) (by simp only [Act.put, List.getElem_toArray, List.getElem_cons_zero, List.getElem_cons_succ, List.setIfInBounds_toArray, List.set_cons_zero, List.set_cons_succ]; rfl) ?_
  refine Ph.get (i := 5) (v := _) (a' := _) rfl (by kernel_rfl) (by kernel_rfl) (by kernel_rfl) (by kernel_rfl) (fun _ _ _ h => h) hS (Or.inl ⟨by rfl, fun ww hSw => by obtain ⟨s1, s2, s3, s4, s5⟩ := hSw; go_simp <;> rfl⟩) (by simp only [Act.put, List.getElem_toArray, List.getElem_cons_zero, List.getElem_cons_succ, List.setIfInBounds_toArray, List.set_cons_zero, List.set_cons_succ]; rfl) ?_
  refine Ph.one (i := 1) (by kernel_rfl) rfl (fun K hK => ?_)
  go_simp
  refine hlist.mono ?_
  rintro e w7 ⟨v7, rfl, hr7, hb7⟩
  go_simp
  have hb8 : Below Z.heap.size Z w7 := (Below.refl _ Z).drew.trans hb7
  have hB7 := Pg.blk_later hB6 hb8
  have h47 := Pg.blk_later h46 hb8
  have ht7 := Pg.blk_later ht6 hb8
  have B7 := B6.trans (hb8.mono B6.size)
  obtain ⟨A7, cap7, rfl⟩ : ∃ A cap, v7 = .slice A 0 cap := by
    rcases hr7.2 with ⟨rfl, _⟩ | ⟨g, cap, cur, rfl, _⟩
    · exact ⟨_, _, rfl⟩
    · exact ⟨some ⟨g, 0, none⟩, cap, by simp⟩
  refine hK.out _ _ ⟨ht7.cell 0, hB7.cell 9, hB7.cell 10, hB7.cell 11, hB7.cell 12⟩ (fun _ => ?_)
  clear hK K hS hlist
  --PP 6
  refine Ph.pure (i := 6) (v := _) (a' := _) rfl (by kernel_rfl) (by kernel_rfl) (by kernel_rfl) (fun _ _ _ h => h) (Or.inl ⟨by rfl, fun ww _ => by go_simp <;> rfl⟩) (by simp only [Act.put, List.getElem_toArray, List.getElem_cons_zero, List.getElem_cons_succ, List.setIfInBounds_toArray, List.set_cons_zero, List.set_cons_succ]; rfl) ?_
  have f0 := h47.frozen 0
  have f1' := h47.frozen 1
  have f2' := h47.frozen 2
  have f3 := h47.frozen 3
  have j0 := h47.cell 0
  have j1 := h47.cell 1
  have j2 := h47.cell 2
  have j3 := h47.cell 3
  have HZ := Lib.hid (And.intro (Pg.set4 h47) (Pg.below4 B7 (b := W.heap.size + 1 + 1) (by omega) (.int .i64 0) (.int .i64 0) (.int .i64 0) (.int .i64 0)))
  refine Ph.last (i := 7) (by kernel_rfl) rfl rfl (fun K hK => ?_)
  go_simp
  refine hK.out _ _ ?_
  clear hK K
  --PP 8
  refine Ph.pure (i := 8) (v := _) (a' := _) rfl (by kernel_rfl) (by kernel_rfl) (by kernel_rfl) (fun _ _ _ h => h) (Or.inl ⟨by rfl, fun ww _ => by go_simp <;> rfl⟩) (by simp only [Act.put, List.getElem_toArray, List.getElem_cons_zero, List.getElem_cons_succ, List.setIfInBounds_toArray, List.set_cons_zero, List.set_cons_succ]; rfl) ?_
  refine Ph.done (by kernel_rfl) ?_ _
  have i0 := HZ.out.1.cell 0
  have i1 := HZ.out.1.cell 1
  have i2 := HZ.out.1.cell 2
  have i3 := HZ.out.1.cell 3
  clear hr7 hb7 hb8 hB7 h47 ht7 B7 hT6 hB6 h46 ht6 B6 hFn hsn
  go_wp2_with fail
  exact bodyPost_ret (v := .tuple #[.slice A7 0 cap7, .agg #[.int .i64 0, .int .i64 0, .int .i64 0, .int .i64 0], .int .i64 0]) (by simp [results, Tryd.results10, go_sem, i0, i1, i2, i3]) rfl ⟨A7, cap7, rfl, HZ.out.2⟩
set_option maxHeartbeats 2000000 in
theorem Pg.topK0_any (w m k : Nat) (f1 f2 : Fn) (a1 a2 b1 b2 : Array Value) (q : ByteArray) (W : World) (hw : 64 ≤ w ∧ w ≤ 1024) (hm : 1 ≤ m ∧ m ≤ 128) (he : Bt.err w m = 0) (hmw : w / 32 ≤ m) (hc : 8 * q.size = w) (hk : 1 ≤ k) (hk2 : k ≤ 4096) :
    Calls Tryd.prog 6 #[.agg #[.int .i64 (w : Nat), .int .i64 (m : Nat), .int .i64 0, .func f1 a1 b1, .func f2 a2 b2], .string q, .int .i64 (k : Nat)] W fun e W' => ∃ A cap, e = .returned (.tuple #[.slice A 0 cap, .agg #[.int .i64 0, .int .i64 0, .int .i64 0, .int .i64 0], .int .i64 0]) ∧ Below W.heap.size W W' := by
  have h1 : Blk ((W.alloc (.cells #[.int .i64 (w : Nat), .int .i64 (m : Nat), .int .i64 0, .func f1 a1 b1, .func f2 a2 b2] 25)).alloc (.cells #[.int .i64 0, .int .i64 0, .int .i64 0, .int .i64 0] 28)) W.heap.size 25 #[.int .i64 (w : Nat), .int .i64 (m : Nat), .int .i64 0, .func f1 a1 b1, .func f2 a2 b2] := (Blk.new W _ _).alloc _
  have h3 : Blk ((W.alloc (.cells #[.int .i64 (w : Nat), .int .i64 (m : Nat), .int .i64 0, .func f1 a1 b1, .func f2 a2 b2] 25)).alloc (.cells #[.int .i64 0, .int .i64 0, .int .i64 0, .int .i64 0] 28)) (W.heap.size + 1) 28 #[.int .i64 0, .int .i64 0, .int .i64 0, .int .i64 0] := by
    have := Blk.new (W.alloc (.cells #[.int .i64 (w : Nat), .int .i64 (m : Nat), .int .i64 0, .func f1 a1 b1, .func f2 a2 b2] 25)) 28 #[.int .i64 0, .int .i64 0, .int .i64 0, .int .i64 0]
    rwa [World.size_alloc] at this
  have B1 : Below W.heap.size W ((W.alloc (.cells #[.int .i64 (w : Nat), .int .i64 (m : Nat), .int .i64 0, .func f1 a1 b1, .func f2 a2 b2] 25)).alloc (.cells #[.int .i64 0, .int .i64 0, .int .i64 0, .int .i64 0] 28)) := ((Below.refl _ W).alloc (Nat.le_refl _) _).alloc (by simp) _
  have ht := Pg.top0_any w m k f1 f2 a1 a2 b1 b2 (.func 12) #[] #[.pointer (some ⟨W.heap.size, 0, none⟩)] q ((W.alloc (.cells #[.int .i64 (w : Nat), .int .i64 (m : Nat), .int .i64 0, .func f1 a1 b1, .func f2 a2 b2] 25)).alloc (.cells #[.int .i64 0, .int .i64 0, .int .i64 0, .int .i64 0] 28)) hw hm he hmw hc hk hk2
  have HB := Lib.hid (And.intro ht (And.intro h3 B1))
  have k0 := h1.cell 0
  have k1 := h1.cell 1
  have k2 := h1.cell 2
  have k3 := h1.cell 3
  have k4 := h1.cell 4
  clear h1 h3 B1 ht hw hm he hmw hc hk hk2
  go_enter Tryd.func6, Tryd.ntmps6
  go_wp2_with (go_at_call 10; refine HB.out.1.mono ?_; rintro e w1 ⟨A, cap, rfl, hb1⟩; have h4 : Blk w1 (W.heap.size + 1) 28 #[.int .i64 0, .int .i64 0, .int .i64 0, .int .i64 0] := (hb1.block _ HB.out.2.1.lt).trans HB.out.2.1; have B2 := HB.out.2.2.trans (hb1.mono HB.out.2.2.size); have f0 := h4.frozen 0; have f1 := h4.frozen 1; have f2 := h4.frozen 2; have f3 := h4.frozen 3; have j0 := h4.cell 0; have j1 := h4.cell 1; have j2 := h4.cell 2; have j3 := h4.cell 3; have HZ := Lib.hid (And.intro (Pg.set4 h4) (Pg.below4 B2 (b := W.heap.size + 1) (by omega) (.int .i64 0) (.int .i64 0) (.int .i64 0) (.int .i64 0))); clear k0 k1 k2 k3 k4 hb1 h4 B2)
  have i0 := HZ.out.1.cell 0
  have i1 := HZ.out.1.cell 1
  have i2 := HZ.out.1.cell 2
  have i3 := HZ.out.1.cell 3
  exact bodyPost_ret (v := .tuple #[.slice A 0 cap, .agg #[.int .i64 0, .int .i64 0, .int .i64 0, .int .i64 0], .int .i64 0]) (by simp [results, Tryd.results6, go_sem, i0, i1, i2, i3]) rfl ⟨A, cap, rfl, HZ.out.2⟩
end Go.Proofs.YtlfeibaghfcpaaaDoor
