/- Contract of probe.begin; run and the searches where there are no codes. Conditions: each theorem's own hypotheses. -/
import Derived.Test.YtlfeibaghfcpaaaDoorBtF
import Derived.Test.YtlfeibaghfcpaaaDoorHpL
namespace Go.Proofs.YtlfeibaghfcpaaaDoor
open Go.RowKit Go.Maps Go.Shelf
set_option linter.unusedVariables false
set_option linter.unusedSimpArgs false

theorem Pg.func_nilIn (d : Nat) (t : TypeId) (ps rs : Array TypeId) (b : Bool) (ht : Tryd.prog.underlying t = some (.func ps rs b)) (f : Fn) (x y : Array Value) (W : World) : (Op.equalIn (d + 1) t (.func f x y) .nilFunc).run Tryd.prog W = .ok false W := by
  simp [Op.equalIn, run_underlying ht]
theorem Pg.func_nil (t : TypeId) (ps rs : Array TypeId) (b : Bool) (ht : Tryd.prog.underlying t = some (.func ps rs b)) (f : Fn) (x y : Array Value) (W : World) : (binOp .eql t (.func f x y) .nilFunc).run Tryd.prog W = .ok (.bool false) W := by
  have h : (Op.equal t (.func f x y) .nilFunc).run Tryd.prog W = .ok false W := Pg.func_nilIn 9999 t ps rs b ht f x y W
  simp only [binOp]
  simp [h]
theorem Pg.nil_nilIn (d : Nat) (t : TypeId) (ps rs : Array TypeId) (b : Bool) (ht : Tryd.prog.underlying t = some (.func ps rs b)) (W : World) : (Op.equalIn (d + 1) t .nilFunc .nilFunc).run Tryd.prog W = .ok true W := by
  simp [Op.equalIn, run_underlying ht]
theorem Pg.nil_nil (t : TypeId) (ps rs : Array TypeId) (b : Bool) (ht : Tryd.prog.underlying t = some (.func ps rs b)) (W : World) : (binOp .eql t .nilFunc .nilFunc).run Tryd.prog W = .ok (.bool true) W := by
  have h : (Op.equal t .nilFunc .nilFunc).run Tryd.prog W = .ok true W := Pg.nil_nilIn 9999 t ps rs b ht W
  simp only [binOp]
  simp [h]
theorem Pg.row_low {w : World} {B B' : Nat} {e : TypeId} {k : Nat} {v : Value} {n : Nat} {xs : List Value} (h : w.ownsRow B e k v n xs) (hb : B' ≤ B) : w.ownsRow B' e k v n xs :=
  ⟨h.1, h.2.imp id fun ⟨g, cap, cur, h1, h2, h3⟩ => ⟨g, cap, cur, h1, Nat.le_trans hb h2, h3⟩⟩
/-- A search that has begun. -/
def Pg.Begun (W W' : World) (sb w m : Nat) (codes : Int) (fv fa : Value) (q : ByteArray) : Prop :=
  ∃ g1 c1 g2 c2 mb, Blk W' sb 56 #[.int .i64 (w : Nat), .int .i64 (m : Nat), .int .i64 codes, fv, fa, .string q, .slice (some ⟨g1, 0, none⟩) m c1, .slice (some ⟨g2, 0, none⟩) m c2, .map (some mb), .int .i64 0, .int .i64 0, .int .i64 0, .int .i64 0, .nilFunc] ∧
    W'.ownsRow W.heap.size 77 2 (.slice (some ⟨g1, 0, none⟩) m c1) m (Bt.cells (Bt.upto w m m)) ∧
    W'.ownsRow W.heap.size 3 1 (.slice (some ⟨g2, 0, none⟩) m c2) m (Bt.vals q.data.toList w m m) ∧
    W'.ownsMap Tryd.prog 9 (unitElem (H := Unit)) mb 0 (.map []) ∧ W.heap.size ≤ sb ∧ W.heap.size ≤ mb ∧ sb ≠ mb
set_option maxRecDepth 100000 in
set_option maxHeartbeats 4000000 in
theorem Pg.begin_any (w m : Nat) (codes : Int) (f1 f2 : Fn) (a1 a2 b1 b2 : Array Value) (q : ByteArray) (W : World) (hw : 64 ≤ w ∧ w ≤ 1024) (hm : 1 ≤ m ∧ m ≤ 128) (he : Bt.err w m = 0) (hmw : w / 32 ≤ m) (hc : 8 * q.size = w) (h0 : 0 ≤ codes) :
    Calls Tryd.prog 14 #[.agg #[.int .i64 (w : Nat), .int .i64 (m : Nat), .int .i64 codes, .func f1 a1 b1, .func f2 a2 b2], .string q] W fun e W' => ∃ sb, e = .returned (.tuple #[.pointer (some ⟨sb, 0, none⟩), .int .i64 0]) ∧ Pg.Begun W W' sb w m codes (.func f1 a1 b1) (.func f2 a2 b2) q ∧ Below W.heap.size W W' := by
  have hch := fun WW => Chunks_any w m WW hw hm he
  have hsp := fun WW => Split_any w m q WW hw hm he hmw hc
  have hmm := @run_makeMap Tryd.prog
  have hn1 := fun f x y WW => Pg.func_nil 22 _ _ _ Tryd.underlying22 f x y WW
  have hn2 := fun f x y WW => Pg.func_nil 23 _ _ _ Tryd.underlying23 f x y WW
  have u0 : decide (codes < 0) = false := decide_eq_false (by omega)
  have h1 := Blk.new W 25 #[.int .i64 (w : Nat), .int .i64 (m : Nat), .int .i64 codes, .func f1 a1 b1, .func f2 a2 b2]
  have B1 : Below W.heap.size W (W.alloc (.cells #[.int .i64 (w : Nat), .int .i64 (m : Nat), .int .i64 codes, .func f1 a1 b1, .func f2 a2 b2] 25)) := (Below.refl _ _).alloc (Nat.le_refl _) _
  have c0 := h1.cell 0
  have c1 := h1.cell 1
  have HH := Lib.hid (And.intro hch hsp)
  have HB := Lib.hid (And.intro h1 B1)
  clear hch hsp hc hmw he hw hm h1 B1
  go_enter Tryd.func14, Tryd.ntmps14
  go_upto_region 4 with (go_at_call 28; refine (HH.out.1 _).mono ?_; rintro e w1 ⟨⟨g1, cap1, rfl, hr1⟩, hb1⟩)
  have h2 : Blk w1 W.heap.size 25 #[.int .i64 (w : Nat), .int .i64 (m : Nat), .int .i64 codes, .func f1 a1 b1, .func f2 a2 b2] := (hb1.block _ HB.out.1.lt).trans HB.out.1
  have B2 := HB.out.2.trans (hb1.mono HB.out.2.size)
  have hr1' : w1.ownsRow W.heap.size 77 2 (.slice (some ⟨g1, 0, none⟩) m cap1) m (Bt.cells (Bt.upto w m m)) := Pg.row_low hr1 HB.out.2.size
  have k0 := h2.cell 0
  have k1 := h2.cell 1
  have k2 := h2.cell 2
  have k3 := h2.cell 3
  have k4 := h2.cell 4
  have HR := Lib.hid (And.intro h2 (And.intro B2 hr1'))
  clear c0 c1 hb1 hr1 hr1' h2 B2
  go_upto_region 9 with (go_at_call 29; refine (HH.out.2 _).mono ?_; rintro e w2 ⟨⟨g2, cap2, rfl, hr2⟩, hb2⟩)
  have h3 : Blk w2 W.heap.size 25 #[.int .i64 (w : Nat), .int .i64 (m : Nat), .int .i64 codes, .func f1 a1 b1, .func f2 a2 b2] := (hb2.block _ HR.out.1.lt).trans HR.out.1
  have B3 := HR.out.2.1.trans (hb2.mono HR.out.2.1.size)
  have hr3 := Hp.row_later HR.out.2.2 hb2
  have hr2' := Pg.row_low hr2 HR.out.2.1.size
  have k0 := h3.cell 0
  have k1 := h3.cell 1
  have k2 := h3.cell 2
  have k3 := h3.cell 3
  have k4 := h3.cell 4
  have HQ := Lib.hid (And.intro B3 (And.intro hr3 hr2'))
  clear hb2 hr2 h3 B3 hr3 hr2'
  go_wp2_with fail
  go_ret2
  have n1 := Blk.new (w2.alloc (.map #[] 0)) 56 #[.int .i64 (w : Nat), .int .i64 (m : Nat), .int .i64 codes, .func f1 a1 b1, .func f2 a2 b2, .string q, .slice (some ⟨g1, 0, none⟩) m cap1, .slice (some ⟨g2, 0, none⟩) m cap2, .map (some w2.heap.size), .int .i64 0, .int .i64 0, .int .i64 0, .int .i64 0, .nilFunc]
  rw [World.size_alloc] at n1
  obtain ⟨q1, q2, q3⟩ := HQ.out
  refine ⟨w2.heap.size + 1, by simp, ⟨g1, cap1, g2, cap2, w2.heap.size, n1, (q2.alloc _).alloc _, (q3.alloc _).alloc _, (World.ownsMap_made w2 _ _ _).alloc _, by have := q1.size; omega, q1.size, by omega⟩, (q1.alloc q1.size _).alloc (by have := q1.size; simp; omega) _⟩
theorem Pg.zeroUnit (W : World) : (zeroValue 115).run Tryd.prog W = .ok (.agg #[]) W := by kernel_rfl
set_option maxRecDepth 100000 in
set_option maxHeartbeats 4000000 in
/-- run, where there are no codes: no shell is gone through. -/
theorem Pg.run0_any {W : World} {sb m mb g1 c1 : Nat} {bits0 : Int} {cs : Array Value} (hB : Blk W sb 56 cs) (h2 : cs[2]? = some (.int .i64 0)) (h6 : cs[6]? = some (.slice (some ⟨g1, 0, none⟩) m c1)) (h8 : cs[8]? = some (.map (some mb))) (hm : 0 < m)
    (hch : W.cell? ⟨g1, 1, none⟩ = some (.int .i64 bits0)) (hb : 0 ≤ bits0) (hmap : W.ownsMap Tryd.prog 9 (unitElem (H := Unit)) mb 0 (.map [])) (enough : Value) :
    Calls Tryd.prog 18 #[.pointer (some ⟨sb, 0, none⟩), enough] W fun e W' => e = .returned (.int .i64 0) ∧ ∃ n, W' = W.drewN n := by
  have k2 := (hB.cell 2).trans h2
  have k6 := (hB.cell 6).trans h6
  have k8 := (hB.cell 8).trans h8
  have hlen := fun (X : World) (hX : X.ownsMap Tryd.prog 9 (unitElem (H := Unit)) mb 0 (.map [])) => World.ownsMap.len hX Tryd.underlying54
  have HL := Lib.hid hlen
  have hS : (fun X : World => X.cell? ⟨sb, 8, none⟩ = some (.map (some mb)) ∧ X.cell? ⟨sb, 2, none⟩ = some (.int .i64 0) ∧ X.ownsMap Tryd.prog 9 (unitElem (H := Unit)) mb 0 (.map [])) W.drew := ⟨k8, k2, hmap⟩
  have hm0 : (0 : Int) < (m : Int) := by omega
  have u1 : decide (0 ≤ bits0) = true := decide_eq_true hb
  clear hlen hB h2 h6 h8
  go_enter Tryd.func18, Tryd.ntmps18
  go_upto_region 3 with fail
  refine wp_loop_rounds 1 ?_
  rw [rounds_succ]
  go_upto_region 3 with fail
  refine Ph.region (fun X : World => X.cell? ⟨sb, 8, none⟩ = some (.map (some mb)) ∧ X.cell? ⟨sb, 2, none⟩ = some (.int .i64 0) ∧ X.ownsMap Tryd.prog 9 (unitElem (H := Unit)) mb 0 (.map [])) (fun _ => false) (by kernel_rfl) hS ?_
  --PH 0 1 2 3 4 5 6 7 8 9 10 11 12 13 14 15 16; ⟨s1, s2, s3⟩ | have s4 := HL.out ww s3; hS
  refine Ph.get (i := 0) (v := _) (a' := _) rfl (by kernel_rfl) (by kernel_rfl) (by kernel_rfl) (by kernel_rfl) (fun _ _ _ h => h) hS (Or.inl ⟨by rfl, fun ww hSw => by obtain ⟨s1, s2, s3⟩ := hSw; have s4 := HL.out ww s3; go_simp <;> rfl⟩) (by simp only [Act.put, List.getElem_toArray, List.getElem_cons_zero, List.getElem_cons_succ, List.setIfInBounds_toArray, List.set_cons_zero, List.set_cons_succ]; rfl) ?_
  refine Ph.get (i := 1) (v := _) (a' := _) rfl (by kernel_rfl) (by kernel_rfl) (by kernel_rfl) (by kernel_rfl) (fun _ _ _ h => h) hS (Or.inl ⟨by rfl, fun ww hSw => by obtain ⟨s1, s2, s3⟩ := hSw; have s4 := HL.out ww s3; go_simp <;> rfl⟩) (by simp only [Act.put, List.getElem_toArray, List.getElem_cons_zero, List.getElem_cons_succ, List.setIfInBounds_toArray, List.set_cons_zero, List.set_cons_succ]; rfl) ?_
  refine Ph.get (i := 2) (v := _) (a' := _) rfl (by kernel_rfl) (by kernel_rfl) (by kernel_rfl) (by kernel_rfl) (fun _ _ _ h => h) hS (Or.inl ⟨by rfl, fun ww hSw => by obtain ⟨s1, s2, s3⟩ := hSw; have s4 := HL.out ww s3; go_simp <;> rfl⟩) (by simp only [Act.put, List.getElem_toArray, List.getElem_cons_zero, List.getElem_cons_succ, List.setIfInBounds_toArray, List.set_cons_zero, List.set_cons_succ]; rfl) ?_
  refine Ph.get (i := 3) (v := _) (a' := _) rfl (by kernel_rfl) (by kernel_rfl) (by kernel_rfl) (by kernel_rfl) (fun _ _ _ h => h) hS (Or.inl ⟨by rfl, fun ww hSw => by obtain ⟨s1, s2, s3⟩ := hSw; have s4 := HL.out ww s3; go_simp <;> rfl⟩) (by simp only [Act.put, List.getElem_toArray, List.getElem_cons_zero, List.getElem_cons_succ, List.setIfInBounds_toArray, List.set_cons_zero, List.set_cons_succ]; rfl) ?_
  refine Ph.get (i := 4) (v := _) (a' := _) rfl (by kernel_rfl) (by kernel_rfl) (by kernel_rfl) (by kernel_rfl) (fun _ _ _ h => h) hS (Or.inl ⟨by rfl, fun ww hSw => by obtain ⟨s1, s2, s3⟩ := hSw; have s4 := HL.out ww s3; go_simp <;> rfl⟩) (by simp only [Act.put, List.getElem_toArray, List.getElem_cons_zero, List.getElem_cons_succ, List.setIfInBounds_toArray, List.set_cons_zero, List.set_cons_succ]; rfl) ?_
  refine Ph.get (i := 5) (v := _) (a' := _) rfl (by kernel_rfl) (by kernel_rfl) (by kernel_rfl) (by kernel_rfl) (fun _ _ _ h => h) hS (Or.inl ⟨by rfl, fun ww hSw => by obtain ⟨s1, s2, s3⟩ := hSw; have s4 := HL.out ww s3; go_simp <;> rfl⟩) (by simp only [Act.put, List.getElem_toArray, List.getElem_cons_zero, List.getElem_cons_succ, List.setIfInBounds_toArray, List.set_cons_zero, List.set_cons_succ]; rfl) ?_
  refine Ph.get (i := 6) (v := _) (a' := _) rfl (by kernel_rfl) (by kernel_rfl) (by kernel_rfl) (by kernel_rfl) (fun _ _ _ h => h) hS (Or.inl ⟨by rfl, fun ww hSw => by obtain ⟨s1, s2, s3⟩ := hSw; have s4 := HL.out ww s3; go_simp <;> rfl⟩) (by simp only [Act.put, List.getElem_toArray, List.getElem_cons_zero, List.getElem_cons_succ, List.setIfInBounds_toArray, List.set_cons_zero, List.set_cons_succ]; rfl) ?_
  refine Ph.get (i := 7) (v := _) (a' := _) rfl (by kernel_rfl) (by kernel_rfl) (by kernel_rfl) (by kernel_rfl) (fun _ _ _ h => h) hS (Or.inl ⟨by rfl, fun ww hSw => by obtain ⟨s1, s2, s3⟩ := hSw; have s4 := HL.out ww s3; go_simp <;> rfl⟩) (by simp only [Act.put, List.getElem_toArray, List.getElem_cons_zero, List.getElem_cons_succ, List.setIfInBounds_toArray, List.set_cons_zero, List.set_cons_succ]; rfl) ?_
  refine Ph.get (i := 8) (v := _) (a' := _) rfl (by kernel_rfl) (by kernel_rfl) (by kernel_rfl) (by kernel_rfl) (fun _ _ _ h => h) hS (Or.inl ⟨by rfl, fun ww hSw => by obtain ⟨s1, s2, s3⟩ := hSw; have s4 := HL.out ww s3; go_simp <;> rfl⟩) (by simp only [Act.put, List.getElem_toArray, List.getElem_cons_zero, List.getElem_cons_succ, List.setIfInBounds_toArray, List.set_cons_zero, List.set_cons_succ]; rfl) ?_
  refine Ph.get (i := 9) (v := _) (a' := _) rfl (by kernel_rfl) (by kernel_rfl) (by kernel_rfl) (by kernel_rfl) (fun _ _ _ h => h) hS (Or.inl ⟨by rfl, fun ww hSw => by obtain ⟨s1, s2, s3⟩ := hSw; have s4 := HL.out ww s3; go_simp <;> rfl⟩) (by simp only [Act.put, List.getElem_toArray, List.getElem_cons_zero, List.getElem_cons_succ, List.setIfInBounds_toArray, List.set_cons_zero, List.set_cons_succ]; rfl) ?_
  refine Ph.get (i := 10) (v := _) (a' := _) rfl (by kernel_rfl) (by kernel_rfl) (by kernel_rfl) (by kernel_rfl) (fun _ _ _ h => h) hS (Or.inl ⟨by rfl, fun ww hSw => by obtain ⟨s1, s2, s3⟩ := hSw; have s4 := HL.out ww s3; go_simp <;> rfl⟩) (by simp only [Act.put, List.getElem_toArray, List.getElem_cons_zero, List.getElem_cons_succ, List.setIfInBounds_toArray, List.set_cons_zero, List.set_cons_succ]; rfl) ?_
  refine Ph.get (i := 11) (v := _) (a' := _) rfl (by kernel_rfl) (by kernel_rfl) (by kernel_rfl) (by kernel_rfl) (fun _ _ _ h => h) hS (Or.inl ⟨by rfl, fun ww hSw => by obtain ⟨s1, s2, s3⟩ := hSw; have s4 := HL.out ww s3; go_simp <;> rfl⟩) (by simp only [Act.put, List.getElem_toArray, List.getElem_cons_zero, List.getElem_cons_succ, List.setIfInBounds_toArray, List.set_cons_zero, List.set_cons_succ]; rfl) ?_
  refine Ph.get (i := 12) (v := _) (a' := _) rfl (by kernel_rfl) (by kernel_rfl) (by kernel_rfl) (by kernel_rfl) (fun _ _ _ h => h) hS (Or.inl ⟨by rfl, fun ww hSw => by obtain ⟨s1, s2, s3⟩ := hSw; have s4 := HL.out ww s3; go_simp <;> rfl⟩) (by simp only [Act.put, List.getElem_toArray, List.getElem_cons_zero, List.getElem_cons_succ, List.setIfInBounds_toArray, List.set_cons_zero, List.set_cons_succ]; rfl) ?_
  refine Ph.get (i := 13) (v := _) (a' := _) rfl (by kernel_rfl) (by kernel_rfl) (by kernel_rfl) (by kernel_rfl) (fun _ _ _ h => h) hS (Or.inl ⟨by rfl, fun ww hSw => by obtain ⟨s1, s2, s3⟩ := hSw; have s4 := HL.out ww s3; go_simp <;> rfl⟩) (by simp only [Act.put, List.getElem_toArray, List.getElem_cons_zero, List.getElem_cons_succ, List.setIfInBounds_toArray, List.set_cons_zero, List.set_cons_succ]; rfl) ?_
  refine Ph.get (i := 14) (v := _) (a' := _) rfl (by kernel_rfl) (by kernel_rfl) (by kernel_rfl) (by kernel_rfl) (fun _ _ _ h => h) hS (Or.inl ⟨by rfl, fun ww hSw => by obtain ⟨s1, s2, s3⟩ := hSw; have s4 := HL.out ww s3; go_simp <;> rfl⟩) (by simp only [Act.put, List.getElem_toArray, List.getElem_cons_zero, List.getElem_cons_succ, List.setIfInBounds_toArray, List.set_cons_zero, List.set_cons_succ]; rfl) ?_
  refine Ph.get (i := 15) (v := _) (a' := _) rfl (by kernel_rfl) (by kernel_rfl) (by kernel_rfl) (by kernel_rfl) (fun _ _ _ h => h) hS (Or.inl ⟨by rfl, fun ww hSw => by obtain ⟨s1, s2, s3⟩ := hSw; have s4 := HL.out ww s3; go_simp <;> rfl⟩) (by simp only [Act.put, List.getElem_toArray, List.getElem_cons_zero, List.getElem_cons_succ, List.setIfInBounds_toArray, List.set_cons_zero, List.set_cons_succ]; rfl) ?_
  refine Ph.get (i := 16) (v := _) (a' := _) rfl (by kernel_rfl) (by kernel_rfl) (by kernel_rfl) (by kernel_rfl) (fun _ _ _ h => h) hS (Or.inl ⟨by rfl, fun ww hSw => by obtain ⟨s1, s2, s3⟩ := hSw; have s4 := HL.out ww s3; go_simp <;> rfl⟩) (by simp only [Act.put, List.getElem_toArray, List.getElem_cons_zero, List.getElem_cons_succ, List.setIfInBounds_toArray, List.set_cons_zero, List.set_cons_succ]; rfl) ?_
  --PS 17 18 19 20
  refine Ph.pure (i := 17) (v := undef) (a' := _) rfl (by kernel_rfl) (by kernel_rfl) (by kernel_rfl) (fun _ _ _ h => h) (Or.inr ⟨by rfl, rfl⟩) (by simp only [Act.put, List.getElem_toArray, List.getElem_cons_zero, List.getElem_cons_succ, List.setIfInBounds_toArray, List.set_cons_zero, List.set_cons_succ]; rfl) ?_
  refine Ph.pure (i := 18) (v := undef) (a' := _) rfl (by kernel_rfl) (by kernel_rfl) (by kernel_rfl) (fun _ _ _ h => h) (Or.inr ⟨by rfl, rfl⟩) (by simp only [Act.put, List.getElem_toArray, List.getElem_cons_zero, List.getElem_cons_succ, List.setIfInBounds_toArray, List.set_cons_zero, List.set_cons_succ]; rfl) ?_
  refine Ph.pure (i := 19) (v := undef) (a' := _) rfl (by kernel_rfl) (by kernel_rfl) (by kernel_rfl) (fun _ _ _ h => h) (Or.inr ⟨by rfl, rfl⟩) (by simp only [Act.put, List.getElem_toArray, List.getElem_cons_zero, List.getElem_cons_succ, List.setIfInBounds_toArray, List.set_cons_zero, List.set_cons_succ]; rfl) ?_
  refine Ph.pure (i := 20) (v := undef) (a' := _) rfl (by kernel_rfl) (by kernel_rfl) (by kernel_rfl) (fun _ _ _ h => h) (Or.inr ⟨by rfl, rfl⟩) (by simp only [Act.put, List.getElem_toArray, List.getElem_cons_zero, List.getElem_cons_succ, List.setIfInBounds_toArray, List.set_cons_zero, List.set_cons_succ]; rfl) ?_
  --PH 21; ⟨s1, s2, s3⟩; hS
  refine Ph.get (i := 21) (v := _) (a' := _) rfl (by kernel_rfl) (by kernel_rfl) (by kernel_rfl) (by kernel_rfl) (fun _ _ _ h => h) hS (Or.inl ⟨by rfl, fun ww hSw => by obtain ⟨s1, s2, s3⟩ := hSw; go_simp <;> rfl⟩) (by simp only [Act.put, List.getElem_toArray, List.getElem_cons_zero, List.getElem_cons_succ, List.setIfInBounds_toArray, List.set_cons_zero, List.set_cons_succ]; rfl) ?_
  refine Ph.done (by kernel_rfl) ?_ _
  go_wp2_with fail
  go_ret
  exact ⟨rfl, 1, rfl⟩
end Go.Proofs.YtlfeibaghfcpaaaDoor
