/- Contract of best.pile.put. Conditions: each theorem's own hypotheses. -/
import Derived.Test.YtlfeibaghfcpaaaDoorHpF
import Derived.Deep.AppendLies
import Derived.BigRegion
import Derived.Deep.DeepCutAuto
namespace Go.Proofs.YtlfeibaghfcpaaaDoor
open Go.RowKit Go.Maps
set_option linter.unusedVariables false
set_option linter.unusedSimpArgs false
attribute [local go_sem] Hp.less

/-- A pile has grown: all that it holds is lh. -/
def Hp.Grown (W W' : World) (b c : Nat) (A : Option Addr) (mb : Nat) (lh : List Pb.H) : Prop :=
  ∃ l' A' cap', Hp.At W' b c l' A' cap' mb ∧ Hp.Heap Pb.gt l' ∧ l'.Perm lh ∧ Bk.Only (Hp.foot b mb A) W W' ∧ ∀ a, A' = some a → (∃ a', A = some a' ∧ a'.block = a.block) ∨ W.heap.size ≤ a.block
/-- Between two rounds of put's loop. -/
def Hp.UpL (X : World) (b mb : Nat) (hl : List Pb.H) (g cap n : Nat) (m : Nat) (i : Value) (wr : World) : Prop :=
  ∃ L : List Pb.H, i = .int .i64 (m : Nat) ∧ m < n ∧ L.length = n ∧ L.Perm hl ∧ Hp.Up Pb.gt L m ∧ Blk wr b 68 #[.slice (some ⟨g, 0, none⟩) n cap, Hp.less, .map (some mb)] ∧
    wr.ownsRow 0 50 3 (.slice (some ⟨g, 0, none⟩) n cap) n (Hp.cs L) ∧ Bk.Only (fun k => k = g) X wr
theorem Hp.only_then {F F' : Nat → Prop} {a b c : World} (h : Bk.Only F a b) (hf : ∀ k, F' k → F k ∨ a.heap.size ≤ k) (h' : Bk.Only F' b c) : Bk.Only F a c :=
  ⟨h'.os.trans h.os, h'.tape.trans h.tape, h'.output.trans h.output, Nat.le_trans h.size h'.size, fun k hk hn => (h'.block k (Nat.lt_of_lt_of_le hk h.size) (fun e => (hf k e).elim hn (fun h0 => absurd hk (Nat.not_lt.2 h0)))).trans (h.block k hk hn)⟩
theorem Hp.row_later {B : Nat} {e : TypeId} {k : Nat} {v : Value} {n : Nat} {xs : List Value} {w w' : World} (h : w.ownsRow B e k v n xs) (hb : Below w.heap.size w w') : w'.ownsRow B e k v n xs := by
  refine h.kept (row := none) ⟨hb.os, hb.tape, hb.output, hb.size, fun j hj _ => hb.block j hj⟩ ?_
  cases hv : v.ownBlock <;> simp
theorem Hp.grow_only {F : Nat → Prop} {w w' : World} {row : Option Nat} (hg : w.grownBy w' row) (hr : ∀ k, row = some k → F k) : Bk.Only F w w' := (Bk.Only.refl F w).grown hg (fun k e => .inl (hr k e))
set_option maxRecDepth 100000 in
set_option maxHeartbeats 4000000 in
theorem Hp.put_any {W : World} {b c : Nat} {l : List Pb.H} {A : Option Addr} {cap mb : Nat} (hA : Hp.At W b c l A cap mb) (hH : Hp.Heap Pb.gt l) (h : Pb.H) (ok : Hp.Ok h) (hn : h ∉ l) (hc : c < maxLen) (hl : l.length + 1 ≤ 4398046511104) :
    Calls Tryd.prog 31 #[.pointer (some ⟨b, 0, none⟩), .agg (Hp.enc h).toArray] W fun e W' => e = .returned (.bool true) ∧ Hp.Grown W W' b (c + 1) A mb (h :: l) := by
  obtain ⟨i0, hi, hz0, hz1, hz2⟩ := info_parts Hp.hitInfo
  obtain ⟨d, id, s⟩ := h
  have hlook := fun X (hx : Hp.Set X mb c l) => hx.look ⟨d, id, s⟩ ok
  rw [decide_eq_false hn] at hlook
  have hput := fun X (hx : Hp.Set X mb c l) => hx.put ⟨d, id, s⟩ ok hc
  unfold Hp.enc at *
  unfold Tx.v at *
  simp only at hlook hput ⊢
  obtain ⟨bs, hbs⟩ : ∃ bs : ByteArray, (⟨s.toArray⟩ : ByteArray) = bs := ⟨_, rfl⟩
  rw [hbs] at hlook hput ⊢
  have h1 : Blk (W.alloc (.cells #[.int .i64 d, .int .i64 id, .string bs] 50)) W.heap.size 50 #[.int .i64 d, .int .i64 id, .string bs] := Blk.new W _ _
  have c0 := h1.cell 0
  have c1 := h1.cell 1
  have c2 := h1.cell 2
  have A1 := hA.same (W' := W.alloc (.cells #[.int .i64 d, .int .i64 id, .string bs] 50)) (fun k hk => Below.heap_alloc _ _ _ (hA.lt hk))
  have d0 := A1.blk.cell 0
  have d2 := A1.blk.cell 2
  have HL := Lib.hid (And.intro hlook hput)
  clear hlook hput
  go_enter Tryd.func31, Tryd.ntmps31
  go_upto_region 1 with fail
  refine Ph.region (fun X : World => X.cell? ⟨b, 2, none⟩ = some (.map (some mb)) ∧ X.cell? ⟨W.heap.size, 0, none⟩ = some (.int .i64 d) ∧ X.cell? ⟨W.heap.size, 1, none⟩ = some (.int .i64 id) ∧ X.cell? ⟨W.heap.size, 2, none⟩ = some (.string bs) ∧ Hp.Set X mb c l) (fun _ => false) (by kernel_rfl) ⟨d2, c0, c1, c2, A1.has⟩ ?_
  have hS : (fun X : World => X.cell? ⟨b, 2, none⟩ = some (.map (some mb)) ∧ X.cell? ⟨W.heap.size, 0, none⟩ = some (.int .i64 d) ∧ X.cell? ⟨W.heap.size, 1, none⟩ = some (.int .i64 id) ∧ X.cell? ⟨W.heap.size, 2, none⟩ = some (.string bs) ∧ Hp.Set X mb c l) (W.alloc (.cells #[.int .i64 d, .int .i64 id, .string bs] 50)).drew := ⟨d2, c0, c1, c2, A1.has⟩
  --PH 0 1 2 3 4 5 6 7 8; ⟨s1, s2, s3, s4, s5⟩ | have s6 := HL.out.1 _ s5; hS
  refine Ph.get (i := 0) (v := _) (a' := _) rfl (by kernel_rfl) (by kernel_rfl) (by kernel_rfl) (by kernel_rfl) (fun _ _ _ h => h) hS (Or.inl ⟨by rfl, fun ww hSw => by obtain ⟨s1, s2, s3, s4, s5⟩ := hSw; have s6 := HL.out.1 _ s5; go_simp <;> rfl⟩) (by simp only [Act.put, List.getElem_toArray, List.getElem_cons_zero, List.getElem_cons_succ, List.setIfInBounds_toArray, List.set_cons_zero, List.set_cons_succ]; rfl) ?_
  refine Ph.get (i := 1) (v := _) (a' := _) rfl (by kernel_rfl) (by kernel_rfl) (by kernel_rfl) (by kernel_rfl) (fun _ _ _ h => h) hS (Or.inl ⟨by rfl, fun ww hSw => by obtain ⟨s1, s2, s3, s4, s5⟩ := hSw; have s6 := HL.out.1 _ s5; go_simp <;> rfl⟩) (by simp only [Act.put, List.getElem_toArray, List.getElem_cons_zero, List.getElem_cons_succ, List.setIfInBounds_toArray, List.set_cons_zero, List.set_cons_succ]; rfl) ?_
  refine Ph.get (i := 2) (v := _) (a' := _) rfl (by kernel_rfl) (by kernel_rfl) (by kernel_rfl) (by kernel_rfl) (fun _ _ _ h => h) hS (Or.inl ⟨by rfl, fun ww hSw => by obtain ⟨s1, s2, s3, s4, s5⟩ := hSw; have s6 := HL.out.1 _ s5; go_simp <;> rfl⟩) (by simp only [Act.put, List.getElem_toArray, List.getElem_cons_zero, List.getElem_cons_succ, List.setIfInBounds_toArray, List.set_cons_zero, List.set_cons_succ]; rfl) ?_
  refine Ph.get (i := 3) (v := _) (a' := _) rfl (by kernel_rfl) (by kernel_rfl) (by kernel_rfl) (by kernel_rfl) (fun _ _ _ h => h) hS (Or.inl ⟨by rfl, fun ww hSw => by obtain ⟨s1, s2, s3, s4, s5⟩ := hSw; have s6 := HL.out.1 _ s5; go_simp <;> rfl⟩) (by simp only [Act.put, List.getElem_toArray, List.getElem_cons_zero, List.getElem_cons_succ, List.setIfInBounds_toArray, List.set_cons_zero, List.set_cons_succ]; rfl) ?_
  refine Ph.get (i := 4) (v := _) (a' := _) rfl (by kernel_rfl) (by kernel_rfl) (by kernel_rfl) (by kernel_rfl) (fun _ _ _ h => h) hS (Or.inl ⟨by rfl, fun ww hSw => by obtain ⟨s1, s2, s3, s4, s5⟩ := hSw; have s6 := HL.out.1 _ s5; go_simp <;> rfl⟩) (by simp only [Act.put, List.getElem_toArray, List.getElem_cons_zero, List.getElem_cons_succ, List.setIfInBounds_toArray, List.set_cons_zero, List.set_cons_succ]; rfl) ?_
  refine Ph.get (i := 5) (v := _) (a' := _) rfl (by kernel_rfl) (by kernel_rfl) (by kernel_rfl) (by kernel_rfl) (fun _ _ _ h => h) hS (Or.inl ⟨by rfl, fun ww hSw => by obtain ⟨s1, s2, s3, s4, s5⟩ := hSw; have s6 := HL.out.1 _ s5; go_simp <;> rfl⟩) (by simp only [Act.put, List.getElem_toArray, List.getElem_cons_zero, List.getElem_cons_succ, List.setIfInBounds_toArray, List.set_cons_zero, List.set_cons_succ]; rfl) ?_
  refine Ph.get (i := 6) (v := _) (a' := _) rfl (by kernel_rfl) (by kernel_rfl) (by kernel_rfl) (by kernel_rfl) (fun _ _ _ h => h) hS (Or.inl ⟨by rfl, fun ww hSw => by obtain ⟨s1, s2, s3, s4, s5⟩ := hSw; have s6 := HL.out.1 _ s5; go_simp <;> rfl⟩) (by simp only [Act.put, List.getElem_toArray, List.getElem_cons_zero, List.getElem_cons_succ, List.setIfInBounds_toArray, List.set_cons_zero, List.set_cons_succ]; rfl) ?_
  refine Ph.get (i := 7) (v := _) (a' := _) rfl (by kernel_rfl) (by kernel_rfl) (by kernel_rfl) (by kernel_rfl) (fun _ _ _ h => h) hS (Or.inl ⟨by rfl, fun ww hSw => by obtain ⟨s1, s2, s3, s4, s5⟩ := hSw; have s6 := HL.out.1 _ s5; go_simp <;> rfl⟩) (by simp only [Act.put, List.getElem_toArray, List.getElem_cons_zero, List.getElem_cons_succ, List.setIfInBounds_toArray, List.set_cons_zero, List.set_cons_succ]; rfl) ?_
  refine Ph.get (i := 8) (v := _) (a' := _) rfl (by kernel_rfl) (by kernel_rfl) (by kernel_rfl) (by kernel_rfl) (fun _ _ _ h => h) hS (Or.inl ⟨by rfl, fun ww hSw => by obtain ⟨s1, s2, s3, s4, s5⟩ := hSw; have s6 := HL.out.1 _ s5; go_simp <;> rfl⟩) (by simp only [Act.put, List.getElem_toArray, List.getElem_cons_zero, List.getElem_cons_succ, List.setIfInBounds_toArray, List.set_cons_zero, List.set_cons_succ]; rfl) ?_
  refine Ph.one (i := 9) (by kernel_rfl) rfl (fun K hK => ?_)
  go_simp
  have A2 := A1.same (W' := ((W.alloc (.cells #[.int .i64 d, .int .i64 id, .string bs] 50)).alloc (.cells #[] 79)).drew) (fun k hk => Below.heap_alloc _ _ _ (A1.lt hk))
  have h2 : Blk ((W.alloc (.cells #[.int .i64 d, .int .i64 id, .string bs] 50)).alloc (.cells #[] 79)).drew W.heap.size 50 #[.int .i64 d, .int .i64 id, .string bs] := h1.alloc _
  refine hK.out _ _ ⟨A2.blk.cell 2, h2.cell 0, h2.cell 1, h2.cell 2, A2.has⟩ (fun hS2 => ?_)
  clear hK K
  refine Ph.one (i := 10) (by kernel_rfl) rfl (fun K hK => ?_)
  go_simp
  refine hK.out _ _ hS2 (fun _ => ?_)
  clear hK K
  refine Ph.one (i := 11) (by kernel_rfl) rfl (fun K hK => ?_)
  go_simp
  refine hK.out _ _ hS2 (fun _ => ?_)
  clear hK K
  refine Ph.done (by kernel_rfl) ?_ _
  have O2 : Bk.Only (Hp.foot b mb A) W ((W.alloc (.cells #[.int .i64 d, .int .i64 id, .string bs] 50)).alloc (.cells #[] 79)).drew := (((Bk.Only.refl _ W).alloc _).alloc _).drew
  have z2 : W.heap.size < ((W.alloc (.cells #[.int .i64 d, .int .i64 id, .string bs] 50)).alloc (.cells #[] 79)).drew.heap.size := by simp [World.size_alloc]; omega
  generalize ((W.alloc (.cells #[.int .i64 d, .int .i64 id, .string bs] 50)).alloc (.cells #[] 79)).drew = X2 at A2 h2 hS2 O2 z2 ⊢
  clear A1 h1 c0 c1 c2 d0 d2 hS hS2
  go_upto_region 4 with fail
  refine Ph.region (fun X : World => X.cell? ⟨b, 2, none⟩ = some (.map (some mb)) ∧ X.cell? ⟨W.heap.size, 0, none⟩ = some (.int .i64 d) ∧ X.cell? ⟨W.heap.size, 1, none⟩ = some (.int .i64 id) ∧ X.cell? ⟨W.heap.size, 2, none⟩ = some (.string bs)) (fun i => i == 6) (by kernel_rfl) ⟨A2.blk.cell 2, h2.cell 0, h2.cell 1, h2.cell 2⟩ ?_
  have hS : (fun X : World => X.cell? ⟨b, 2, none⟩ = some (.map (some mb)) ∧ X.cell? ⟨W.heap.size, 0, none⟩ = some (.int .i64 d) ∧ X.cell? ⟨W.heap.size, 1, none⟩ = some (.int .i64 id) ∧ X.cell? ⟨W.heap.size, 2, none⟩ = some (.string bs)) X2.drew := ⟨A2.blk.cell 2, h2.cell 0, h2.cell 1, h2.cell 2⟩
  --PH 0 1 2 3 4 5; ⟨s1, s2, s3, s4⟩; hS
  refine Ph.get (i := 0) (v := _) (a' := _) rfl (by kernel_rfl) (by kernel_rfl) (by kernel_rfl) (by kernel_rfl) (fun _ _ _ h => h) hS (Or.inl ⟨by rfl, fun ww hSw => by obtain ⟨s1, s2, s3, s4⟩ := hSw; go_simp <;> rfl⟩) (by simp only [Act.put, List.getElem_toArray, List.getElem_cons_zero, List.getElem_cons_succ, List.setIfInBounds_toArray, List.set_cons_zero, List.set_cons_succ]; rfl) ?_
  refine Ph.get (i := 1) (v := _) (a' := _) rfl (by kernel_rfl) (by kernel_rfl) (by kernel_rfl) (by kernel_rfl) (fun _ _ _ h => h) hS (Or.inl ⟨by rfl, fun ww hSw => by obtain ⟨s1, s2, s3, s4⟩ := hSw; go_simp <;> rfl⟩) (by simp only [Act.put, List.getElem_toArray, List.getElem_cons_zero, List.getElem_cons_succ, List.setIfInBounds_toArray, List.set_cons_zero, List.set_cons_succ]; rfl) ?_
  refine Ph.get (i := 2) (v := _) (a' := _) rfl (by kernel_rfl) (by kernel_rfl) (by kernel_rfl) (by kernel_rfl) (fun _ _ _ h => h) hS (Or.inl ⟨by rfl, fun ww hSw => by obtain ⟨s1, s2, s3, s4⟩ := hSw; go_simp <;> rfl⟩) (by simp only [Act.put, List.getElem_toArray, List.getElem_cons_zero, List.getElem_cons_succ, List.setIfInBounds_toArray, List.set_cons_zero, List.set_cons_succ]; rfl) ?_
  refine Ph.get (i := 3) (v := _) (a' := _) rfl (by kernel_rfl) (by kernel_rfl) (by kernel_rfl) (by kernel_rfl) (fun _ _ _ h => h) hS (Or.inl ⟨by rfl, fun ww hSw => by obtain ⟨s1, s2, s3, s4⟩ := hSw; go_simp <;> rfl⟩) (by simp only [Act.put, List.getElem_toArray, List.getElem_cons_zero, List.getElem_cons_succ, List.setIfInBounds_toArray, List.set_cons_zero, List.set_cons_succ]; rfl) ?_
  refine Ph.get (i := 4) (v := _) (a' := _) rfl (by kernel_rfl) (by kernel_rfl) (by kernel_rfl) (by kernel_rfl) (fun _ _ _ h => h) hS (Or.inl ⟨by rfl, fun ww hSw => by obtain ⟨s1, s2, s3, s4⟩ := hSw; go_simp <;> rfl⟩) (by simp only [Act.put, List.getElem_toArray, List.getElem_cons_zero, List.getElem_cons_succ, List.setIfInBounds_toArray, List.set_cons_zero, List.set_cons_succ]; rfl) ?_
  refine Ph.get (i := 5) (v := _) (a' := _) rfl (by kernel_rfl) (by kernel_rfl) (by kernel_rfl) (by kernel_rfl) (fun _ _ _ h => h) hS (Or.inl ⟨by rfl, fun ww hSw => by obtain ⟨s1, s2, s3, s4⟩ := hSw; go_simp <;> rfl⟩) (by simp only [Act.put, List.getElem_toArray, List.getElem_cons_zero, List.getElem_cons_succ, List.setIfInBounds_toArray, List.set_cons_zero, List.set_cons_succ]; rfl) ?_
  obtain ⟨X3, r3, m3, g3, z3⟩ := HL.out.2 X2.drew (A2.has.same rfl)
  refine Ph.last (i := 6) (by kernel_rfl) rfl rfl (fun K hK => ?_)
  go_simp
  refine hK.out _ _ ?_
  clear hK K
  refine Ph.done (by kernel_rfl) ?_ _
  have hbm := A2.b_mb
  have B3 : Blk X3 b 68 #[.slice A l.length cap, Hp.less, .map (some mb)] := (show Blk X2.drew b _ _ from A2.blk).grown g3 (fun e => hbm (Option.some.inj e))
  have h3 : Blk X3 W.heap.size 50 #[.int .i64 d, .int .i64 id, .string bs] := (show Blk X2.drew _ _ _ from h2).grown g3 (fun e => by have := hA.has.lt; injection e; omega)
  have R3 : X3.ownsRow 0 50 3 (.slice A l.length cap) l.length (Hp.cs l) := (show X2.drew.ownsRow 0 50 3 (.slice A l.length cap) l.length (Hp.cs l) from A2.row).kept g3 (by
    cases A with
    | none => exact .inl rfl
    | some a => exact .inr (fun e => A2.mb_row rfl (Option.some.inj e).symm))
  have O3 : Bk.Only (Hp.foot b mb A) W X3 := O2.drew.grown g3 (fun k e => .inl (.inr (.inl (Option.some.inj e).symm)))
  have hrb : ∀ a, A = some a → b ≠ a.block := fun a ha => A2.b_row ha
  have hrm : ∀ a, A = some a → mb ≠ a.block := fun a ha => A2.mb_row ha
  have hzX : W.heap.size < X3.heap.size := by rw [z3]; exact z2
  clear A2 h2 O2 z2 hS r3 z3 g3
  go_upto_region 5 with fail
  have hS : (fun X : World => X.cell? ⟨b, 0, none⟩ = some (.slice A l.length cap) ∧ X.cell? ⟨W.heap.size, 0, none⟩ = some (.int .i64 d) ∧ X.cell? ⟨W.heap.size, 1, none⟩ = some (.int .i64 id) ∧ X.cell? ⟨W.heap.size, 2, none⟩ = some (.string bs)) X3.drew := ⟨B3.cell 0, h3.cell 0, h3.cell 1, h3.cell 2⟩
  refine Ph.region (fun X : World => X.cell? ⟨b, 0, none⟩ = some (.slice A l.length cap) ∧ X.cell? ⟨W.heap.size, 0, none⟩ = some (.int .i64 d) ∧ X.cell? ⟨W.heap.size, 1, none⟩ = some (.int .i64 id) ∧ X.cell? ⟨W.heap.size, 2, none⟩ = some (.string bs)) (fun i => i == 10) (by kernel_rfl) hS ?_
  --PH 0 1 2 3 4 5; ⟨s1, s2, s3, s4⟩; hS
  refine Ph.get (i := 0) (v := _) (a' := _) rfl (by kernel_rfl) (by kernel_rfl) (by kernel_rfl) (by kernel_rfl) (fun _ _ _ h => h) hS (Or.inl ⟨by rfl, fun ww hSw => by obtain ⟨s1, s2, s3, s4⟩ := hSw; go_simp <;> rfl⟩) (by simp only [Act.put, List.getElem_toArray, List.getElem_cons_zero, List.getElem_cons_succ, List.setIfInBounds_toArray, List.set_cons_zero, List.set_cons_succ]; rfl) ?_
  refine Ph.get (i := 1) (v := _) (a' := _) rfl (by kernel_rfl) (by kernel_rfl) (by kernel_rfl) (by kernel_rfl) (fun _ _ _ h => h) hS (Or.inl ⟨by rfl, fun ww hSw => by obtain ⟨s1, s2, s3, s4⟩ := hSw; go_simp <;> rfl⟩) (by simp only [Act.put, List.getElem_toArray, List.getElem_cons_zero, List.getElem_cons_succ, List.setIfInBounds_toArray, List.set_cons_zero, List.set_cons_succ]; rfl) ?_
  refine Ph.get (i := 2) (v := _) (a' := _) rfl (by kernel_rfl) (by kernel_rfl) (by kernel_rfl) (by kernel_rfl) (fun _ _ _ h => h) hS (Or.inl ⟨by rfl, fun ww hSw => by obtain ⟨s1, s2, s3, s4⟩ := hSw; go_simp <;> rfl⟩) (by simp only [Act.put, List.getElem_toArray, List.getElem_cons_zero, List.getElem_cons_succ, List.setIfInBounds_toArray, List.set_cons_zero, List.set_cons_succ]; rfl) ?_
  refine Ph.get (i := 3) (v := _) (a' := _) rfl (by kernel_rfl) (by kernel_rfl) (by kernel_rfl) (by kernel_rfl) (fun _ _ _ h => h) hS (Or.inl ⟨by rfl, fun ww hSw => by obtain ⟨s1, s2, s3, s4⟩ := hSw; go_simp <;> rfl⟩) (by simp only [Act.put, List.getElem_toArray, List.getElem_cons_zero, List.getElem_cons_succ, List.setIfInBounds_toArray, List.set_cons_zero, List.set_cons_succ]; rfl) ?_
  refine Ph.get (i := 4) (v := _) (a' := _) rfl (by kernel_rfl) (by kernel_rfl) (by kernel_rfl) (by kernel_rfl) (fun _ _ _ h => h) hS (Or.inl ⟨by rfl, fun ww hSw => by obtain ⟨s1, s2, s3, s4⟩ := hSw; go_simp <;> rfl⟩) (by simp only [Act.put, List.getElem_toArray, List.getElem_cons_zero, List.getElem_cons_succ, List.setIfInBounds_toArray, List.set_cons_zero, List.set_cons_succ]; rfl) ?_
  refine Ph.get (i := 5) (v := _) (a' := _) rfl (by kernel_rfl) (by kernel_rfl) (by kernel_rfl) (by kernel_rfl) (fun _ _ _ h => h) hS (Or.inl ⟨by rfl, fun ww hSw => by obtain ⟨s1, s2, s3, s4⟩ := hSw; go_simp <;> rfl⟩) (by simp only [Act.put, List.getElem_toArray, List.getElem_cons_zero, List.getElem_cons_succ, List.setIfInBounds_toArray, List.set_cons_zero, List.set_cons_succ]; rfl) ?_
  refine Ph.one (i := 6) (by kernel_rfl) rfl (fun K hK => ?_)
  go_simp
  have B4 : Blk (X3.alloc (.cells #[.int .i64 d, .int .i64 id, .string bs] 50)).drew b 68 #[.slice A l.length cap, Hp.less, .map (some mb)] := B3.alloc _
  have h4 : Blk (X3.alloc (.cells #[.int .i64 d, .int .i64 id, .string bs] 50)).drew W.heap.size 50 #[.int .i64 d, .int .i64 id, .string bs] := h3.alloc _
  have R4 : (X3.alloc (.cells #[.int .i64 d, .int .i64 id, .string bs] 50)).drew.ownsRow 0 50 3 (.slice A l.length cap) l.length (Hp.cs l) := R3.alloc _
  have O4 : Bk.Only (Hp.foot b mb A) W (X3.alloc (.cells #[.int .i64 d, .int .i64 id, .string bs] 50)).drew := (O3.alloc _).drew
  have m4 : Hp.Set (X3.alloc (.cells #[.int .i64 d, .int .i64 id, .string bs] 50)).drew mb (c + 1) (⟨d, id, s⟩ :: l) := m3.same (Below.heap_alloc _ _ _ m3.lt)
  have n4 : ∀ j u, (#[Value.int .i64 d, .int .i64 id, .string bs] : Array Value).toList[j]? = some u → (X3.alloc (.cells #[.int .i64 d, .int .i64 id, .string bs] 50)).drew.cell? ((⟨X3.heap.size, 0, none⟩ : Addr).add j) = some u := Bt.news (show Blk (X3.alloc (.cells #[.int .i64 d, .int .i64 id, .string bs] 50)).drew X3.heap.size 50 #[.int .i64 d, .int .i64 id, .string bs] from Blk.new X3 _ _)
  refine hK.out _ _ ⟨B4.cell 0, h4.cell 0, h4.cell 1, h4.cell 2⟩ (fun _ => ?_)
  clear hK K hS
  have z4 : W.heap.size < (X3.alloc (.cells #[.int .i64 d, .int .i64 id, .string bs] 50)).drew.heap.size := by show W.heap.size < (X3.alloc _).heap.size; rw [World.size_alloc]; omega
  generalize (X3.alloc (.cells #[.int .i64 d, .int .i64 id, .string bs] 50)).drew = X4 at B4 h4 R4 O4 m4 n4 z4 ⊢
  generalize X3.heap.size = z at n4 ⊢
  clear B3 h3 R3 O3 m3 hzX
  refine Ph.one (i := 7) (by kernel_rfl) rfl (fun K hK => ?_)
  refine step_append_lies _ rfl _ _ 26 rfl 0 50 i0 (.agg #[.int .i64 0, .int .i64 0, .string ⟨#[]⟩]) 3 32 Tryd.underlying26 hi hz0 hz1 hz2 rfl (by decide) (.slice A l.length cap) l.length (Hp.cs l) rfl R4 ⟨z, 0, none⟩ 1 1 [.int .i64 d, .int .i64 id, .string bs] rfl rfl n4 (by simp [Value.oneCell']) (by omega) (by unfold maxLen; omega) (by omega) (Nat.zero_le _) _ rfl ?_
  intro g' cap' X5 hown5 hgrow hwhere hlt5
  have B5 : Blk X5 b 68 #[.slice A l.length cap, Hp.less, .map (some mb)] := B4.grown hgrow (fun e => by
    cases A with
    | none => cases e
    | some a => exact hrb a rfl (Option.some.inj e))
  have h5 : Blk X5 W.heap.size 50 #[.int .i64 d, .int .i64 id, .string bs] := h4.grown hgrow (fun e => by
    cases A with
    | none => cases e
    | some a =>
      have := hA.lt (k := a.block) (.inr (.inr ⟨a, rfl, rfl⟩))
      injection e
      omega)
  have m5 : Hp.Set X5 mb (c + 1) (⟨d, id, s⟩ :: l) := m4.same (hgrow.block mb m4.lt (fun e => by
    cases A with
    | none => cases e
    | some a => exact hrm a rfl (Option.some.inj e)))
  have O5 : Bk.Only (Hp.foot b mb A) W X5 := O4.grown hgrow (fun k e => by
    cases A with
    | none => cases e
    | some a => exact .inl (.inr (.inr ⟨a, rfl, Option.some.inj e⟩)))
  have hA' : (∃ a', A = some a' ∧ a'.block = g') ∨ W.heap.size ≤ g' := by
    rcases hwhere with e | e
    · cases A with
      | none => cases e
      | some a => exact .inl ⟨a, rfl, Option.some.inj e⟩
    · exact .inr (by omega)
  have hcells : Hp.cs l ++ [.int .i64 d, .int .i64 id, .string bs] = Hp.cs (l ++ [⟨d, id, s⟩]) := by rw [Hp.cs_snoc]; unfold Hp.enc Tx.v; simp only [hbs]
  rw [hcells] at hown5
  have hbg : b ≠ g' := by
    rintro rfl
    rcases hown5.2 with ⟨e, _⟩ | ⟨g, cap9, cur, e, _, hg, _⟩
    · cases e
    · injection e with e1
      injection e1 with e1
      injection e1 with e1
      subst e1
      have := (show X5.heap[b]? = _ from B5).symm.trans hg
      simp at this
  have hmg : mb ≠ g' := by
    rintro rfl
    rcases hown5.2 with ⟨e, _⟩ | ⟨g, cap9, cur, e, _, hg, _⟩
    · cases e
    · injection e with e1
      injection e1 with e1
      injection e1 with e1
      subst e1
      obtain ⟨es, clock, hm9⟩ := m5.isMap
      have := hm9.symm.trans hg
      cases this
  refine hK.out _ _ ⟨B5.cell 0, h5.cell 0, h5.cell 1, h5.cell 2⟩ (fun hS5 => ?_)
  clear hK K
  refine Ph.one (i := 8) (by kernel_rfl) rfl (fun K hK => ?_)
  go_simp
  refine hK.out _ _ hS5 (fun _ => ?_)
  clear hK K
  refine Ph.one (i := 9) (by kernel_rfl) rfl (fun K hK => ?_)
  go_simp
  refine hK.out _ _ hS5 (fun _ => ?_)
  clear hK K
  have f5 := B5.frozen 0
  have c5 := B5.cell 0
  refine Ph.last (i := 10) (by kernel_rfl) rfl rfl (fun K hK => ?_)
  go_simp
  refine hK.out _ _ ?_
  clear hK K
  refine Ph.done (by kernel_rfl) ?_ _
  have B6 : Blk (X5.setCell ⟨b, 0, none⟩ (.slice (some ⟨g', 0, none⟩) (l.length + 1) cap')) b 68 #[.slice (some ⟨g', 0, none⟩) (l.length + 1) cap', Hp.less, .map (some mb)] := B5.set_ 0 _
  have R6 : (X5.setCell ⟨b, 0, none⟩ (.slice (some ⟨g', 0, none⟩) (l.length + 1) cap')).ownsRow 0 50 3 (.slice (some ⟨g', 0, none⟩) (l.length + 1) cap') (l.length + 1) (Hp.cs (l ++ [⟨d, id, s⟩])) := hown5.kept (grownBy_setCell' X5 b _) (.inr (fun e => hbg (Option.some.inj e).symm))
  have O6 : Bk.Only (Hp.foot b mb A) W (X5.setCell ⟨b, 0, none⟩ (.slice (some ⟨g', 0, none⟩) (l.length + 1) cap')) := O5.setCell (p := ⟨b, 0, none⟩) (.inl (.inl rfl)) _
  have m6 : Hp.Set (X5.setCell ⟨b, 0, none⟩ (.slice (some ⟨g', 0, none⟩) (l.length + 1) cap')) mb (c + 1) (⟨d, id, s⟩ :: l) := m5.same (Below.heap_setCell _ _ _ _ hbm.symm)
  generalize (X5.setCell ⟨b, 0, none⟩ (.slice (some ⟨g', 0, none⟩) (l.length + 1) cap')) = X6 at B6 R6 O6 m6 ⊢
  clear hS5 B5 h5 m5 O5 c5 f5 hown5 hgrow hwhere hlt5 B4 h4 R4 O4 m4 n4 z4 hcells HL hrb hrm
  have c6 := B6.cell 0
  have hst : Hp.UpL X6 b mb (⟨d, id, s⟩ :: l) g' cap' (l.length + 1) l.length (.int .i64 (l.length : Nat)) X6 := ⟨l ++ [⟨d, id, s⟩], rfl, by omega, by simp, List.perm_append_singleton _ _, Hp.Up.start hH _, B6, R6, Bk.Only.refl _ _⟩
  have HS := Lib.hid (And.intro hst (And.intro O6 m6))
  clear hst O6 m6 R6 B6 hH
  go_upto_region 7 with fail
  go_loopg [7] l.length (fun m i wr => Hp.UpL X6 b mb (⟨d, id, s⟩ :: l) g' cap' (l.length + 1) m i wr)
  case atStart => exact HS.out.1
  case round =>
    obtain ⟨L, rfl, hml, hLl, hLp, hUp, hB, hR, hO⟩ := hrel
    cases gk with
    | zero =>
      have HF := Lib.hid (And.intro hLp (And.intro hUp (And.intro hB (And.intro hR hO))))
      clear hLp hUp hB hR hO
      go_wp2_with fail
      go_ret
      obtain ⟨h1, h2, h3, h4, h5⟩ := HF.out
      refine ⟨rfl, L, some ⟨g', 0, none⟩, cap', ⟨by rw [hLl]; exact h3, by rw [hLl]; exact h4, (HS.out.2.2.same (h5.block mb HS.out.2.2.lt hmg)).congr (fun x => (h1.mem_iff).symm)⟩, h2.stop (fun a b h => absurd h (by decide)), h1, Hp.only_then HS.out.2.1 (fun k hk => ?_) h5, fun a ha => ?_⟩
      · subst hk
        rcases hA' with ⟨a', e1, e2⟩ | h
        · exact .inl (.inr (.inr ⟨a', e1, e2⟩))
        · exact .inr h
      · obtain rfl := Option.some.inj ha
        exact hA'
    | succ p =>
      obtain ⟨x, hx⟩ : ∃ x, L[p + 1]? = some x := ⟨_, List.getElem?_eq_getElem (by omega)⟩
      obtain ⟨y, hy⟩ : ∃ y, L[p / 2]? = some y := ⟨_, List.getElem?_eq_getElem (by omega)⟩
      have hpar : (p + 1 - 1) / 2 = p / 2 := by omega
      have hless := fun WW => Hp.less_any x y WW
      obtain ⟨r, hr⟩ : ∃ r, Pb.gt x y = r := ⟨_, rfl⟩
      have hstep := fun hg => Hp.Up.step Pb.ord hUp (Nat.succ_pos p) hx (by rw [hpar]; exact hy) hg
      have hstop := fun hg : Pb.gt x y = false => hUp.stop (fun a' b' _ h1 h2 => by
        rw [hx] at h1
        rw [hpar, hy] at h2
        rw [← Option.some.inj h1, ← Option.some.inj h2]
        exact hg)
      rw [hpar] at hstep
      rw [hr] at hless hstep hstop
      obtain ⟨a0, a1, a2⟩ := Hp.row3 hR hx
      obtain ⟨e0, e1, e2⟩ := Hp.row3 hR hy
      obtain ⟨xd, xi, xc⟩ := x
      obtain ⟨yd, yi, yc⟩ := y
      unfold Hp.enc at hless
      simp only at hless a0 a1 a2 e0 e1 e2
      obtain ⟨xb, hxb, _⟩ := Tx.of xc
      obtain ⟨yb, hyb, _⟩ := Tx.of yc
      rw [Tx.v_eq hxb, Tx.v_eq hyb] at hless
      rw [Tx.v_eq hxb] at a2
      rw [Tx.v_eq hyb] at e2
      have hstop := Lib.hid hstop
      have HX := Lib.hid (And.intro hx (And.intro hy (And.intro hstep (And.intro hstop (And.intro hless (And.intro hLp (And.intro hUp hO)))))))
      clear hx hy hstep hstop hless hLp hUp hpar hr
      generalize hq : p / 2 = q at *
      go_upto_region 9 with fail
      have hqi : (p : Int) / 2 = (q : Int) := by omega
      rw [hqi]
      have b0 := hB.cell 0
      have b1 := hB.cell 1
      have hq0 : (0 : Int) ≤ (q : Int) := by omega
      have hq1 : (q : Int) < (l.length : Int) + 1 := by omega
      have hq2 : q < l.length + 1 := by omega
      have hp0 : (0 : Int) ≤ (p : Int) + 1 := by omega
      have hp1 : (p : Int) + 1 < (l.length : Int) + 1 := by omega
      have hp2 : p < l.length := by omega
      have hS : (fun X : World => X.cell? ⟨b, 0, none⟩ = some (.slice (some ⟨g', 0, none⟩) (l.length + 1) cap') ∧ X.cell? ⟨b, 1, none⟩ = some Hp.less ∧ X.cell? ⟨g', (p + 1) * 3, none⟩ = some (.int .i64 xd) ∧ X.cell? ⟨g', (p + 1) * 3 + 1, none⟩ = some (.int .i64 xi) ∧ X.cell? ⟨g', (p + 1) * 3 + 2, none⟩ = some (.string xb) ∧ X.cell? ⟨g', q * 3, none⟩ = some (.int .i64 yd) ∧ X.cell? ⟨g', q * 3 + 1, none⟩ = some (.int .i64 yi) ∧ X.cell? ⟨g', q * 3 + 2, none⟩ = some (.string yb)) wr.drew := ⟨b0, b1, a0, a1, a2, e0, e1, e2⟩
      refine Ph.region (fun X : World => X.cell? ⟨b, 0, none⟩ = some (.slice (some ⟨g', 0, none⟩) (l.length + 1) cap') ∧ X.cell? ⟨b, 1, none⟩ = some Hp.less ∧ X.cell? ⟨g', (p + 1) * 3, none⟩ = some (.int .i64 xd) ∧ X.cell? ⟨g', (p + 1) * 3 + 1, none⟩ = some (.int .i64 xi) ∧ X.cell? ⟨g', (p + 1) * 3 + 2, none⟩ = some (.string xb) ∧ X.cell? ⟨g', q * 3, none⟩ = some (.int .i64 yd) ∧ X.cell? ⟨g', q * 3 + 1, none⟩ = some (.int .i64 yi) ∧ X.cell? ⟨g', q * 3 + 2, none⟩ = some (.string yb)) (fun _ => false) (by kernel_rfl) hS ?_
      --PH 0 1 2 3 4 5 6 7 8 9 10 11 12 13 14 15 16 17; ⟨s1, s2, s3, s4, s5, s6, s7, s8⟩; hS
      refine Ph.get (i := 0) (v := _) (a' := _) rfl (by kernel_rfl) (by kernel_rfl) (by kernel_rfl) (by kernel_rfl) (fun _ _ _ h => h) hS (Or.inl ⟨by rfl, fun ww hSw => by obtain ⟨s1, s2, s3, s4, s5, s6, s7, s8⟩ := hSw; go_simp <;> rfl⟩) (by simp only [Act.put, List.getElem_toArray, List.getElem_cons_zero, List.getElem_cons_succ, List.setIfInBounds_toArray, List.set_cons_zero, List.set_cons_succ]; rfl) ?_
      refine Ph.get (i := 1) (v := _) (a' := _) rfl (by kernel_rfl) (by kernel_rfl) (by kernel_rfl) (by kernel_rfl) (fun _ _ _ h => h) hS (Or.inl ⟨by rfl, fun ww hSw => by obtain ⟨s1, s2, s3, s4, s5, s6, s7, s8⟩ := hSw; go_simp <;> rfl⟩) (by simp only [Act.put, List.getElem_toArray, List.getElem_cons_zero, List.getElem_cons_succ, List.setIfInBounds_toArray, List.set_cons_zero, List.set_cons_succ]; rfl) ?_
      refine Ph.get (i := 2) (v := _) (a' := _) rfl (by kernel_rfl) (by kernel_rfl) (by kernel_rfl) (by kernel_rfl) (fun _ _ _ h => h) hS (Or.inl ⟨by rfl, fun ww hSw => by obtain ⟨s1, s2, s3, s4, s5, s6, s7, s8⟩ := hSw; go_simp <;> rfl⟩) (by simp only [Act.put, List.getElem_toArray, List.getElem_cons_zero, List.getElem_cons_succ, List.setIfInBounds_toArray, List.set_cons_zero, List.set_cons_succ]; rfl) ?_
      refine Ph.get (i := 3) (v := _) (a' := _) rfl (by kernel_rfl) (by kernel_rfl) (by kernel_rfl) (by kernel_rfl) (fun _ _ _ h => h) hS (Or.inl ⟨by rfl, fun ww hSw => by obtain ⟨s1, s2, s3, s4, s5, s6, s7, s8⟩ := hSw; go_simp <;> rfl⟩) (by simp only [Act.put, List.getElem_toArray, List.getElem_cons_zero, List.getElem_cons_succ, List.setIfInBounds_toArray, List.set_cons_zero, List.set_cons_succ]; rfl) ?_
      refine Ph.get (i := 4) (v := _) (a' := _) rfl (by kernel_rfl) (by kernel_rfl) (by kernel_rfl) (by kernel_rfl) (fun _ _ _ h => h) hS (Or.inl ⟨by rfl, fun ww hSw => by obtain ⟨s1, s2, s3, s4, s5, s6, s7, s8⟩ := hSw; go_simp <;> rfl⟩) (by simp only [Act.put, List.getElem_toArray, List.getElem_cons_zero, List.getElem_cons_succ, List.setIfInBounds_toArray, List.set_cons_zero, List.set_cons_succ]; rfl) ?_
      refine Ph.get (i := 5) (v := _) (a' := _) rfl (by kernel_rfl) (by kernel_rfl) (by kernel_rfl) (by kernel_rfl) (fun _ _ _ h => h) hS (Or.inl ⟨by rfl, fun ww hSw => by obtain ⟨s1, s2, s3, s4, s5, s6, s7, s8⟩ := hSw; go_simp <;> rfl⟩) (by simp only [Act.put, List.getElem_toArray, List.getElem_cons_zero, List.getElem_cons_succ, List.setIfInBounds_toArray, List.set_cons_zero, List.set_cons_succ]; rfl) ?_
      refine Ph.get (i := 6) (v := _) (a' := _) rfl (by kernel_rfl) (by kernel_rfl) (by kernel_rfl) (by kernel_rfl) (fun _ _ _ h => h) hS (Or.inl ⟨by rfl, fun ww hSw => by obtain ⟨s1, s2, s3, s4, s5, s6, s7, s8⟩ := hSw; go_simp <;> rfl⟩) (by simp only [Act.put, List.getElem_toArray, List.getElem_cons_zero, List.getElem_cons_succ, List.setIfInBounds_toArray, List.set_cons_zero, List.set_cons_succ]; rfl) ?_
      refine Ph.get (i := 7) (v := _) (a' := _) rfl (by kernel_rfl) (by kernel_rfl) (by kernel_rfl) (by kernel_rfl) (fun _ _ _ h => h) hS (Or.inl ⟨by rfl, fun ww hSw => by obtain ⟨s1, s2, s3, s4, s5, s6, s7, s8⟩ := hSw; go_simp <;> rfl⟩) (by simp only [Act.put, List.getElem_toArray, List.getElem_cons_zero, List.getElem_cons_succ, List.setIfInBounds_toArray, List.set_cons_zero, List.set_cons_succ]; rfl) ?_
      refine Ph.get (i := 8) (v := _) (a' := _) rfl (by kernel_rfl) (by kernel_rfl) (by kernel_rfl) (by kernel_rfl) (fun _ _ _ h => h) hS (Or.inl ⟨by rfl, fun ww hSw => by obtain ⟨s1, s2, s3, s4, s5, s6, s7, s8⟩ := hSw; go_simp <;> rfl⟩) (by simp only [Act.put, List.getElem_toArray, List.getElem_cons_zero, List.getElem_cons_succ, List.setIfInBounds_toArray, List.set_cons_zero, List.set_cons_succ]; rfl) ?_
      refine Ph.get (i := 9) (v := _) (a' := _) rfl (by kernel_rfl) (by kernel_rfl) (by kernel_rfl) (by kernel_rfl) (fun _ _ _ h => h) hS (Or.inl ⟨by rfl, fun ww hSw => by obtain ⟨s1, s2, s3, s4, s5, s6, s7, s8⟩ := hSw; go_simp <;> rfl⟩) (by simp only [Act.put, List.getElem_toArray, List.getElem_cons_zero, List.getElem_cons_succ, List.setIfInBounds_toArray, List.set_cons_zero, List.set_cons_succ]; rfl) ?_
      refine Ph.get (i := 10) (v := _) (a' := _) rfl (by kernel_rfl) (by kernel_rfl) (by kernel_rfl) (by kernel_rfl) (fun _ _ _ h => h) hS (Or.inl ⟨by rfl, fun ww hSw => by obtain ⟨s1, s2, s3, s4, s5, s6, s7, s8⟩ := hSw; go_simp <;> rfl⟩) (by simp only [Act.put, List.getElem_toArray, List.getElem_cons_zero, List.getElem_cons_succ, List.setIfInBounds_toArray, List.set_cons_zero, List.set_cons_succ]; rfl) ?_
      refine Ph.get (i := 11) (v := _) (a' := _) rfl (by kernel_rfl) (by kernel_rfl) (by kernel_rfl) (by kernel_rfl) (fun _ _ _ h => h) hS (Or.inl ⟨by rfl, fun ww hSw => by obtain ⟨s1, s2, s3, s4, s5, s6, s7, s8⟩ := hSw; go_simp <;> rfl⟩) (by simp only [Act.put, List.getElem_toArray, List.getElem_cons_zero, List.getElem_cons_succ, List.setIfInBounds_toArray, List.set_cons_zero, List.set_cons_succ]; rfl) ?_
      refine Ph.get (i := 12) (v := _) (a' := _) rfl (by kernel_rfl) (by kernel_rfl) (by kernel_rfl) (by kernel_rfl) (fun _ _ _ h => h) hS (Or.inl ⟨by rfl, fun ww hSw => by obtain ⟨s1, s2, s3, s4, s5, s6, s7, s8⟩ := hSw; go_simp <;> rfl⟩) (by simp only [Act.put, List.getElem_toArray, List.getElem_cons_zero, List.getElem_cons_succ, List.setIfInBounds_toArray, List.set_cons_zero, List.set_cons_succ]; rfl) ?_
      refine Ph.get (i := 13) (v := _) (a' := _) rfl (by kernel_rfl) (by kernel_rfl) (by kernel_rfl) (by kernel_rfl) (fun _ _ _ h => h) hS (Or.inl ⟨by rfl, fun ww hSw => by obtain ⟨s1, s2, s3, s4, s5, s6, s7, s8⟩ := hSw; go_simp <;> rfl⟩) (by simp only [Act.put, List.getElem_toArray, List.getElem_cons_zero, List.getElem_cons_succ, List.setIfInBounds_toArray, List.set_cons_zero, List.set_cons_succ]; rfl) ?_
      refine Ph.get (i := 14) (v := _) (a' := _) rfl (by kernel_rfl) (by kernel_rfl) (by kernel_rfl) (by kernel_rfl) (fun _ _ _ h => h) hS (Or.inl ⟨by rfl, fun ww hSw => by obtain ⟨s1, s2, s3, s4, s5, s6, s7, s8⟩ := hSw; go_simp <;> rfl⟩) (by simp only [Act.put, List.getElem_toArray, List.getElem_cons_zero, List.getElem_cons_succ, List.setIfInBounds_toArray, List.set_cons_zero, List.set_cons_succ]; rfl) ?_
      refine Ph.get (i := 15) (v := _) (a' := _) rfl (by kernel_rfl) (by kernel_rfl) (by kernel_rfl) (by kernel_rfl) (fun _ _ _ h => h) hS (Or.inl ⟨by rfl, fun ww hSw => by obtain ⟨s1, s2, s3, s4, s5, s6, s7, s8⟩ := hSw; go_simp <;> rfl⟩) (by simp only [Act.put, List.getElem_toArray, List.getElem_cons_zero, List.getElem_cons_succ, List.setIfInBounds_toArray, List.set_cons_zero, List.set_cons_succ]; rfl) ?_
      refine Ph.get (i := 16) (v := _) (a' := _) rfl (by kernel_rfl) (by kernel_rfl) (by kernel_rfl) (by kernel_rfl) (fun _ _ _ h => h) hS (Or.inl ⟨by rfl, fun ww hSw => by obtain ⟨s1, s2, s3, s4, s5, s6, s7, s8⟩ := hSw; go_simp <;> rfl⟩) (by simp only [Act.put, List.getElem_toArray, List.getElem_cons_zero, List.getElem_cons_succ, List.setIfInBounds_toArray, List.set_cons_zero, List.set_cons_succ]; rfl) ?_
      refine Ph.get (i := 17) (v := _) (a' := _) rfl (by kernel_rfl) (by kernel_rfl) (by kernel_rfl) (by kernel_rfl) (fun _ _ _ h => h) hS (Or.inl ⟨by rfl, fun ww hSw => by obtain ⟨s1, s2, s3, s4, s5, s6, s7, s8⟩ := hSw; go_simp <;> rfl⟩) (by simp only [Act.put, List.getElem_toArray, List.getElem_cons_zero, List.getElem_cons_succ, List.setIfInBounds_toArray, List.set_cons_zero, List.set_cons_succ]; rfl) ?_
      refine Ph.one (i := 18) (by kernel_rfl) rfl (fun K hK => ?_)
      go_simp
      refine (HX.out.2.2.2.2.1 _).mono ?_
      rintro e w4 ⟨rfl, b4⟩
      go_simp
      have b5 := (Below.refl wr.heap.size wr).drew.trans b4
      have hR4f := fun j => (Hp.row_later hR b5).frozenAt j
      have hB4 : Blk w4 b 68 #[.slice (some ⟨g', 0, none⟩) (l.length + 1) cap', Hp.less, .map (some mb)] := (b5.block _ hB.lt).trans hB
      have hR4 := Hp.row_later hR b5
      obtain ⟨a0', a1', a2'⟩ := Hp.row3 hR4 HX.out.1
      obtain ⟨e0', e1', e2'⟩ := Hp.row3 hR4 HX.out.2.1
      simp only at a0' a1' a2' e0' e1' e2'
      rw [Tx.v_eq hxb] at a2'
      rw [Tx.v_eq hyb] at e2'
      have hO4 : Bk.Only (fun k => k = g') X6 w4 := HX.out.2.2.2.2.2.2.2.trans (.of b5)
      have c0' := hB4.cell 0
      have c1' := hB4.cell 1
      have hS4 : (fun X : World => X.cell? ⟨b, 0, none⟩ = some (.slice (some ⟨g', 0, none⟩) (l.length + 1) cap') ∧ X.cell? ⟨b, 1, none⟩ = some Hp.less ∧ X.cell? ⟨g', (p + 1) * 3, none⟩ = some (.int .i64 xd) ∧ X.cell? ⟨g', (p + 1) * 3 + 1, none⟩ = some (.int .i64 xi) ∧ X.cell? ⟨g', (p + 1) * 3 + 2, none⟩ = some (.string xb) ∧ X.cell? ⟨g', q * 3, none⟩ = some (.int .i64 yd) ∧ X.cell? ⟨g', q * 3 + 1, none⟩ = some (.int .i64 yi) ∧ X.cell? ⟨g', q * 3 + 2, none⟩ = some (.string yb)) w4 := ⟨c0', c1', a0', a1', a2', e0', e1', e2'⟩
      clear b4 b5 hS hB hR b0 b1 a0 a1 a2 e0 e1 e2
      refine hK.out _ _ hS4 (fun _ => ?_)
      clear hK K
      refine Ph.one (i := 19) (by kernel_rfl) rfl (fun K hK => ?_)
      go_simp
      refine hK.out _ _ hS4 (fun _ => ?_)
      clear hK K
      refine Ph.done (by kernel_rfl) ?_ _
      have HF := Lib.hid (And.intro hB4 (And.intro hR4 hO4))
      clear hB4 hR4 hO4
      cases r with
      | false =>
        clear hS4 c0' c1' a0' a1' a2' e0' e1' e2'
        go_wp2_with fail
        go_ret
        obtain ⟨h3, h4, h5⟩ := HF.out
        obtain ⟨k1, k2, k3, k4, k5, h1, _⟩ := HX.out
        refine ⟨rfl, L, some ⟨g', 0, none⟩, cap', ⟨by rw [hLl]; exact h3, by rw [hLl]; exact h4, (HS.out.2.2.same (h5.block mb HS.out.2.2.lt hmg)).congr (fun x => (h1.mem_iff).symm)⟩, k4.out (by trivial), h1, Hp.only_then HS.out.2.1 (fun k hk => ?_) h5, fun a ha => ?_⟩
        · subst hk
          rcases hA' with ⟨a', e1, e2⟩ | h
          · exact .inl (.inr (.inr ⟨a', e1, e2⟩))
          · exact .inr h
        · obtain rfl := Option.some.inj ha
          exact hA'
      | true =>
        clear c0' c1' a0' a1' a2' e0' e1' e2'
        go_upto_region 10 with fail
        refine Ph.region (fun X : World => X.cell? ⟨b, 0, none⟩ = some (.slice (some ⟨g', 0, none⟩) (l.length + 1) cap') ∧ X.cell? ⟨b, 1, none⟩ = some Hp.less ∧ X.cell? ⟨g', (p + 1) * 3, none⟩ = some (.int .i64 xd) ∧ X.cell? ⟨g', (p + 1) * 3 + 1, none⟩ = some (.int .i64 xi) ∧ X.cell? ⟨g', (p + 1) * 3 + 2, none⟩ = some (.string xb) ∧ X.cell? ⟨g', q * 3, none⟩ = some (.int .i64 yd) ∧ X.cell? ⟨g', q * 3 + 1, none⟩ = some (.int .i64 yi) ∧ X.cell? ⟨g', q * 3 + 2, none⟩ = some (.string yb)) (fun i => i == 25 || i == 27) (by kernel_rfl) hS4 ?_
        have hS5 : (fun X : World => X.cell? ⟨b, 0, none⟩ = some (.slice (some ⟨g', 0, none⟩) (l.length + 1) cap') ∧ X.cell? ⟨b, 1, none⟩ = some Hp.less ∧ X.cell? ⟨g', (p + 1) * 3, none⟩ = some (.int .i64 xd) ∧ X.cell? ⟨g', (p + 1) * 3 + 1, none⟩ = some (.int .i64 xi) ∧ X.cell? ⟨g', (p + 1) * 3 + 2, none⟩ = some (.string xb) ∧ X.cell? ⟨g', q * 3, none⟩ = some (.int .i64 yd) ∧ X.cell? ⟨g', q * 3 + 1, none⟩ = some (.int .i64 yi) ∧ X.cell? ⟨g', q * 3 + 2, none⟩ = some (.string yb)) w4.drew := hS4
        --PP 5 6 7 9 17 18 19 21
        refine Ph.pure (i := 5) (v := _) (a' := _) rfl (by kernel_rfl) (by kernel_rfl) (by kernel_rfl) (fun _ _ _ h => h) (Or.inl ⟨by rfl, fun ww _ => by go_simp <;> rfl⟩) (by simp only [Act.put, List.getElem_toArray, List.getElem_cons_zero, List.getElem_cons_succ, List.setIfInBounds_toArray, List.set_cons_zero, List.set_cons_succ]; rfl) ?_
        refine Ph.pure (i := 6) (v := _) (a' := _) rfl (by kernel_rfl) (by kernel_rfl) (by kernel_rfl) (fun _ _ _ h => h) (Or.inl ⟨by rfl, fun ww _ => by go_simp <;> rfl⟩) (by simp only [Act.put, List.getElem_toArray, List.getElem_cons_zero, List.getElem_cons_succ, List.setIfInBounds_toArray, List.set_cons_zero, List.set_cons_succ]; rfl) ?_
        refine Ph.pure (i := 7) (v := _) (a' := _) rfl (by kernel_rfl) (by kernel_rfl) (by kernel_rfl) (fun _ _ _ h => h) (Or.inl ⟨by rfl, fun ww _ => by go_simp <;> rfl⟩) (by simp only [Act.put, List.getElem_toArray, List.getElem_cons_zero, List.getElem_cons_succ, List.setIfInBounds_toArray, List.set_cons_zero, List.set_cons_succ]; rfl) ?_
        refine Ph.pure (i := 9) (v := _) (a' := _) rfl (by kernel_rfl) (by kernel_rfl) (by kernel_rfl) (fun _ _ _ h => h) (Or.inl ⟨by rfl, fun ww _ => by go_simp <;> rfl⟩) (by simp only [Act.put, List.getElem_toArray, List.getElem_cons_zero, List.getElem_cons_succ, List.setIfInBounds_toArray, List.set_cons_zero, List.set_cons_succ]; rfl) ?_
        refine Ph.pure (i := 17) (v := _) (a' := _) rfl (by kernel_rfl) (by kernel_rfl) (by kernel_rfl) (fun _ _ _ h => h) (Or.inl ⟨by rfl, fun ww _ => by go_simp <;> rfl⟩) (by simp only [Act.put, List.getElem_toArray, List.getElem_cons_zero, List.getElem_cons_succ, List.setIfInBounds_toArray, List.set_cons_zero, List.set_cons_succ]; rfl) ?_
        refine Ph.pure (i := 18) (v := _) (a' := _) rfl (by kernel_rfl) (by kernel_rfl) (by kernel_rfl) (fun _ _ _ h => h) (Or.inl ⟨by rfl, fun ww _ => by go_simp <;> rfl⟩) (by simp only [Act.put, List.getElem_toArray, List.getElem_cons_zero, List.getElem_cons_succ, List.setIfInBounds_toArray, List.set_cons_zero, List.set_cons_succ]; rfl) ?_
        refine Ph.pure (i := 19) (v := _) (a' := _) rfl (by kernel_rfl) (by kernel_rfl) (by kernel_rfl) (fun _ _ _ h => h) (Or.inl ⟨by rfl, fun ww _ => by go_simp <;> rfl⟩) (by simp only [Act.put, List.getElem_toArray, List.getElem_cons_zero, List.getElem_cons_succ, List.setIfInBounds_toArray, List.set_cons_zero, List.set_cons_succ]; rfl) ?_
        refine Ph.pure (i := 21) (v := _) (a' := _) rfl (by kernel_rfl) (by kernel_rfl) (by kernel_rfl) (fun _ _ _ h => h) (Or.inl ⟨by rfl, fun ww _ => by go_simp <;> rfl⟩) (by simp only [Act.put, List.getElem_toArray, List.getElem_cons_zero, List.getElem_cons_succ, List.setIfInBounds_toArray, List.set_cons_zero, List.set_cons_succ]; rfl) ?_
        --PH 0 1 2 3 4 8 10 11 12 13 14 15 16 20; ⟨s1, s2, s3, s4, s5, s6, s7, s8⟩; hS5
        refine Ph.get (i := 0) (v := _) (a' := _) rfl (by kernel_rfl) (by kernel_rfl) (by kernel_rfl) (by kernel_rfl) (fun _ _ _ h => h) hS5 (Or.inl ⟨by rfl, fun ww hSw => by obtain ⟨s1, s2, s3, s4, s5, s6, s7, s8⟩ := hSw; go_simp <;> rfl⟩) (by simp only [Act.put, List.getElem_toArray, List.getElem_cons_zero, List.getElem_cons_succ, List.setIfInBounds_toArray, List.set_cons_zero, List.set_cons_succ]; rfl) ?_
        refine Ph.get (i := 1) (v := _) (a' := _) rfl (by kernel_rfl) (by kernel_rfl) (by kernel_rfl) (by kernel_rfl) (fun _ _ _ h => h) hS5 (Or.inl ⟨by rfl, fun ww hSw => by obtain ⟨s1, s2, s3, s4, s5, s6, s7, s8⟩ := hSw; go_simp <;> rfl⟩) (by simp only [Act.put, List.getElem_toArray, List.getElem_cons_zero, List.getElem_cons_succ, List.setIfInBounds_toArray, List.set_cons_zero, List.set_cons_succ]; rfl) ?_
        refine Ph.get (i := 2) (v := _) (a' := _) rfl (by kernel_rfl) (by kernel_rfl) (by kernel_rfl) (by kernel_rfl) (fun _ _ _ h => h) hS5 (Or.inl ⟨by rfl, fun ww hSw => by obtain ⟨s1, s2, s3, s4, s5, s6, s7, s8⟩ := hSw; go_simp <;> rfl⟩) (by simp only [Act.put, List.getElem_toArray, List.getElem_cons_zero, List.getElem_cons_succ, List.setIfInBounds_toArray, List.set_cons_zero, List.set_cons_succ]; rfl) ?_
        refine Ph.get (i := 3) (v := _) (a' := _) rfl (by kernel_rfl) (by kernel_rfl) (by kernel_rfl) (by kernel_rfl) (fun _ _ _ h => h) hS5 (Or.inl ⟨by rfl, fun ww hSw => by obtain ⟨s1, s2, s3, s4, s5, s6, s7, s8⟩ := hSw; go_simp <;> rfl⟩) (by simp only [Act.put, List.getElem_toArray, List.getElem_cons_zero, List.getElem_cons_succ, List.setIfInBounds_toArray, List.set_cons_zero, List.set_cons_succ]; rfl) ?_
        refine Ph.get (i := 4) (v := _) (a' := _) rfl (by kernel_rfl) (by kernel_rfl) (by kernel_rfl) (by kernel_rfl) (fun _ _ _ h => h) hS5 (Or.inl ⟨by rfl, fun ww hSw => by obtain ⟨s1, s2, s3, s4, s5, s6, s7, s8⟩ := hSw; go_simp <;> rfl⟩) (by simp only [Act.put, List.getElem_toArray, List.getElem_cons_zero, List.getElem_cons_succ, List.setIfInBounds_toArray, List.set_cons_zero, List.set_cons_succ]; rfl) ?_
        refine Ph.get (i := 8) (v := _) (a' := _) rfl (by kernel_rfl) (by kernel_rfl) (by kernel_rfl) (by kernel_rfl) (fun _ _ _ h => h) hS5 (Or.inl ⟨by rfl, fun ww hSw => by obtain ⟨s1, s2, s3, s4, s5, s6, s7, s8⟩ := hSw; go_simp <;> rfl⟩) (by simp only [Act.put, List.getElem_toArray, List.getElem_cons_zero, List.getElem_cons_succ, List.setIfInBounds_toArray, List.set_cons_zero, List.set_cons_succ]; rfl) ?_
        refine Ph.get (i := 10) (v := _) (a' := _) rfl (by kernel_rfl) (by kernel_rfl) (by kernel_rfl) (by kernel_rfl) (fun _ _ _ h => h) hS5 (Or.inl ⟨by rfl, fun ww hSw => by obtain ⟨s1, s2, s3, s4, s5, s6, s7, s8⟩ := hSw; go_simp <;> rfl⟩) (by simp only [Act.put, List.getElem_toArray, List.getElem_cons_zero, List.getElem_cons_succ, List.setIfInBounds_toArray, List.set_cons_zero, List.set_cons_succ]; rfl) ?_
        refine Ph.get (i := 11) (v := _) (a' := _) rfl (by kernel_rfl) (by kernel_rfl) (by kernel_rfl) (by kernel_rfl) (fun _ _ _ h => h) hS5 (Or.inl ⟨by rfl, fun ww hSw => by obtain ⟨s1, s2, s3, s4, s5, s6, s7, s8⟩ := hSw; go_simp <;> rfl⟩) (by simp only [Act.put, List.getElem_toArray, List.getElem_cons_zero, List.getElem_cons_succ, List.setIfInBounds_toArray, List.set_cons_zero, List.set_cons_succ]; rfl) ?_
        refine Ph.get (i := 12) (v := _) (a' := _) rfl (by kernel_rfl) (by kernel_rfl) (by kernel_rfl) (by kernel_rfl) (fun _ _ _ h => h) hS5 (Or.inl ⟨by rfl, fun ww hSw => by obtain ⟨s1, s2, s3, s4, s5, s6, s7, s8⟩ := hSw; go_simp <;> rfl⟩) (by simp only [Act.put, List.getElem_toArray, List.getElem_cons_zero, List.getElem_cons_succ, List.setIfInBounds_toArray, List.set_cons_zero, List.set_cons_succ]; rfl) ?_
        refine Ph.get (i := 13) (v := _) (a' := _) rfl (by kernel_rfl) (by kernel_rfl) (by kernel_rfl) (by kernel_rfl) (fun _ _ _ h => h) hS5 (Or.inl ⟨by rfl, fun ww hSw => by obtain ⟨s1, s2, s3, s4, s5, s6, s7, s8⟩ := hSw; go_simp <;> rfl⟩) (by simp only [Act.put, List.getElem_toArray, List.getElem_cons_zero, List.getElem_cons_succ, List.setIfInBounds_toArray, List.set_cons_zero, List.set_cons_succ]; rfl) ?_
        refine Ph.get (i := 14) (v := _) (a' := _) rfl (by kernel_rfl) (by kernel_rfl) (by kernel_rfl) (by kernel_rfl) (fun _ _ _ h => h) hS5 (Or.inl ⟨by rfl, fun ww hSw => by obtain ⟨s1, s2, s3, s4, s5, s6, s7, s8⟩ := hSw; go_simp <;> rfl⟩) (by simp only [Act.put, List.getElem_toArray, List.getElem_cons_zero, List.getElem_cons_succ, List.setIfInBounds_toArray, List.set_cons_zero, List.set_cons_succ]; rfl) ?_
        refine Ph.get (i := 15) (v := _) (a' := _) rfl (by kernel_rfl) (by kernel_rfl) (by kernel_rfl) (by kernel_rfl) (fun _ _ _ h => h) hS5 (Or.inl ⟨by rfl, fun ww hSw => by obtain ⟨s1, s2, s3, s4, s5, s6, s7, s8⟩ := hSw; go_simp <;> rfl⟩) (by simp only [Act.put, List.getElem_toArray, List.getElem_cons_zero, List.getElem_cons_succ, List.setIfInBounds_toArray, List.set_cons_zero, List.set_cons_succ]; rfl) ?_
        refine Ph.get (i := 16) (v := _) (a' := _) rfl (by kernel_rfl) (by kernel_rfl) (by kernel_rfl) (by kernel_rfl) (fun _ _ _ h => h) hS5 (Or.inl ⟨by rfl, fun ww hSw => by obtain ⟨s1, s2, s3, s4, s5, s6, s7, s8⟩ := hSw; go_simp <;> rfl⟩) (by simp only [Act.put, List.getElem_toArray, List.getElem_cons_zero, List.getElem_cons_succ, List.setIfInBounds_toArray, List.set_cons_zero, List.set_cons_succ]; rfl) ?_
        refine Ph.get (i := 20) (v := _) (a' := _) rfl (by kernel_rfl) (by kernel_rfl) (by kernel_rfl) (by kernel_rfl) (fun _ _ _ h => h) hS5 (Or.inl ⟨by rfl, fun ww hSw => by obtain ⟨s1, s2, s3, s4, s5, s6, s7, s8⟩ := hSw; go_simp <;> rfl⟩) (by simp only [Act.put, List.getElem_toArray, List.getElem_cons_zero, List.getElem_cons_succ, List.setIfInBounds_toArray, List.set_cons_zero, List.set_cons_succ]; rfl) ?_
        --PP 22
        refine Ph.pure (i := 22) (v := _) (a' := _) rfl (by kernel_rfl) (by kernel_rfl) (by kernel_rfl) (fun _ _ _ h => h) (Or.inl ⟨by rfl, fun ww _ => by go_simp <;> rfl⟩) (by simp only [Act.put, List.getElem_toArray, List.getElem_cons_zero, List.getElem_cons_succ, List.setIfInBounds_toArray, List.set_cons_zero, List.set_cons_succ]; rfl) ?_
        --PH 23 24; ⟨s1, s2, s3, s4, s5, s6, s7, s8⟩; hS5
        refine Ph.get (i := 23) (v := _) (a' := _) rfl (by kernel_rfl) (by kernel_rfl) (by kernel_rfl) (by kernel_rfl) (fun _ _ _ h => h) hS5 (Or.inl ⟨by rfl, fun ww hSw => by obtain ⟨s1, s2, s3, s4, s5, s6, s7, s8⟩ := hSw; go_simp <;> rfl⟩) (by simp only [Act.put, List.getElem_toArray, List.getElem_cons_zero, List.getElem_cons_succ, List.setIfInBounds_toArray, List.set_cons_zero, List.set_cons_succ]; rfl) ?_
        refine Ph.get (i := 24) (v := _) (a' := _) rfl (by kernel_rfl) (by kernel_rfl) (by kernel_rfl) (by kernel_rfl) (fun _ _ _ h => h) hS5 (Or.inl ⟨by rfl, fun ww hSw => by obtain ⟨s1, s2, s3, s4, s5, s6, s7, s8⟩ := hSw; go_simp <;> rfl⟩) (by simp only [Act.put, List.getElem_toArray, List.getElem_cons_zero, List.getElem_cons_succ, List.setIfInBounds_toArray, List.set_cons_zero, List.set_cons_succ]; rfl) ?_
        have hf := fun j => hR4f j
        refine Ph.last (i := 25) (by kernel_rfl) rfl rfl (fun K hK => ?_)
        go_simp
        refine hK.out _ _ ?_
        clear hK K
        have hR5 : ∃ C : List Pb.H, (((w4.setCell ⟨g', (p + 1) * 3, none⟩ (.int .i64 yd)).setCell ⟨g', (p + 1) * 3 + 1, none⟩ (.int .i64 yi)).setCell ⟨g', (p + 1) * 3 + 2, none⟩ (.string yb)).drew.ownsRow 0 50 3 (.slice (some ⟨g', 0, none⟩) (l.length + 1) cap') (l.length + 1) (Hp.cs C) ∧ C = L.set (p + 1) ⟨yd, yi, yc⟩ := by
          have := (Hp.row_put HF.out.2.1 (p + 1) ⟨yd, yi, yc⟩).1
          rw [Tx.v_eq hyb] at this
          exact ⟨_, this, rfl⟩
        obtain ⟨C5, hR5, hC5⟩ := hR5
        have hO5 : Bk.Only (fun k => k = g') X6 (((w4.setCell ⟨g', (p + 1) * 3, none⟩ (.int .i64 yd)).setCell ⟨g', (p + 1) * 3 + 1, none⟩ (.int .i64 yi)).setCell ⟨g', (p + 1) * 3 + 2, none⟩ (.string yb)).drew := (((HF.out.2.2.setCell (p := ⟨g', (p + 1) * 3, none⟩) (.inl rfl) _).setCell (p := ⟨g', (p + 1) * 3 + 1, none⟩) (.inl rfl) _).setCell (p := ⟨g', (p + 1) * 3 + 2, none⟩) (.inl rfl) _).drew
        have hB5 : Blk (((w4.setCell ⟨g', (p + 1) * 3, none⟩ (.int .i64 yd)).setCell ⟨g', (p + 1) * 3 + 1, none⟩ (.int .i64 yi)).setCell ⟨g', (p + 1) * 3 + 2, none⟩ (.string yb)).drew b 68 #[.slice (some ⟨g', 0, none⟩) (l.length + 1) cap', Hp.less, .map (some mb)] := ((HF.out.1.far (p := ⟨g', (p + 1) * 3, none⟩) hbg _).far (p := ⟨g', (p + 1) * 3 + 1, none⟩) hbg _).far (p := ⟨g', (p + 1) * 3 + 2, none⟩) hbg _
        generalize (((w4.setCell ⟨g', (p + 1) * 3, none⟩ (.int .i64 yd)).setCell ⟨g', (p + 1) * 3 + 1, none⟩ (.int .i64 yi)).setCell ⟨g', (p + 1) * 3 + 2, none⟩ (.string yb)).drew = w5 at hR5 hO5 hB5 ⊢
        clear hS5 hS4 hf hR4f
        --PP 26
        refine Ph.pure (i := 26) (v := _) (a' := _) rfl (by kernel_rfl) (by kernel_rfl) (by kernel_rfl) (fun _ _ _ h => h) (Or.inl ⟨by rfl, fun ww _ => by go_simp <;> rfl⟩) (by simp only [Act.put, List.getElem_toArray, List.getElem_cons_zero, List.getElem_cons_succ, List.setIfInBounds_toArray, List.set_cons_zero, List.set_cons_succ]; rfl) ?_
        obtain ⟨z, hz⟩ : ∃ z, C5[q]? = some z := ⟨_, List.getElem?_eq_getElem (by rw [hC5, List.length_set]; omega)⟩
        obtain ⟨e0, e1, e2⟩ := Hp.row3 hR5 hz
        have f0 := hR5.frozenAt (q * 3)
        have f1 := hR5.frozenAt (q * 3 + 1)
        have f2 := hR5.frozenAt (q * 3 + 2)
        have HG := Lib.hid (And.intro hR5 (And.intro hO5 hB5))
        clear hR5 hO5 hB5 hz
        refine Ph.last (i := 27) (by kernel_rfl) rfl rfl (fun K hK => ?_)
        go_simp
        refine hK.out _ _ ?_
        clear hK K
        refine Ph.done (by kernel_rfl) ?_ _
        go_wp2_with fail
        go_roundg q
        case measure => omega
        case rel =>
          obtain ⟨k1, k2, k3, k4, k5, h1, h2, h3⟩ := HX.out
          obtain ⟨h4, h5, h6⟩ := HG.out
          have hsw : C5.set q ⟨xd, xi, xc⟩ = Hp.swap L (p + 1) q ⟨xd, xi, xc⟩ ⟨yd, yi, yc⟩ := by rw [hC5]; rfl
          refine ⟨C5.set q ⟨xd, xi, xc⟩, rfl, by omega, by rw [List.length_set, hC5, List.length_set, hLl], ?_, ?_, ?_, ?_, ?_⟩
          · rw [hsw]; exact (Hp.swap_perm k1 k2).trans h1
          · rw [hsw]; exact k3 (by trivial)
          · exact ((h6.far (p := ⟨g', q * 3, none⟩) hbg _).far (p := ⟨g', q * 3 + 1, none⟩) hbg _).far (p := ⟨g', q * 3 + 2, none⟩) hbg _
          · have := (Hp.row_put h4 q ⟨xd, xi, xc⟩).1
            rw [Tx.v_eq hxb] at this
            exact this
          · exact ((h5.setCell (p := ⟨g', q * 3, none⟩) (.inl rfl) _).setCell (p := ⟨g', q * 3 + 1, none⟩) (.inl rfl) _).setCell (p := ⟨g', q * 3 + 2, none⟩) (.inl rfl) _
end Go.Proofs.YtlfeibaghfcpaaaDoor
