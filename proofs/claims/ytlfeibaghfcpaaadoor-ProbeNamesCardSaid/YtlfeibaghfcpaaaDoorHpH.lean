/- Contract of best.pile.drop. Conditions: each theorem's own hypotheses. -/
import Derived.Test.YtlfeibaghfcpaaaDoorHpG
namespace Go.Proofs.YtlfeibaghfcpaaaDoor
open Go.RowKit Go.Maps
set_option linter.unusedVariables false
set_option linter.unusedSimpArgs false
attribute [local go_sem] Hp.less

theorem Hp.row_cut {w : World} {B g n cap i : Nat} {C : List Pb.H} (h : w.ownsRow B 50 3 (.slice (some ⟨g, 0, none⟩) n cap) n (Hp.cs C)) (hi : i ≤ n) : w.ownsRow B 50 3 (.slice (some ⟨g, 0, none⟩) i cap) i (Hp.cs (C.take i)) := by
  have hl : C.length = n := by have := h.1; rw [Hp.cs_len] at this; omega
  rcases h.2 with ⟨h', _⟩ | ⟨g', cap', cur, h', hb, hg, hnc, hcm, hcs, htake⟩
  · simp at h'
  · simp only [Value.slice.injEq, Option.some.injEq, Addr.mk.injEq, and_true, true_and] at h'
    obtain ⟨rfl, rfl⟩ := h'
    refine ⟨by rw [Hp.cs_len, List.length_take]; congr 1; omega, .inr ⟨g, cap, cur, rfl, hb, hg, by omega, hcm, hcs, ?_⟩⟩
    have := congrArg (List.take (i * 3)) htake
    rw [List.take_take, Nat.min_eq_left (Nat.mul_le_mul_right _ hi)] at this
    rw [this, Hp.cs_take]
/-- Between two rounds of drop's outer loop. -/
def Hp.DnL (X : World) (b mb : Nat) (lh : List Pb.H) (g cap n : Nat) (m : Nat) (iv : Value) (wr : World) : Prop :=
  ∃ (i : Nat) (L : List Pb.H), iv = .int .i64 (i : Nat) ∧ (i < n ∨ i = 0) ∧ m = n - i ∧ L.length = n ∧ L.Perm lh ∧ Hp.Down Pb.gt L i ∧ Blk wr b 68 #[.slice (some ⟨g, 0, none⟩) n cap, Hp.less, .map (some mb)] ∧
    wr.ownsRow 0 50 3 (.slice (some ⟨g, 0, none⟩) n cap) n (Hp.cs L) ∧ Bk.Only (fun k => k = g) X wr
/-- The greatest of an element and of those that hang under it, up to k. -/
structure Hp.Nx (L : List Pb.H) (i n k nx : Nat) : Prop where
  at_ : nx = i ∨ (2 * i + 1 ≤ nx ∧ nx < k ∧ nx < n ∧ ∀ a b, L[nx]? = some a → L[i]? = some b → Pb.gt a b = true)
  big : ∀ k' x y, 2 * i + 1 ≤ k' → k' < k → L[k']? = some x → L[nx]? = some y → Pb.gt x y = false
theorem Hp.Nx.start (L : List Pb.H) (i n : Nat) : Hp.Nx L i n (2 * i + 1) i := ⟨.inl rfl, fun k' x y h1 h2 => absurd h1 (by omega)⟩
theorem Hp.Nx.less {L : List Pb.H} {i n k nx : Nat} (h : Hp.Nx L i n k nx) {x y : Pb.H} (hx : L[k]? = some x) (hy : L[nx]? = some y) (hg : Pb.gt x y = false) : Hp.Nx L i n (k + 1) nx where
  at_ := h.at_.imp id fun ⟨h1, h2, h3, h4⟩ => ⟨h1, by omega, h3, h4⟩
  big k' x' y' h1 h2 h3 h4 := by
    by_cases e : k' = k
    · subst e
      rw [hx] at h3
      rw [hy] at h4
      rw [← Option.some.inj h3, ← Option.some.inj h4]
      exact hg
    · exact h.big k' x' y' h1 (by omega) h3 h4
theorem Hp.Nx.more {L : List Pb.H} {i n k nx : Nat} (h : Hp.Nx L i n k nx) {x y : Pb.H} (hx : L[k]? = some x) (hy : L[nx]? = some y) (hg : Pb.gt x y = true) (hk : k < n) (hik : 2 * i + 1 ≤ k) : Hp.Nx L i n (k + 1) k where
  at_ := .inr ⟨hik, by omega, hk, fun a b' h1 h2 => by
    rw [hx] at h1
    obtain rfl := Option.some.inj h1
    rcases h.at_ with e | ⟨_, _, _, h4⟩
    · subst e
      rw [hy] at h2
      rw [← Option.some.inj h2]; exact hg
    · exact Pb.ord.trans hg (h4 y b' hy h2)⟩
  big k' x' y' h1 h2 h3 h4 := by
    rw [hx] at h4
    obtain rfl := Option.some.inj h4
    by_cases e : k' = k
    · subst e
      rw [hx] at h3
      obtain rfl := Option.some.inj h3
      exact Pb.ord.irrefl _
    · exact Pb.ord.le_trans (h.big k' x' y h1 (by omega) h3 hy) (Pb.ord.asymm hg)
/-- Between two rounds of the inner loop. -/
def Hp.DnI (X : World) (b mb : Nat) (L : List Pb.H) (g cap n i : Nat) (m : Nat) (nv kv : Value) (wr : World) : Prop :=
  ∃ nx k : Nat, nv = .int .i64 (nx : Nat) ∧ kv = .int .i64 (k : Nat) ∧ 2 * i + 1 ≤ k ∧ m + k = 2 * i + 3 ∧ Hp.Nx L i n k nx ∧ Blk wr b 68 #[.slice (some ⟨g, 0, none⟩) n cap, Hp.less, .map (some mb)] ∧
    wr.ownsRow 0 50 3 (.slice (some ⟨g, 0, none⟩) n cap) n (Hp.cs L) ∧ Bk.Only (fun k => k = g) X wr
set_option maxRecDepth 100000 in
set_option maxHeartbeats 4000000 in
theorem Hp.drop_any {W : World} {b c : Nat} {l : List Pb.H} {A : Option Addr} {cap mb n : Nat} (hA : Hp.At W b c l A cap mb) (hH : Hp.Heap Pb.gt l) (hok : ∀ x ∈ l, Hp.Ok x) (hn : l.length = n + 1) (hnd : l.Nodup) (hl : l.length ≤ 4398046511104) :
    Calls Tryd.prog 35 #[.pointer (some ⟨b, 0, none⟩)] W fun e W' => e = .returned (.tuple #[]) ∧ ∃ t x, l[0]? = some t ∧ l[l.length - 1]? = some x ∧ Hp.Grown W W' b c A mb ((l.set 0 x).take (l.length - 1)) := by
  obtain ⟨t, ht⟩ : ∃ t, l[0]? = some t := ⟨_, List.getElem?_eq_getElem (by omega)⟩
  obtain ⟨x, hx⟩ : ∃ x, l[n]? = some x := ⟨_, List.getElem?_eq_getElem (by omega)⟩
  have hx' : l[l.length - 1]? = some x := by rw [hn]; exact hx
  have hstart := Hp.Down.start hH hx'
  have hperm := Hp.drop_perm ht hx'
  have e1 : l.length - 1 = n := by omega
  rw [e1] at hstart hperm
  have hB := hA.blk
  have hR := hA.row
  rw [hn] at hB hR
  obtain ⟨g, rfl⟩ : ∃ g, A = some ⟨g, 0, none⟩ := by
    rcases hR.2 with ⟨e, _⟩ | ⟨g, cap', cur, e, _⟩
    · injection e with _ e2; omega
    · injection e with e; exact ⟨g, e⟩
  have hcap : n < cap := by
    rcases hR.2 with ⟨e, _⟩ | ⟨g', cap', cur, e, _, _, h, _⟩
    · cases e
    · injection e with _ _ e3; omega
  have hbg : b ≠ g := hA.b_row rfl
  have hmg : mb ≠ g := hA.mb_row rfl
  have hbm : b ≠ mb := hA.b_mb
  have hdel := fun X (hX : Hp.Set X mb c l) ty => hX.del t (hok t (List.mem_of_getElem? ht)) ty
  have hmem : ∀ y, y ∈ (l.set 0 x).take n ↔ y ∈ l ∧ y ≠ t := fun y => by
    have hnd2 : (t :: (l.set 0 x).take n).Nodup := hperm.nodup_iff.2 hnd
    rw [← hperm.mem_iff, List.mem_cons]
    constructor
    · intro h
      exact ⟨.inr h, fun e => (List.nodup_cons.1 hnd2).1 (e ▸ h)⟩
    · rintro ⟨h1 | h1, h2⟩
      · exact absurd h1 h2
      · exact h1
  have hgr : Hp.Grown W = fun W' => Hp.Grown W W' := rfl
  suffices hfin : Calls Tryd.prog 35 #[.pointer (some ⟨b, 0, none⟩)] W fun e W' => e = .returned (.tuple #[]) ∧ Hp.Grown W W' b c (some ⟨g, 0, none⟩) mb ((l.set 0 x).take n) by
    refine hfin.mono fun e W' ⟨h1, h2⟩ => ⟨h1, t, x, ht, hx', by rw [e1]; exact h2⟩
  obtain ⟨a0, a1, a2⟩ := Hp.row3 hR ht
  obtain ⟨d0, d1, d2⟩ := Hp.row3 hR hx
  obtain ⟨td, ti, tc⟩ := t
  obtain ⟨xd, xi, xc⟩ := x
  obtain ⟨tb, htb, _⟩ := Tx.of tc
  obtain ⟨xb, hxb, _⟩ := Tx.of xc
  simp only [Nat.zero_mul, Nat.zero_add] at a0 a1 a2 d0 d1 d2
  rw [Tx.v_eq htb] at a2
  rw [Tx.v_eq hxb] at d2
  unfold Hp.enc at hdel
  simp only at hdel
  rw [Tx.v_eq htb] at hdel
  have c0 := hB.cell 0
  have c2 := hB.cell 2
  have hn1 : n + 1 ≤ 4398046511104 := by omega
  have hf := fun j => hR.frozenAt j
  have HD := Lib.hid (And.intro hdel (And.intro hmem (And.intro hstart (And.intro hA.has hn))))
  clear hdel hmem hstart hperm hH hok hnd hl hn ht hx hx' e1 hA hgr
  go_enter Tryd.func35, Tryd.ntmps35
  go_upto_region 1 with fail
  have hS : (fun X : World => X.cell? ⟨b, 0, none⟩ = some (.slice (some ⟨g, 0, none⟩) (n + 1) cap) ∧ X.cell? ⟨b, 2, none⟩ = some (.map (some mb)) ∧ X.cell? ⟨g, 0, none⟩ = some (.int .i64 td) ∧ X.cell? ⟨g, 1, none⟩ = some (.int .i64 ti) ∧ X.cell? ⟨g, 2, none⟩ = some (.string tb)) W.drew := ⟨c0, c2, a0, a1, a2⟩
  refine Ph.region (fun X : World => X.cell? ⟨b, 0, none⟩ = some (.slice (some ⟨g, 0, none⟩) (n + 1) cap) ∧ X.cell? ⟨b, 2, none⟩ = some (.map (some mb)) ∧ X.cell? ⟨g, 0, none⟩ = some (.int .i64 td) ∧ X.cell? ⟨g, 1, none⟩ = some (.int .i64 ti) ∧ X.cell? ⟨g, 2, none⟩ = some (.string tb)) (fun _ => false) (by kernel_rfl) hS ?_
  --PH 0 1 2 3 4 5 6 7 8 9; ⟨s1, s2, s3, s4, s5⟩; hS
  refine Ph.get (i := 0) (v := _) (a' := _) rfl (by kernel_rfl) (by kernel_rfl) (by kernel_rfl) (by kernel_rfl) (fun _ _ _ h => h) hS (Or.inl ⟨by rfl, fun ww hSw => by obtain ⟨s1, s2, s3, s4, s5⟩ := hSw; go_simp <;> rfl⟩) (by simp only [Act.put, List.getElem_toArray, List.getElem_cons_zero, List.getElem_cons_succ, List.setIfInBounds_toArray, List.set_cons_zero, List.set_cons_succ]; rfl) ?_
  refine Ph.get (i := 1) (v := _) (a' := _) rfl (by kernel_rfl) (by kernel_rfl) (by kernel_rfl) (by kernel_rfl) (fun _ _ _ h => h) hS (Or.inl ⟨by rfl, fun ww hSw => by obtain ⟨s1, s2, s3, s4, s5⟩ := hSw; go_simp <;> rfl⟩) (by simp only [Act.put, List.getElem_toArray, List.getElem_cons_zero, List.getElem_cons_succ, List.setIfInBounds_toArray, List.set_cons_zero, List.set_cons_succ]; rfl) ?_
  refine Ph.get (i := 2) (v := _) (a' := _) rfl (by kernel_rfl) (by kernel_rfl) (by kernel_rfl) (by kernel_rfl) (fun _ _ _ h => h) hS (Or.inl ⟨by rfl, fun ww hSw => by obtain ⟨s1, s2, s3, s4, s5⟩ := hSw; go_simp <;> rfl⟩) (by simp only [Act.put, List.getElem_toArray, List.getElem_cons_zero, List.getElem_cons_succ, List.setIfInBounds_toArray, List.set_cons_zero, List.set_cons_succ]; rfl) ?_
  refine Ph.get (i := 3) (v := _) (a' := _) rfl (by kernel_rfl) (by kernel_rfl) (by kernel_rfl) (by kernel_rfl) (fun _ _ _ h => h) hS (Or.inl ⟨by rfl, fun ww hSw => by obtain ⟨s1, s2, s3, s4, s5⟩ := hSw; go_simp <;> rfl⟩) (by simp only [Act.put, List.getElem_toArray, List.getElem_cons_zero, List.getElem_cons_succ, List.setIfInBounds_toArray, List.set_cons_zero, List.set_cons_succ]; rfl) ?_
  refine Ph.get (i := 4) (v := _) (a' := _) rfl (by kernel_rfl) (by kernel_rfl) (by kernel_rfl) (by kernel_rfl) (fun _ _ _ h => h) hS (Or.inl ⟨by rfl, fun ww hSw => by obtain ⟨s1, s2, s3, s4, s5⟩ := hSw; go_simp <;> rfl⟩) (by simp only [Act.put, List.getElem_toArray, List.getElem_cons_zero, List.getElem_cons_succ, List.setIfInBounds_toArray, List.set_cons_zero, List.set_cons_succ]; rfl) ?_
  refine Ph.get (i := 5) (v := _) (a' := _) rfl (by kernel_rfl) (by kernel_rfl) (by kernel_rfl) (by kernel_rfl) (fun _ _ _ h => h) hS (Or.inl ⟨by rfl, fun ww hSw => by obtain ⟨s1, s2, s3, s4, s5⟩ := hSw; go_simp <;> rfl⟩) (by simp only [Act.put, List.getElem_toArray, List.getElem_cons_zero, List.getElem_cons_succ, List.setIfInBounds_toArray, List.set_cons_zero, List.set_cons_succ]; rfl) ?_
  refine Ph.get (i := 6) (v := _) (a' := _) rfl (by kernel_rfl) (by kernel_rfl) (by kernel_rfl) (by kernel_rfl) (fun _ _ _ h => h) hS (Or.inl ⟨by rfl, fun ww hSw => by obtain ⟨s1, s2, s3, s4, s5⟩ := hSw; go_simp <;> rfl⟩) (by simp only [Act.put, List.getElem_toArray, List.getElem_cons_zero, List.getElem_cons_succ, List.setIfInBounds_toArray, List.set_cons_zero, List.set_cons_succ]; rfl) ?_
  refine Ph.get (i := 7) (v := _) (a' := _) rfl (by kernel_rfl) (by kernel_rfl) (by kernel_rfl) (by kernel_rfl) (fun _ _ _ h => h) hS (Or.inl ⟨by rfl, fun ww hSw => by obtain ⟨s1, s2, s3, s4, s5⟩ := hSw; go_simp <;> rfl⟩) (by simp only [Act.put, List.getElem_toArray, List.getElem_cons_zero, List.getElem_cons_succ, List.setIfInBounds_toArray, List.set_cons_zero, List.set_cons_succ]; rfl) ?_
  refine Ph.get (i := 8) (v := _) (a' := _) rfl (by kernel_rfl) (by kernel_rfl) (by kernel_rfl) (by kernel_rfl) (fun _ _ _ h => h) hS (Or.inl ⟨by rfl, fun ww hSw => by obtain ⟨s1, s2, s3, s4, s5⟩ := hSw; go_simp <;> rfl⟩) (by simp only [Act.put, List.getElem_toArray, List.getElem_cons_zero, List.getElem_cons_succ, List.setIfInBounds_toArray, List.set_cons_zero, List.set_cons_succ]; rfl) ?_
  refine Ph.get (i := 9) (v := _) (a' := _) rfl (by kernel_rfl) (by kernel_rfl) (by kernel_rfl) (by kernel_rfl) (fun _ _ _ h => h) hS (Or.inl ⟨by rfl, fun ww hSw => by obtain ⟨s1, s2, s3, s4, s5⟩ := hSw; go_simp <;> rfl⟩) (by simp only [Act.put, List.getElem_toArray, List.getElem_cons_zero, List.getElem_cons_succ, List.setIfInBounds_toArray, List.set_cons_zero, List.set_cons_succ]; rfl) ?_
  refine Ph.one (i := 10) (by kernel_rfl) rfl (fun K hK => ?_)
  obtain ⟨W1, r1, m1, g1, z1⟩ := HD.out.1 W.drew (HD.out.2.2.2.1.same rfl) 0
  go_simp
  have B1 : Blk W1 b 68 #[.slice (some ⟨g, 0, none⟩) (n + 1) cap, Hp.less, .map (some mb)] := (show Blk W.drew b _ _ from hB).grown g1 (fun e => hbm (Option.some.inj e))
  have R1 : W1.ownsRow 0 50 3 (.slice (some ⟨g, 0, none⟩) (n + 1) cap) (n + 1) (Hp.cs l) := (show W.drew.ownsRow 0 50 3 (.slice (some ⟨g, 0, none⟩) (n + 1) cap) (n + 1) (Hp.cs l) from hR).kept g1 (.inr (fun e => hmg (Option.some.inj e).symm))
  have M1 : Hp.Set W1 mb c ((l.set 0 ⟨xd, xi, xc⟩).take n) := m1 _ HD.out.2.1
  have O1 : Bk.Only (Hp.foot b mb (some ⟨g, 0, none⟩)) W W1 := ((Bk.Only.refl _ W).drew).grown g1 (fun k e => .inl (.inr (.inl (Option.some.inj e).symm)))
  have g1c := fun (p : Addr) (hp : p.block ≠ mb) (hq : p.block < W.heap.size) => g1.block p.block hq (fun e => hp (Option.some.inj e))
  have hlx : l.length = n + 1 := HD.out.2.2.2.2
  obtain ⟨xx, hxx⟩ : ∃ y, l[n]? = some y := ⟨_, List.getElem?_eq_getElem (by omega)⟩
  have hgl := World.block_lt_of_cell? W _ a0
  have hbl := hB.lt
  have k0 := B1.cell 0
  have cg : ∀ j, W1.cell? ⟨g, j, none⟩ = W.cell? ⟨g, j, none⟩ := fun j => by
    unfold World.cell?
    rw [show W1.heap[g]? = W.heap[g]? from g1c ⟨g, j, none⟩ (fun e => hmg e.symm) hgl]
  have u0 := (cg (n * 3)).trans d0
  have u1 := (cg (n * 3 + 1)).trans d1
  have u2 := (cg (n * 3 + 2)).trans d2
  refine hK.out _ _ ⟨k0, B1.cell 2, (cg 0).trans a0, (cg 1).trans a1, (cg 2).trans a2⟩ (fun _ => ?_)
  clear hK K hS
  refine Ph.done (by kernel_rfl) ?_ _
  have hf1 := fun j => R1.frozenAt j
  have f0 := hf1 0
  have f1 := hf1 1
  have f2 := hf1 2
  have v0 := (cg 0).trans a0
  have v1 := (cg 1).trans a1
  have v2 := (cg 2).trans a2
  clear hB hR hf c0 c2 a0 a1 a2 d0 d1 d2 cg g1c m1 hlx hxx xx r1 g1 z1
  go_upto_region 2 with fail
  have hS : (fun X : World => X.cell? ⟨b, 0, none⟩ = some (.slice (some ⟨g, 0, none⟩) (n + 1) cap) ∧ X.cell? ⟨g, n * 3, none⟩ = some (.int .i64 xd) ∧ X.cell? ⟨g, n * 3 + 1, none⟩ = some (.int .i64 xi) ∧ X.cell? ⟨g, n * 3 + 2, none⟩ = some (.string xb)) W1.drew := ⟨k0, u0, u1, u2⟩
  refine Ph.region (fun X : World => X.cell? ⟨b, 0, none⟩ = some (.slice (some ⟨g, 0, none⟩) (n + 1) cap) ∧ X.cell? ⟨g, n * 3, none⟩ = some (.int .i64 xd) ∧ X.cell? ⟨g, n * 3 + 1, none⟩ = some (.int .i64 xi) ∧ X.cell? ⟨g, n * 3 + 2, none⟩ = some (.string xb)) (fun i => i == 12) (by kernel_rfl) hS ?_
  have hn0 : (0 : Int) ≤ (n : Int) := by omega
  have hn2 : (n : Int) < (n : Int) + 1 := by omega
  have hn3 : n < n + 1 := by omega
  --PH 0 1 2 3 4 5 6 7 8 9 10 11; ⟨s1, s2, s3, s4⟩; hS
  refine Ph.get (i := 0) (v := _) (a' := _) rfl (by kernel_rfl) (by kernel_rfl) (by kernel_rfl) (by kernel_rfl) (fun _ _ _ h => h) hS (Or.inl ⟨by rfl, fun ww hSw => by obtain ⟨s1, s2, s3, s4⟩ := hSw; go_simp <;> rfl⟩) (by simp only [Act.put, List.getElem_toArray, List.getElem_cons_zero, List.getElem_cons_succ, List.setIfInBounds_toArray, List.set_cons_zero, List.set_cons_succ]; rfl) ?_
  refine Ph.get (i := 1) (v := _) (a' := _) rfl (by kernel_rfl) (by kernel_rfl) (by kernel_rfl) (by kernel_rfl) (fun _ _ _ h => h) hS (Or.inl ⟨by rfl, fun ww hSw => by obtain ⟨s1, s2, s3, s4⟩ := hSw; go_simp <;> rfl⟩) (by simp only [Act.put, List.getElem_toArray, List.getElem_cons_zero, List.getElem_cons_succ, List.setIfInBounds_toArray, List.set_cons_zero, List.set_cons_succ]; rfl) ?_
  refine Ph.get (i := 2) (v := _) (a' := _) rfl (by kernel_rfl) (by kernel_rfl) (by kernel_rfl) (by kernel_rfl) (fun _ _ _ h => h) hS (Or.inl ⟨by rfl, fun ww hSw => by obtain ⟨s1, s2, s3, s4⟩ := hSw; go_simp <;> rfl⟩) (by simp only [Act.put, List.getElem_toArray, List.getElem_cons_zero, List.getElem_cons_succ, List.setIfInBounds_toArray, List.set_cons_zero, List.set_cons_succ]; rfl) ?_
  refine Ph.get (i := 3) (v := _) (a' := _) rfl (by kernel_rfl) (by kernel_rfl) (by kernel_rfl) (by kernel_rfl) (fun _ _ _ h => h) hS (Or.inl ⟨by rfl, fun ww hSw => by obtain ⟨s1, s2, s3, s4⟩ := hSw; go_simp <;> rfl⟩) (by simp only [Act.put, List.getElem_toArray, List.getElem_cons_zero, List.getElem_cons_succ, List.setIfInBounds_toArray, List.set_cons_zero, List.set_cons_succ]; rfl) ?_
  refine Ph.get (i := 4) (v := _) (a' := _) rfl (by kernel_rfl) (by kernel_rfl) (by kernel_rfl) (by kernel_rfl) (fun _ _ _ h => h) hS (Or.inl ⟨by rfl, fun ww hSw => by obtain ⟨s1, s2, s3, s4⟩ := hSw; go_simp <;> rfl⟩) (by simp only [Act.put, List.getElem_toArray, List.getElem_cons_zero, List.getElem_cons_succ, List.setIfInBounds_toArray, List.set_cons_zero, List.set_cons_succ]; rfl) ?_
  refine Ph.get (i := 5) (v := _) (a' := _) rfl (by kernel_rfl) (by kernel_rfl) (by kernel_rfl) (by kernel_rfl) (fun _ _ _ h => h) hS (Or.inl ⟨by rfl, fun ww hSw => by obtain ⟨s1, s2, s3, s4⟩ := hSw; go_simp <;> rfl⟩) (by simp only [Act.put, List.getElem_toArray, List.getElem_cons_zero, List.getElem_cons_succ, List.setIfInBounds_toArray, List.set_cons_zero, List.set_cons_succ]; rfl) ?_
  refine Ph.get (i := 6) (v := _) (a' := _) rfl (by kernel_rfl) (by kernel_rfl) (by kernel_rfl) (by kernel_rfl) (fun _ _ _ h => h) hS (Or.inl ⟨by rfl, fun ww hSw => by obtain ⟨s1, s2, s3, s4⟩ := hSw; go_simp <;> rfl⟩) (by simp only [Act.put, List.getElem_toArray, List.getElem_cons_zero, List.getElem_cons_succ, List.setIfInBounds_toArray, List.set_cons_zero, List.set_cons_succ]; rfl) ?_
  refine Ph.get (i := 7) (v := _) (a' := _) rfl (by kernel_rfl) (by kernel_rfl) (by kernel_rfl) (by kernel_rfl) (fun _ _ _ h => h) hS (Or.inl ⟨by rfl, fun ww hSw => by obtain ⟨s1, s2, s3, s4⟩ := hSw; go_simp <;> rfl⟩) (by simp only [Act.put, List.getElem_toArray, List.getElem_cons_zero, List.getElem_cons_succ, List.setIfInBounds_toArray, List.set_cons_zero, List.set_cons_succ]; rfl) ?_
  refine Ph.get (i := 8) (v := _) (a' := _) rfl (by kernel_rfl) (by kernel_rfl) (by kernel_rfl) (by kernel_rfl) (fun _ _ _ h => h) hS (Or.inl ⟨by rfl, fun ww hSw => by obtain ⟨s1, s2, s3, s4⟩ := hSw; go_simp <;> rfl⟩) (by simp only [Act.put, List.getElem_toArray, List.getElem_cons_zero, List.getElem_cons_succ, List.setIfInBounds_toArray, List.set_cons_zero, List.set_cons_succ]; rfl) ?_
  refine Ph.get (i := 9) (v := _) (a' := _) rfl (by kernel_rfl) (by kernel_rfl) (by kernel_rfl) (by kernel_rfl) (fun _ _ _ h => h) hS (Or.inl ⟨by rfl, fun ww hSw => by obtain ⟨s1, s2, s3, s4⟩ := hSw; go_simp <;> rfl⟩) (by simp only [Act.put, List.getElem_toArray, List.getElem_cons_zero, List.getElem_cons_succ, List.setIfInBounds_toArray, List.set_cons_zero, List.set_cons_succ]; rfl) ?_
  refine Ph.get (i := 10) (v := _) (a' := _) rfl (by kernel_rfl) (by kernel_rfl) (by kernel_rfl) (by kernel_rfl) (fun _ _ _ h => h) hS (Or.inl ⟨by rfl, fun ww hSw => by obtain ⟨s1, s2, s3, s4⟩ := hSw; go_simp <;> rfl⟩) (by simp only [Act.put, List.getElem_toArray, List.getElem_cons_zero, List.getElem_cons_succ, List.setIfInBounds_toArray, List.set_cons_zero, List.set_cons_succ]; rfl) ?_
  refine Ph.get (i := 11) (v := _) (a' := _) rfl (by kernel_rfl) (by kernel_rfl) (by kernel_rfl) (by kernel_rfl) (fun _ _ _ h => h) hS (Or.inl ⟨by rfl, fun ww hSw => by obtain ⟨s1, s2, s3, s4⟩ := hSw; go_simp <;> rfl⟩) (by simp only [Act.put, List.getElem_toArray, List.getElem_cons_zero, List.getElem_cons_succ, List.setIfInBounds_toArray, List.set_cons_zero, List.set_cons_succ]; rfl) ?_
  refine Ph.last (i := 12) (by kernel_rfl) rfl rfl (fun K hK => ?_)
  go_simp
  refine hK.out _ _ ?_
  clear hK K
  refine Ph.done (by kernel_rfl) ?_ _
  have R3 : (((W1.setCell ⟨g, 0, none⟩ (.int .i64 xd)).setCell ⟨g, 1, none⟩ (.int .i64 xi)).setCell ⟨g, 2, none⟩ (.string xb)).drew.ownsRow 0 50 3 (.slice (some ⟨g, 0, none⟩) (n + 1) cap) (n + 1) (Hp.cs (l.set 0 ⟨xd, xi, xc⟩)) := by
    have := (Hp.row_put R1 0 ⟨xd, xi, xc⟩).1
    rw [Tx.v_eq hxb, Nat.zero_mul] at this
    exact this
  have B3 : Blk (((W1.setCell ⟨g, 0, none⟩ (.int .i64 xd)).setCell ⟨g, 1, none⟩ (.int .i64 xi)).setCell ⟨g, 2, none⟩ (.string xb)).drew b 68 #[.slice (some ⟨g, 0, none⟩) (n + 1) cap, Hp.less, .map (some mb)] := ((B1.far (p := ⟨g, 0, none⟩) hbg _).far (p := ⟨g, 1, none⟩) hbg _).far (p := ⟨g, 2, none⟩) hbg _
  have O3 : Bk.Only (Hp.foot b mb (some ⟨g, 0, none⟩)) W (((W1.setCell ⟨g, 0, none⟩ (.int .i64 xd)).setCell ⟨g, 1, none⟩ (.int .i64 xi)).setCell ⟨g, 2, none⟩ (.string xb)).drew := (((O1.setCell (p := ⟨g, 0, none⟩) (.inl (.inr (.inr ⟨_, rfl, rfl⟩))) _).setCell (p := ⟨g, 1, none⟩) (.inl (.inr (.inr ⟨_, rfl, rfl⟩))) _).setCell (p := ⟨g, 2, none⟩) (.inl (.inr (.inr ⟨_, rfl, rfl⟩))) _).drew
  have M3 : Hp.Set (((W1.setCell ⟨g, 0, none⟩ (.int .i64 xd)).setCell ⟨g, 1, none⟩ (.int .i64 xi)).setCell ⟨g, 2, none⟩ (.string xb)).drew mb c ((l.set 0 ⟨xd, xi, xc⟩).take n) := M1.same (((Below.heap_setCell _ _ _ _ hmg).trans (Below.heap_setCell _ _ _ _ hmg)).trans (Below.heap_setCell _ _ _ _ hmg))
  generalize (((W1.setCell ⟨g, 0, none⟩ (.int .i64 xd)).setCell ⟨g, 1, none⟩ (.int .i64 xi)).setCell ⟨g, 2, none⟩ (.string xb)).drew = X3 at R3 B3 O3 M3 ⊢
  clear R1 B1 O1 M1 k0 u0 u1 u2 v0 v1 v2 f0 f1 f2 hf1 hS
  have k0 := B3.cell 0
  have f0 := B3.frozen 0
  have hcp : n ≤ cap := by omega
  have hcpi : (n : Int) ≤ (cap : Int) := by omega
  go_upto_region 5 with fail
  have B4 : Blk (X3.setCell ⟨b, 0, none⟩ (.slice (some ⟨g, 0, none⟩) n cap)) b 68 #[.slice (some ⟨g, 0, none⟩) n cap, Hp.less, .map (some mb)] := B3.set_ 0 _
  have R4 : (X3.setCell ⟨b, 0, none⟩ (.slice (some ⟨g, 0, none⟩) n cap)).ownsRow 0 50 3 (.slice (some ⟨g, 0, none⟩) n cap) n (Hp.cs ((l.set 0 ⟨xd, xi, xc⟩).take n)) := Hp.row_cut (R3.kept (grownBy_setCell' X3 b _) (.inr (fun e => hbg (Option.some.inj e).symm))) (Nat.le_succ n)
  have O4 : Bk.Only (Hp.foot b mb (some ⟨g, 0, none⟩)) W (X3.setCell ⟨b, 0, none⟩ (.slice (some ⟨g, 0, none⟩) n cap)) := O3.setCell (p := ⟨b, 0, none⟩) (.inl (.inl rfl)) _
  have M4 : Hp.Set (X3.setCell ⟨b, 0, none⟩ (.slice (some ⟨g, 0, none⟩) n cap)) mb c ((l.set 0 ⟨xd, xi, xc⟩).take n) := M3.same (Below.heap_setCell _ _ _ _ hbm.symm)
  generalize (X3.setCell ⟨b, 0, none⟩ (.slice (some ⟨g, 0, none⟩) n cap)) = X4 at R4 B4 O4 M4 ⊢
  have hLh : ((l.set 0 ⟨xd, xi, xc⟩).take n).length = n := by rw [List.length_take, List.length_set, HD.out.2.2.2.2]; omega
  have hst : Hp.DnL X4 b mb ((l.set 0 ⟨xd, xi, xc⟩).take n) g cap n n (.int .i64 ((0 : Nat) : Int)) X4 := ⟨0, _, rfl, .inr rfl, rfl, hLh, List.Perm.refl _, HD.out.2.2.1, B4, R4, Bk.Only.refl _ _⟩
  obtain ⟨lh, hlh⟩ : ∃ lh, (l.set 0 ⟨xd, xi, xc⟩).take n = lh := ⟨_, rfl⟩
  rw [hlh] at hst M4
  have HL := Lib.hid hlh
  clear hlh
  have HS := Lib.hid (And.intro hst (And.intro O4 M4))
  clear R3 B3 O3 M3 k0 f0 R4 B4 O4 M4 hst hLh HD hcap hn0 hn2 hn3 hxb htb
  clear hcp hcpi
  go_loopg [3] n (fun m iv wr => Hp.DnL X4 b mb lh g cap n m iv wr)
  case atStart => exact HS.out.1
  case round =>
    obtain ⟨i, L, rfl, hin, hgk, hLl, hLp, hDn, hB, hR, hO⟩ := hrel
    have hi0 : i ≤ n := by omega
    have hst2 : Hp.DnI X4 b mb L g cap n i 2 (.int .i64 (i : Nat)) (.int .i64 (2 * (i : Int) + 1)) wr := ⟨i, 2 * i + 1, rfl, congrArg (Value.int .i64) (by omega), Nat.le_refl _, by omega, Hp.Nx.start _ _ _, hB, hR, hO⟩
    obtain ⟨og, hog⟩ : ∃ og, og = gk := ⟨_, rfl⟩
    rw [← hog] at hgk
    have HO := Lib.hid (And.intro hst2 (And.intro hin (And.intro hgk (And.intro hLp (And.intro hDn hog)))))
    clear hst2 hin hgk hLp hDn hB hR hO hog
    go_upto_region 7 with fail
    go_loopg [4, 5] 2 (fun m nv kv wr => Hp.DnI X4 b mb L g cap n i m nv kv wr)
    case atStart => exact HO.out.1
    case round =>
      obtain ⟨nx, k, rfl, rfl, hik, hmk, hN, hB, hR, hO⟩ := hrel
      cases gk with
      | zero =>
        have hk3 : k = 2 * i + 3 := by omega
        have hu1 : decide ((k : Int) ≤ 2 * (i : Int) + 2) = false := decide_eq_false (by omega)
        clear hmk
        have hk4 : 2 * i + 2 < k := by omega
        have hk5 : k ≤ 2 * i + 3 := by omega
        clear hk3
        have hall : ∀ k' x y, 0 < k' → (k' - 1) / 2 = i → L[k']? = some x → L[nx]? = some y → Pb.gt x y = false := fun k' x y h0 he h1 h2 => hN.big k' x y (by omega) (by have := (List.getElem?_eq_some_iff.1 h1).1; omega) h1 h2
        have HN := Lib.hid (And.intro hall (And.intro hN.at_ (And.intro hB (And.intro hR hO))))
        clear hall hN hB hR hO
        by_cases hni : nx = i
        · subst hni
          go_wp2_with fail
          refine bodyPost_ret (results_none rfl _ _ _) rfl ?_
          obtain ⟨h1, _, h3, h4, h5⟩ := HN.out
          obtain ⟨_, k2, k3, k4, k5, _⟩ := HO.out
          refine ⟨rfl, L, some ⟨g, 0, none⟩, cap, ⟨by rw [hLl]; exact h3, by rw [hLl]; exact h4, (HS.out.2.2.same (h5.block mb HS.out.2.2.lt hmg)).congr (fun x => (k4.mem_iff).symm)⟩, k5.stop h1, HL.out ▸ k4, Hp.only_then HS.out.2.1 (fun k hk => .inl (.inr (.inr ⟨_, rfl, hk.symm⟩))) h5, fun a ha => .inl ⟨a, ha, rfl⟩⟩
        · have hu9 : ((nx : Int) == (i : Int)) = false := by rw [beq_eq_false_iff_ne]; omega
          obtain ⟨h2i, hnk, hnn, hgt⟩ := HN.out.2.1.resolve_left hni
          obtain ⟨x, hx⟩ : ∃ x, L[i]? = some x := ⟨_, List.getElem?_eq_getElem (by omega)⟩
          obtain ⟨y, hy⟩ : ∃ y, L[nx]? = some y := ⟨_, List.getElem?_eq_getElem (by omega)⟩
          have hstep := HO.out.2.2.2.2.1.step Pb.ord (j := nx) (by omega) (by omega) hx hy (hgt y x hy hx) (fun k' x' h0 he h1 => HN.out.1 k' x' y h0 he h1 hy)
          have hsw := Hp.swap_perm hx hy
          have hrow := HN.out.2.2.2.1
          obtain ⟨a0, a1, a2⟩ := Hp.row3 hrow hx
          obtain ⟨e0, e1, e2⟩ := Hp.row3 hrow hy
          obtain ⟨xd, xi, xc⟩ := x
          obtain ⟨yd, yi, yc⟩ := y
          simp only at a0 a1 a2 e0 e1 e2
          obtain ⟨xb, hxb, _⟩ := Tx.of xc
          obtain ⟨yb, hyb, _⟩ := Tx.of yc
          rw [Tx.v_eq hxb] at a2
          rw [Tx.v_eq hyb] at e2
          have b0 := HN.out.2.2.1.cell 0
          have hf := fun j => hrow.frozenAt j
          have HT := Lib.hid (And.intro hstep hsw)
          clear hstep hsw hrow hgt hx hy
          have hi1 : (0 : Int) ≤ (i : Int) := by omega
          have hi2 : (i : Int) < (n : Int) := by omega
          have hi3 : i < n := by omega
          have hn1' : (0 : Int) ≤ (nx : Int) := by omega
          have hn2' : (nx : Int) < (n : Int) := by omega
          go_upto_region 12 with fail
          have hS : (fun X : World => X.cell? ⟨b, 0, none⟩ = some (.slice (some ⟨g, 0, none⟩) n cap) ∧ X.cell? ⟨g, i * 3, none⟩ = some (.int .i64 xd) ∧ X.cell? ⟨g, i * 3 + 1, none⟩ = some (.int .i64 xi) ∧ X.cell? ⟨g, i * 3 + 2, none⟩ = some (.string xb) ∧ X.cell? ⟨g, nx * 3, none⟩ = some (.int .i64 yd) ∧ X.cell? ⟨g, nx * 3 + 1, none⟩ = some (.int .i64 yi) ∧ X.cell? ⟨g, nx * 3 + 2, none⟩ = some (.string yb)) wr.drew := ⟨b0, a0, a1, a2, e0, e1, e2⟩
          refine Ph.region (fun X : World => X.cell? ⟨b, 0, none⟩ = some (.slice (some ⟨g, 0, none⟩) n cap) ∧ X.cell? ⟨g, i * 3, none⟩ = some (.int .i64 xd) ∧ X.cell? ⟨g, i * 3 + 1, none⟩ = some (.int .i64 xi) ∧ X.cell? ⟨g, i * 3 + 2, none⟩ = some (.string xb) ∧ X.cell? ⟨g, nx * 3, none⟩ = some (.int .i64 yd) ∧ X.cell? ⟨g, nx * 3 + 1, none⟩ = some (.int .i64 yi) ∧ X.cell? ⟨g, nx * 3 + 2, none⟩ = some (.string yb)) (fun i => i == 25 || i == 27) (by kernel_rfl) hS ?_
          --PP 5 6 7 9 17 18 19 21
          refine Ph.pure (i := 5) (v := _) (a' := _) rfl (by kernel_rfl) (by kernel_rfl) (by kernel_rfl) (fun _ _ _ h => h) (Or.inl ⟨by rfl, fun ww _ => by go_simp <;> rfl⟩) (by simp only [Act.put, List.getElem_toArray, List.getElem_cons_zero, List.getElem_cons_succ, List.setIfInBounds_toArray, List.set_cons_zero, List.set_cons_succ]; rfl) ?_
          refine Ph.pure (i := 6) (v := _) (a' := _) rfl (by kernel_rfl) (by kernel_rfl) (by kernel_rfl) (fun _ _ _ h => h) (Or.inl ⟨by rfl, fun ww _ => by go_simp <;> rfl⟩) (by simp only [Act.put, List.getElem_toArray, List.getElem_cons_zero, List.getElem_cons_succ, List.setIfInBounds_toArray, List.set_cons_zero, List.set_cons_succ]; rfl) ?_
          refine Ph.pure (i := 7) (v := _) (a' := _) rfl (by kernel_rfl) (by kernel_rfl) (by kernel_rfl) (fun _ _ _ h => h) (Or.inl ⟨by rfl, fun ww _ => by go_simp <;> rfl⟩) (by simp only [Act.put, List.getElem_toArray, List.getElem_cons_zero, List.getElem_cons_succ, List.setIfInBounds_toArray, List.set_cons_zero, List.set_cons_succ]; rfl) ?_
          refine Ph.pure (i := 9) (v := _) (a' := _) rfl (by kernel_rfl) (by kernel_rfl) (by kernel_rfl) (fun _ _ _ h => h) (Or.inl ⟨by rfl, fun ww _ => by go_simp <;> rfl⟩) (by simp only [Act.put, List.getElem_toArray, List.getElem_cons_zero, List.getElem_cons_succ, List.setIfInBounds_toArray, List.set_cons_zero, List.set_cons_succ]; rfl) ?_
          refine Ph.pure (i := 17) (v := _) (a' := _) rfl (by kernel_rfl) (by kernel_rfl) (by kernel_rfl) (fun _ _ _ h => h) (Or.inl ⟨by rfl, fun ww _ => by go_simp <;> rfl⟩) (by simp only [Act.put, List.getElem_toArray, List.getElem_cons_zero, List.getElem_cons_succ, List.setIfInBounds_toArray, List.set_cons_zero, List.set_cons_succ]; rfl) ?_
          refine Ph.pure (i := 18) (v := _) (a' := _) rfl (by kernel_rfl) (by kernel_rfl) (by kernel_rfl) (fun _ _ _ h => h) (Or.inl ⟨by rfl, fun ww _ => by go_simp <;> rfl⟩) (by simp only [Act.put, List.getElem_toArray, List.getElem_cons_zero, List.getElem_cons_succ, List.setIfInBounds_toArray, List.set_cons_zero, List.set_cons_succ]; rfl) ?_
          refine Ph.pure (i := 19) (v := _) (a' := _) rfl (by kernel_rfl) (by kernel_rfl) (by kernel_rfl) (fun _ _ _ h => h) (Or.inl ⟨by rfl, fun ww _ => by go_simp <;> rfl⟩) (by simp only [Act.put, List.getElem_toArray, List.getElem_cons_zero, List.getElem_cons_succ, List.setIfInBounds_toArray, List.set_cons_zero, List.set_cons_succ]; rfl) ?_
          refine Ph.pure (i := 21) (v := _) (a' := _) rfl (by kernel_rfl) (by kernel_rfl) (by kernel_rfl) (fun _ _ _ h => h) (Or.inl ⟨by rfl, fun ww _ => by go_simp <;> rfl⟩) (by simp only [Act.put, List.getElem_toArray, List.getElem_cons_zero, List.getElem_cons_succ, List.setIfInBounds_toArray, List.set_cons_zero, List.set_cons_succ]; rfl) ?_
          --PH 0 1 2 3 4 8 10 11 12 13 14 15 16 20; ⟨s1, s2, s3, s4, s5, s6, s7⟩; hS
          refine Ph.get (i := 0) (v := _) (a' := _) rfl (by kernel_rfl) (by kernel_rfl) (by kernel_rfl) (by kernel_rfl) (fun _ _ _ h => h) hS (Or.inl ⟨by rfl, fun ww hSw => by obtain ⟨s1, s2, s3, s4, s5, s6, s7⟩ := hSw; go_simp <;> rfl⟩) (by simp only [Act.put, List.getElem_toArray, List.getElem_cons_zero, List.getElem_cons_succ, List.setIfInBounds_toArray, List.set_cons_zero, List.set_cons_succ]; rfl) ?_
          refine Ph.get (i := 1) (v := _) (a' := _) rfl (by kernel_rfl) (by kernel_rfl) (by kernel_rfl) (by kernel_rfl) (fun _ _ _ h => h) hS (Or.inl ⟨by rfl, fun ww hSw => by obtain ⟨s1, s2, s3, s4, s5, s6, s7⟩ := hSw; go_simp <;> rfl⟩) (by simp only [Act.put, List.getElem_toArray, List.getElem_cons_zero, List.getElem_cons_succ, List.setIfInBounds_toArray, List.set_cons_zero, List.set_cons_succ]; rfl) ?_
          refine Ph.get (i := 2) (v := _) (a' := _) rfl (by kernel_rfl) (by kernel_rfl) (by kernel_rfl) (by kernel_rfl) (fun _ _ _ h => h) hS (Or.inl ⟨by rfl, fun ww hSw => by obtain ⟨s1, s2, s3, s4, s5, s6, s7⟩ := hSw; go_simp <;> rfl⟩) (by simp only [Act.put, List.getElem_toArray, List.getElem_cons_zero, List.getElem_cons_succ, List.setIfInBounds_toArray, List.set_cons_zero, List.set_cons_succ]; rfl) ?_
          refine Ph.get (i := 3) (v := _) (a' := _) rfl (by kernel_rfl) (by kernel_rfl) (by kernel_rfl) (by kernel_rfl) (fun _ _ _ h => h) hS (Or.inl ⟨by rfl, fun ww hSw => by obtain ⟨s1, s2, s3, s4, s5, s6, s7⟩ := hSw; go_simp <;> rfl⟩) (by simp only [Act.put, List.getElem_toArray, List.getElem_cons_zero, List.getElem_cons_succ, List.setIfInBounds_toArray, List.set_cons_zero, List.set_cons_succ]; rfl) ?_
          refine Ph.get (i := 4) (v := _) (a' := _) rfl (by kernel_rfl) (by kernel_rfl) (by kernel_rfl) (by kernel_rfl) (fun _ _ _ h => h) hS (Or.inl ⟨by rfl, fun ww hSw => by obtain ⟨s1, s2, s3, s4, s5, s6, s7⟩ := hSw; go_simp <;> rfl⟩) (by simp only [Act.put, List.getElem_toArray, List.getElem_cons_zero, List.getElem_cons_succ, List.setIfInBounds_toArray, List.set_cons_zero, List.set_cons_succ]; rfl) ?_
          refine Ph.get (i := 8) (v := _) (a' := _) rfl (by kernel_rfl) (by kernel_rfl) (by kernel_rfl) (by kernel_rfl) (fun _ _ _ h => h) hS (Or.inl ⟨by rfl, fun ww hSw => by obtain ⟨s1, s2, s3, s4, s5, s6, s7⟩ := hSw; go_simp <;> rfl⟩) (by simp only [Act.put, List.getElem_toArray, List.getElem_cons_zero, List.getElem_cons_succ, List.setIfInBounds_toArray, List.set_cons_zero, List.set_cons_succ]; rfl) ?_
          refine Ph.get (i := 10) (v := _) (a' := _) rfl (by kernel_rfl) (by kernel_rfl) (by kernel_rfl) (by kernel_rfl) (fun _ _ _ h => h) hS (Or.inl ⟨by rfl, fun ww hSw => by obtain ⟨s1, s2, s3, s4, s5, s6, s7⟩ := hSw; go_simp <;> rfl⟩) (by simp only [Act.put, List.getElem_toArray, List.getElem_cons_zero, List.getElem_cons_succ, List.setIfInBounds_toArray, List.set_cons_zero, List.set_cons_succ]; rfl) ?_
          refine Ph.get (i := 11) (v := _) (a' := _) rfl (by kernel_rfl) (by kernel_rfl) (by kernel_rfl) (by kernel_rfl) (fun _ _ _ h => h) hS (Or.inl ⟨by rfl, fun ww hSw => by obtain ⟨s1, s2, s3, s4, s5, s6, s7⟩ := hSw; go_simp <;> rfl⟩) (by simp only [Act.put, List.getElem_toArray, List.getElem_cons_zero, List.getElem_cons_succ, List.setIfInBounds_toArray, List.set_cons_zero, List.set_cons_succ]; rfl) ?_
          refine Ph.get (i := 12) (v := _) (a' := _) rfl (by kernel_rfl) (by kernel_rfl) (by kernel_rfl) (by kernel_rfl) (fun _ _ _ h => h) hS (Or.inl ⟨by rfl, fun ww hSw => by obtain ⟨s1, s2, s3, s4, s5, s6, s7⟩ := hSw; go_simp <;> rfl⟩) (by simp only [Act.put, List.getElem_toArray, List.getElem_cons_zero, List.getElem_cons_succ, List.setIfInBounds_toArray, List.set_cons_zero, List.set_cons_succ]; rfl) ?_
          refine Ph.get (i := 13) (v := _) (a' := _) rfl (by kernel_rfl) (by kernel_rfl) (by kernel_rfl) (by kernel_rfl) (fun _ _ _ h => h) hS (Or.inl ⟨by rfl, fun ww hSw => by obtain ⟨s1, s2, s3, s4, s5, s6, s7⟩ := hSw; go_simp <;> rfl⟩) (by simp only [Act.put, List.getElem_toArray, List.getElem_cons_zero, List.getElem_cons_succ, List.setIfInBounds_toArray, List.set_cons_zero, List.set_cons_succ]; rfl) ?_
          refine Ph.get (i := 14) (v := _) (a' := _) rfl (by kernel_rfl) (by kernel_rfl) (by kernel_rfl) (by kernel_rfl) (fun _ _ _ h => h) hS (Or.inl ⟨by rfl, fun ww hSw => by obtain ⟨s1, s2, s3, s4, s5, s6, s7⟩ := hSw; go_simp <;> rfl⟩) (by simp only [Act.put, List.getElem_toArray, List.getElem_cons_zero, List.getElem_cons_succ, List.setIfInBounds_toArray, List.set_cons_zero, List.set_cons_succ]; rfl) ?_
          refine Ph.get (i := 15) (v := _) (a' := _) rfl (by kernel_rfl) (by kernel_rfl) (by kernel_rfl) (by kernel_rfl) (fun _ _ _ h => h) hS (Or.inl ⟨by rfl, fun ww hSw => by obtain ⟨s1, s2, s3, s4, s5, s6, s7⟩ := hSw; go_simp <;> rfl⟩) (by simp only [Act.put, List.getElem_toArray, List.getElem_cons_zero, List.getElem_cons_succ, List.setIfInBounds_toArray, List.set_cons_zero, List.set_cons_succ]; rfl) ?_
          refine Ph.get (i := 16) (v := _) (a' := _) rfl (by kernel_rfl) (by kernel_rfl) (by kernel_rfl) (by kernel_rfl) (fun _ _ _ h => h) hS (Or.inl ⟨by rfl, fun ww hSw => by obtain ⟨s1, s2, s3, s4, s5, s6, s7⟩ := hSw; go_simp <;> rfl⟩) (by simp only [Act.put, List.getElem_toArray, List.getElem_cons_zero, List.getElem_cons_succ, List.setIfInBounds_toArray, List.set_cons_zero, List.set_cons_succ]; rfl) ?_
          refine Ph.get (i := 20) (v := _) (a' := _) rfl (by kernel_rfl) (by kernel_rfl) (by kernel_rfl) (by kernel_rfl) (fun _ _ _ h => h) hS (Or.inl ⟨by rfl, fun ww hSw => by obtain ⟨s1, s2, s3, s4, s5, s6, s7⟩ := hSw; go_simp <;> rfl⟩) (by simp only [Act.put, List.getElem_toArray, List.getElem_cons_zero, List.getElem_cons_succ, List.setIfInBounds_toArray, List.set_cons_zero, List.set_cons_succ]; rfl) ?_
          --PP 22
          refine Ph.pure (i := 22) (v := _) (a' := _) rfl (by kernel_rfl) (by kernel_rfl) (by kernel_rfl) (fun _ _ _ h => h) (Or.inl ⟨by rfl, fun ww _ => by go_simp <;> rfl⟩) (by simp only [Act.put, List.getElem_toArray, List.getElem_cons_zero, List.getElem_cons_succ, List.setIfInBounds_toArray, List.set_cons_zero, List.set_cons_succ]; rfl) ?_
          --PH 23 24; ⟨s1, s2, s3, s4, s5, s6, s7⟩; hS
          refine Ph.get (i := 23) (v := _) (a' := _) rfl (by kernel_rfl) (by kernel_rfl) (by kernel_rfl) (by kernel_rfl) (fun _ _ _ h => h) hS (Or.inl ⟨by rfl, fun ww hSw => by obtain ⟨s1, s2, s3, s4, s5, s6, s7⟩ := hSw; go_simp <;> rfl⟩) (by simp only [Act.put, List.getElem_toArray, List.getElem_cons_zero, List.getElem_cons_succ, List.setIfInBounds_toArray, List.set_cons_zero, List.set_cons_succ]; rfl) ?_
          refine Ph.get (i := 24) (v := _) (a' := _) rfl (by kernel_rfl) (by kernel_rfl) (by kernel_rfl) (by kernel_rfl) (fun _ _ _ h => h) hS (Or.inl ⟨by rfl, fun ww hSw => by obtain ⟨s1, s2, s3, s4, s5, s6, s7⟩ := hSw; go_simp <;> rfl⟩) (by simp only [Act.put, List.getElem_toArray, List.getElem_cons_zero, List.getElem_cons_succ, List.setIfInBounds_toArray, List.set_cons_zero, List.set_cons_succ]; rfl) ?_
          refine Ph.last (i := 25) (by kernel_rfl) rfl rfl (fun K hK => ?_)
          go_simp
          refine hK.out _ _ ?_
          clear hK K
          have hR5 : ∃ C : List Pb.H, (((wr.setCell ⟨g, i * 3, none⟩ (.int .i64 yd)).setCell ⟨g, i * 3 + 1, none⟩ (.int .i64 yi)).setCell ⟨g, i * 3 + 2, none⟩ (.string yb)).drew.ownsRow 0 50 3 (.slice (some ⟨g, 0, none⟩) n cap) n (Hp.cs C) ∧ C = L.set i ⟨yd, yi, yc⟩ := by
            have := (Hp.row_put HN.out.2.2.2.1 i ⟨yd, yi, yc⟩).1
            rw [Tx.v_eq hyb] at this
            exact ⟨_, this, rfl⟩
          obtain ⟨C5, hR5, hC5⟩ := hR5
          have hO5 : Bk.Only (fun k => k = g) X4 (((wr.setCell ⟨g, i * 3, none⟩ (.int .i64 yd)).setCell ⟨g, i * 3 + 1, none⟩ (.int .i64 yi)).setCell ⟨g, i * 3 + 2, none⟩ (.string yb)).drew := (((HN.out.2.2.2.2.setCell (p := ⟨g, i * 3, none⟩) (.inl rfl) _).setCell (p := ⟨g, i * 3 + 1, none⟩) (.inl rfl) _).setCell (p := ⟨g, i * 3 + 2, none⟩) (.inl rfl) _).drew
          have hB5 : Blk (((wr.setCell ⟨g, i * 3, none⟩ (.int .i64 yd)).setCell ⟨g, i * 3 + 1, none⟩ (.int .i64 yi)).setCell ⟨g, i * 3 + 2, none⟩ (.string yb)).drew b 68 #[.slice (some ⟨g, 0, none⟩) n cap, Hp.less, .map (some mb)] := ((HN.out.2.2.1.far (p := ⟨g, i * 3, none⟩) hbg _).far (p := ⟨g, i * 3 + 1, none⟩) hbg _).far (p := ⟨g, i * 3 + 2, none⟩) hbg _
          generalize (((wr.setCell ⟨g, i * 3, none⟩ (.int .i64 yd)).setCell ⟨g, i * 3 + 1, none⟩ (.int .i64 yi)).setCell ⟨g, i * 3 + 2, none⟩ (.string yb)).drew = w5 at hR5 hO5 hB5 ⊢
          clear hS hf b0 a0 a1 a2 e0 e1 e2
          --PP 26
          refine Ph.pure (i := 26) (v := _) (a' := _) rfl (by kernel_rfl) (by kernel_rfl) (by kernel_rfl) (fun _ _ _ h => h) (Or.inl ⟨by rfl, fun ww _ => by go_simp <;> rfl⟩) (by simp only [Act.put, List.getElem_toArray, List.getElem_cons_zero, List.getElem_cons_succ, List.setIfInBounds_toArray, List.set_cons_zero, List.set_cons_succ]; rfl) ?_
          obtain ⟨z, hz⟩ : ∃ z, C5[nx]? = some z := ⟨_, List.getElem?_eq_getElem (by rw [hC5, List.length_set]; omega)⟩
          obtain ⟨e0, e1, e2⟩ := Hp.row3 hR5 hz
          have f0 := hR5.frozenAt (nx * 3)
          have f1 := hR5.frozenAt (nx * 3 + 1)
          have f2 := hR5.frozenAt (nx * 3 + 2)
          have HG := Lib.hid (And.intro hR5 (And.intro hO5 hB5))
          clear hR5 hO5 hB5 hz
          refine Ph.last (i := 27) (by kernel_rfl) rfl rfl (fun K hK => ?_)
          go_simp
          refine hK.out _ _ ?_
          clear hK K
          refine Ph.done (by kernel_rfl) ?_ _
          go_wp2_with fail
          go_roundg (n - nx)
          case measure => have := HO.out.2.2.1; have := HO.out.2.2.2.2.2; omega
          case rel =>
            obtain ⟨h4, h5, h6⟩ := HG.out
            have hsw : C5.set nx ⟨xd, xi, xc⟩ = Hp.swap L i nx ⟨xd, xi, xc⟩ ⟨yd, yi, yc⟩ := by rw [hC5]; rfl
            refine ⟨nx, C5.set nx ⟨xd, xi, xc⟩, rfl, .inl hnn, rfl, by rw [List.length_set, hC5, List.length_set, hLl], ?_, ?_, ?_, ?_, ?_⟩
            · rw [hsw]; exact HT.out.2.trans HO.out.2.2.2.1
            · rw [hsw]; exact HT.out.1
            · exact ((h6.far (p := ⟨g, nx * 3, none⟩) hbg _).far (p := ⟨g, nx * 3 + 1, none⟩) hbg _).far (p := ⟨g, nx * 3 + 2, none⟩) hbg _
            · have := (Hp.row_put h4 nx ⟨xd, xi, xc⟩).1
              rw [Tx.v_eq hxb] at this
              exact this
            · exact ((h5.setCell (p := ⟨g, nx * 3, none⟩) (.inl rfl) _).setCell (p := ⟨g, nx * 3 + 1, none⟩) (.inl rfl) _).setCell (p := ⟨g, nx * 3 + 2, none⟩) (.inl rfl) _
      | succ p =>
        have hu1 : decide ((k : Int) ≤ 2 * (i : Int) + 2) = true := decide_eq_true (by omega)
        have hk5 : k ≤ 2 * i + 2 := by omega
        have hpk : p + k = 2 * i + 2 := by omega
        clear hmk
        by_cases hkn : k < n
        · have hu2 : decide (k < n) = true := decide_eq_true hkn
          have hnxl : nx < n := by
            rcases hN.at_ with e | ⟨_, _, h, _⟩ <;> omega
          obtain ⟨x, hx⟩ : ∃ x, L[k]? = some x := ⟨_, List.getElem?_eq_getElem (by omega)⟩
          obtain ⟨y, hy⟩ : ∃ y, L[nx]? = some y := ⟨_, List.getElem?_eq_getElem (by omega)⟩
          have hless := fun WW => Hp.less_any x y WW
          obtain ⟨r, hr⟩ : ∃ r, Pb.gt x y = r := ⟨_, rfl⟩
          have hl1 := fun hg => hN.less hx hy hg
          have hl2 := fun hg => hN.more hx hy hg hkn hik
          rw [hr] at hless hl1 hl2
          obtain ⟨a0, a1, a2⟩ := Hp.row3 hR hx
          obtain ⟨e0, e1, e2⟩ := Hp.row3 hR hy
          obtain ⟨kd, ki, kc⟩ := x
          obtain ⟨nd, ni, nc⟩ := y
          unfold Hp.enc at hless
          simp only at hless a0 a1 a2 e0 e1 e2
          obtain ⟨kb, hkb, _⟩ := Tx.of kc
          obtain ⟨nb, hnb, _⟩ := Tx.of nc
          rw [Tx.v_eq hkb, Tx.v_eq hnb] at hless
          rw [Tx.v_eq hkb] at a2
          rw [Tx.v_eq hnb] at e2
          have b0 := hB.cell 0
          have b1 := hB.cell 1
          have hl1 := Lib.hid hl1
          have HX := Lib.hid (And.intro hx (And.intro hy (And.intro hl1 (And.intro hl2 (And.intro hless (And.intro hB (And.intro hR (And.intro hO hpk))))))))
          clear hx hy hl1 hl2 hless hr hN hpk hB hR hO
          have hk6 : (0 : Int) ≤ (k : Int) := by omega
          have hk7 : (k : Int) < (n : Int) := by omega
          have hk8 : (0 : Int) ≤ (nx : Int) := by omega
          have hk9 : (nx : Int) < (n : Int) := by omega
          go_upto_region 9 with fail
          have hS : (fun X : World => X.cell? ⟨b, 0, none⟩ = some (.slice (some ⟨g, 0, none⟩) n cap) ∧ X.cell? ⟨b, 1, none⟩ = some Hp.less ∧ X.cell? ⟨g, k * 3, none⟩ = some (.int .i64 kd) ∧ X.cell? ⟨g, k * 3 + 1, none⟩ = some (.int .i64 ki) ∧ X.cell? ⟨g, k * 3 + 2, none⟩ = some (.string kb) ∧ X.cell? ⟨g, nx * 3, none⟩ = some (.int .i64 nd) ∧ X.cell? ⟨g, nx * 3 + 1, none⟩ = some (.int .i64 ni) ∧ X.cell? ⟨g, nx * 3 + 2, none⟩ = some (.string nb)) wr.drew := ⟨b0, b1, a0, a1, a2, e0, e1, e2⟩
          refine Ph.region (fun X : World => X.cell? ⟨b, 0, none⟩ = some (.slice (some ⟨g, 0, none⟩) n cap) ∧ X.cell? ⟨b, 1, none⟩ = some Hp.less ∧ X.cell? ⟨g, k * 3, none⟩ = some (.int .i64 kd) ∧ X.cell? ⟨g, k * 3 + 1, none⟩ = some (.int .i64 ki) ∧ X.cell? ⟨g, k * 3 + 2, none⟩ = some (.string kb) ∧ X.cell? ⟨g, nx * 3, none⟩ = some (.int .i64 nd) ∧ X.cell? ⟨g, nx * 3 + 1, none⟩ = some (.int .i64 ni) ∧ X.cell? ⟨g, nx * 3 + 2, none⟩ = some (.string nb)) (fun _ => false) (by kernel_rfl) hS ?_
          --PH 0 1 2 3 4 5 6 7 8 9 10 11 12 13 14 15 16 17; ⟨s1, s2, s3, s4, s5, s6, s7, s8⟩; hS
          refine Ph.get (i := 0) (v := _) (a' := _) rfl (by kernel_rfl) (by kernel_rfl) (by kernel_rfl) (by kernel_rfl) (fun _ _ _ h => h) hS (Or.inl ⟨by rfl, fun ww hSw => by obtain ⟨s1, s2, s3, s4, s5, s6, s7, s8⟩ := hSw; go_simp <;> rfl⟩) (by simp only [Act.put, List.getElem_toArray, List.getElem_cons_zero, List.getElem_cons_succ, List.setIfInBounds_toArray, List.set_cons_zero, List.set_cons_succ]; rfl) ?_
          refine Ph.get (i := 1) (v := _) (a' := _) rfl (by kernel_rfl) (by kernel_rfl) (by kernel_rfl) (by kernel_rfl) (fun _ _ _ h => h) hS (Or.inl ⟨by rfl, fun ww hSw => by obtain ⟨s1, s2, s3, s4, s5, s6, s7, s8⟩ := hSw; go_simp <;> rfl⟩) (by simp only [Act.put, List.getElem_toArray, List.getElem_cons_zero, List.getElem_cons_succ, List.setIfInBounds_toArray, List.set_cons_zero, List.set_cons_succ]; rfl) ?_
          refine Ph.get (i := 2) (v := _) (a' := _) rfl (by kernel_rfl) (by kernel_rfl) (by kernel_rfl) (by kernel_rfl) (fun _ _ _ h => h) hS (Or.inl ⟨by rfl, fun ww hSw => by obtain ⟨s1, s2, s3, s4, s5, s6, s7, s8⟩ := hSw; go_simp <;> rfl⟩) (by simp only [Act.put, List.getElem_toArray, List.getElem_cons_zero, List.getElem_cons_succ, List.setIfInBounds_toArray, List.set_cons_zero, List.set_cons_succ]; rfl) ?_
          refine Ph.get (i := 3) (v := _) (a' := _) rfl (by kernel_rfl) (by kernel_rfl) (by kernel_rfl) (by kernel_rfl) (fun _ _ _ h => h) hS (Or.inl ⟨by rfl, fun ww hSw => by obtain ⟨s1, s2, s3, s4, s5, s6, s7, s8⟩ := hSw; go_simp <;> rfl⟩) (by simp only [Act.put, List.getElem_toArray, List.getElem_cons_zero, List.getElem_cons_succ, List.setIfInBounds_toArray, List.set_cons_zero, List.set_cons_succ]; rfl) ?_
          refine Ph.get (i := 4) (v := _) (a' := _) rfl (by kernel_rfl) (by kernel_rfl) (by kernel_rfl) (by kernel_rfl) (fun _ _ _ h => h) hS (Or.inl ⟨by rfl, fun ww hSw => by obtain ⟨s1, s2, s3, s4, s5, s6, s7, s8⟩ := hSw; go_simp <;> rfl⟩) (by simp only [Act.put, List.getElem_toArray, List.getElem_cons_zero, List.getElem_cons_succ, List.setIfInBounds_toArray, List.set_cons_zero, List.set_cons_succ]; rfl) ?_
          refine Ph.get (i := 5) (v := _) (a' := _) rfl (by kernel_rfl) (by kernel_rfl) (by kernel_rfl) (by kernel_rfl) (fun _ _ _ h => h) hS (Or.inl ⟨by rfl, fun ww hSw => by obtain ⟨s1, s2, s3, s4, s5, s6, s7, s8⟩ := hSw; go_simp <;> rfl⟩) (by simp only [Act.put, List.getElem_toArray, List.getElem_cons_zero, List.getElem_cons_succ, List.setIfInBounds_toArray, List.set_cons_zero, List.set_cons_succ]; rfl) ?_
          refine Ph.get (i := 6) (v := _) (a' := _) rfl (by kernel_rfl) (by kernel_rfl) (by kernel_rfl) (by kernel_rfl) (fun _ _ _ h => h) hS (Or.inl ⟨by rfl, fun ww hSw => by obtain ⟨s1, s2, s3, s4, s5, s6, s7, s8⟩ := hSw; go_simp <;> rfl⟩) (by simp only [Act.put, List.getElem_toArray, List.getElem_cons_zero, List.getElem_cons_succ, List.setIfInBounds_toArray, List.set_cons_zero, List.set_cons_succ]; rfl) ?_
          refine Ph.get (i := 7) (v := _) (a' := _) rfl (by kernel_rfl) (by kernel_rfl) (by kernel_rfl) (by kernel_rfl) (fun _ _ _ h => h) hS (Or.inl ⟨by rfl, fun ww hSw => by obtain ⟨s1, s2, s3, s4, s5, s6, s7, s8⟩ := hSw; go_simp <;> rfl⟩) (by simp only [Act.put, List.getElem_toArray, List.getElem_cons_zero, List.getElem_cons_succ, List.setIfInBounds_toArray, List.set_cons_zero, List.set_cons_succ]; rfl) ?_
          refine Ph.get (i := 8) (v := _) (a' := _) rfl (by kernel_rfl) (by kernel_rfl) (by kernel_rfl) (by kernel_rfl) (fun _ _ _ h => h) hS (Or.inl ⟨by rfl, fun ww hSw => by obtain ⟨s1, s2, s3, s4, s5, s6, s7, s8⟩ := hSw; go_simp <;> rfl⟩) (by simp only [Act.put, List.getElem_toArray, List.getElem_cons_zero, List.getElem_cons_succ, List.setIfInBounds_toArray, List.set_cons_zero, List.set_cons_succ]; rfl) ?_
          refine Ph.get (i := 9) (v := _) (a' := _) rfl (by kernel_rfl) (by kernel_rfl) (by kernel_rfl) (by kernel_rfl) (fun _ _ _ h => h) hS (Or.inl ⟨by rfl, fun ww hSw => by obtain ⟨s1, s2, s3, s4, s5, s6, s7, s8⟩ := hSw; go_simp <;> rfl⟩) (by simp only [Act.put, List.getElem_toArray, List.getElem_cons_zero, List.getElem_cons_succ, List.setIfInBounds_toArray, List.set_cons_zero, List.set_cons_succ]; rfl) ?_
          refine Ph.get (i := 10) (v := _) (a' := _) rfl (by kernel_rfl) (by kernel_rfl) (by kernel_rfl) (by kernel_rfl) (fun _ _ _ h => h) hS (Or.inl ⟨by rfl, fun ww hSw => by obtain ⟨s1, s2, s3, s4, s5, s6, s7, s8⟩ := hSw; go_simp <;> rfl⟩) (by simp only [Act.put, List.getElem_toArray, List.getElem_cons_zero, List.getElem_cons_succ, List.setIfInBounds_toArray, List.set_cons_zero, List.set_cons_succ]; rfl) ?_
          refine Ph.get (i := 11) (v := _) (a' := _) rfl (by kernel_rfl) (by kernel_rfl) (by kernel_rfl) (by kernel_rfl) (fun _ _ _ h => h) hS (Or.inl ⟨by rfl, fun ww hSw => by obtain ⟨s1, s2, s3, s4, s5, s6, s7, s8⟩ := hSw; go_simp <;> rfl⟩) (by simp only [Act.put, List.getElem_toArray, List.getElem_cons_zero, List.getElem_cons_succ, List.setIfInBounds_toArray, List.set_cons_zero, List.set_cons_succ]; rfl) ?_
          refine Ph.get (i := 12) (v := _) (a' := _) rfl (by kernel_rfl) (by kernel_rfl) (by kernel_rfl) (by kernel_rfl) (fun _ _ _ h => h) hS (Or.inl ⟨by rfl, fun ww hSw => by obtain ⟨s1, s2, s3, s4, s5, s6, s7, s8⟩ := hSw; go_simp <;> rfl⟩) (by simp only [Act.put, List.getElem_toArray, List.getElem_cons_zero, List.getElem_cons_succ, List.setIfInBounds_toArray, List.set_cons_zero, List.set_cons_succ]; rfl) ?_
          refine Ph.get (i := 13) (v := _) (a' := _) rfl (by kernel_rfl) (by kernel_rfl) (by kernel_rfl) (by kernel_rfl) (fun _ _ _ h => h) hS (Or.inl ⟨by rfl, fun ww hSw => by obtain ⟨s1, s2, s3, s4, s5, s6, s7, s8⟩ := hSw; go_simp <;> rfl⟩) (by simp only [Act.put, List.getElem_toArray, List.getElem_cons_zero, List.getElem_cons_succ, List.setIfInBounds_toArray, List.set_cons_zero, List.set_cons_succ]; rfl) ?_
          refine Ph.get (i := 14) (v := _) (a' := _) rfl (by kernel_rfl) (by kernel_rfl) (by kernel_rfl) (by kernel_rfl) (fun _ _ _ h => h) hS (Or.inl ⟨by rfl, fun ww hSw => by obtain ⟨s1, s2, s3, s4, s5, s6, s7, s8⟩ := hSw; go_simp <;> rfl⟩) (by simp only [Act.put, List.getElem_toArray, List.getElem_cons_zero, List.getElem_cons_succ, List.setIfInBounds_toArray, List.set_cons_zero, List.set_cons_succ]; rfl) ?_
          refine Ph.get (i := 15) (v := _) (a' := _) rfl (by kernel_rfl) (by kernel_rfl) (by kernel_rfl) (by kernel_rfl) (fun _ _ _ h => h) hS (Or.inl ⟨by rfl, fun ww hSw => by obtain ⟨s1, s2, s3, s4, s5, s6, s7, s8⟩ := hSw; go_simp <;> rfl⟩) (by simp only [Act.put, List.getElem_toArray, List.getElem_cons_zero, List.getElem_cons_succ, List.setIfInBounds_toArray, List.set_cons_zero, List.set_cons_succ]; rfl) ?_
          refine Ph.get (i := 16) (v := _) (a' := _) rfl (by kernel_rfl) (by kernel_rfl) (by kernel_rfl) (by kernel_rfl) (fun _ _ _ h => h) hS (Or.inl ⟨by rfl, fun ww hSw => by obtain ⟨s1, s2, s3, s4, s5, s6, s7, s8⟩ := hSw; go_simp <;> rfl⟩) (by simp only [Act.put, List.getElem_toArray, List.getElem_cons_zero, List.getElem_cons_succ, List.setIfInBounds_toArray, List.set_cons_zero, List.set_cons_succ]; rfl) ?_
          refine Ph.get (i := 17) (v := _) (a' := _) rfl (by kernel_rfl) (by kernel_rfl) (by kernel_rfl) (by kernel_rfl) (fun _ _ _ h => h) hS (Or.inl ⟨by rfl, fun ww hSw => by obtain ⟨s1, s2, s3, s4, s5, s6, s7, s8⟩ := hSw; go_simp <;> rfl⟩) (by simp only [Act.put, List.getElem_toArray, List.getElem_cons_zero, List.getElem_cons_succ, List.setIfInBounds_toArray, List.set_cons_zero, List.set_cons_succ]; rfl) ?_
          refine Ph.one (i := 18) (by kernel_rfl) rfl (fun K hK => ?_)
          go_simp
          refine (HX.out.2.2.2.2.1 _).mono ?_
          rintro e w4 ⟨rfl, b4⟩
          go_simp
          obtain ⟨hx, hy, hl1, hl2, _, hB, hR, hO, hpk⟩ := HX.out
          have b5 := (Below.refl wr.heap.size wr).drew.trans b4
          have hB4 : Blk w4 b 68 #[.slice (some ⟨g, 0, none⟩) n cap, Hp.less, .map (some mb)] := (b5.block _ hB.lt).trans hB
          have hR4 := Hp.row_later hR b5
          have hO4 : Bk.Only (fun k => k = g) X4 w4 := hO.trans (.of b5)
          obtain ⟨a0', a1', a2'⟩ := Hp.row3 hR4 hx
          obtain ⟨e0', e1', e2'⟩ := Hp.row3 hR4 hy
          simp only at a0' a1' a2' e0' e1' e2'
          rw [Tx.v_eq hkb] at a2'
          rw [Tx.v_eq hnb] at e2'
          refine hK.out _ _ ⟨hB4.cell 0, hB4.cell 1, a0', a1', a2', e0', e1', e2'⟩ (fun _ => ?_)
          clear hK K
          refine Ph.done (by kernel_rfl) ?_ _
          have HF := Lib.hid (And.intro hB4 (And.intro hR4 (And.intro hO4 (And.intro hl1 (And.intro (Lib.hid hl2) hpk)))))
          clear HX hS b0 b1 a0 a1 a2 e0 e1 e2 a0' a1' a2' e0' e1' e2' hB4 hR4 hO4 hl1 hl2 hx hy hB hR hO b4 b5 hpk
          cases r with
          | false =>
            go_wp2_with fail
            go_roundg p
            case measure => omega
            case rel =>
              obtain ⟨h1, h2, h3, h4, h5, h6⟩ := HF.out
              exact ⟨nx, k + 1, rfl, congrArg (Value.int .i64) (by omega), by omega, by omega, h4.out (by trivial), h1, h2, h3⟩
          | true =>
            go_wp2_with fail
            go_roundg p
            case measure => omega
            case rel =>
              obtain ⟨h1, h2, h3, h4, h5, h6⟩ := HF.out
              exact ⟨k, k + 1, rfl, congrArg (Value.int .i64) (by omega), by omega, by omega, h5.out (by trivial), h1, h2, h3⟩
        · have hu2 : decide (k < n) = false := decide_eq_false hkn
          clear hpk
          have hall : ∀ k' x y, 0 < k' → (k' - 1) / 2 = i → L[k']? = some x → L[nx]? = some y → Pb.gt x y = false := fun k' x y h0 he h1 h2 => hN.big k' x y (by omega) (by have := (List.getElem?_eq_some_iff.1 h1).1; omega) h1 h2
          have HN := Lib.hid (And.intro hall (And.intro hN.at_ (And.intro hB (And.intro hR hO))))
          clear hall hN hB hR hO
          by_cases hni : nx = i
          · subst hni
            go_wp2_with fail
            refine bodyPost_ret (results_none rfl _ _ _) rfl ?_
            obtain ⟨h1, _, h3, h4, h5⟩ := HN.out
            obtain ⟨_, k2, k3, k4, k5, _⟩ := HO.out
            refine ⟨rfl, L, some ⟨g, 0, none⟩, cap, ⟨by rw [hLl]; exact h3, by rw [hLl]; exact h4, (HS.out.2.2.same (h5.block mb HS.out.2.2.lt hmg)).congr (fun x => (k4.mem_iff).symm)⟩, k5.stop h1, HL.out ▸ k4, Hp.only_then HS.out.2.1 (fun k hk => .inl (.inr (.inr ⟨_, rfl, hk.symm⟩))) h5, fun a ha => .inl ⟨a, ha, rfl⟩⟩
          · have hu9 : ((nx : Int) == (i : Int)) = false := by rw [beq_eq_false_iff_ne]; omega
            obtain ⟨h2i, hnk, hnn, hgt⟩ := HN.out.2.1.resolve_left hni
            obtain ⟨x, hx⟩ : ∃ x, L[i]? = some x := ⟨_, List.getElem?_eq_getElem (by omega)⟩
            obtain ⟨y, hy⟩ : ∃ y, L[nx]? = some y := ⟨_, List.getElem?_eq_getElem (by omega)⟩
            have hstep := HO.out.2.2.2.2.1.step Pb.ord (j := nx) (by omega) (by omega) hx hy (hgt y x hy hx) (fun k' x' h0 he h1 => HN.out.1 k' x' y h0 he h1 hy)
            have hsw := Hp.swap_perm hx hy
            have hrow := HN.out.2.2.2.1
            obtain ⟨a0, a1, a2⟩ := Hp.row3 hrow hx
            obtain ⟨e0, e1, e2⟩ := Hp.row3 hrow hy
            obtain ⟨xd, xi, xc⟩ := x
            obtain ⟨yd, yi, yc⟩ := y
            simp only at a0 a1 a2 e0 e1 e2
            obtain ⟨xb, hxb, _⟩ := Tx.of xc
            obtain ⟨yb, hyb, _⟩ := Tx.of yc
            rw [Tx.v_eq hxb] at a2
            rw [Tx.v_eq hyb] at e2
            have b0 := HN.out.2.2.1.cell 0
            have hf := fun j => hrow.frozenAt j
            have HT := Lib.hid (And.intro hstep hsw)
            clear hstep hsw hrow hgt hx hy
            have hi1 : (0 : Int) ≤ (i : Int) := by omega
            have hi2 : (i : Int) < (n : Int) := by omega
            have hi3 : i < n := by omega
            have hn1' : (0 : Int) ≤ (nx : Int) := by omega
            have hn2' : (nx : Int) < (n : Int) := by omega
            go_upto_region 12 with fail
            have hS : (fun X : World => X.cell? ⟨b, 0, none⟩ = some (.slice (some ⟨g, 0, none⟩) n cap) ∧ X.cell? ⟨g, i * 3, none⟩ = some (.int .i64 xd) ∧ X.cell? ⟨g, i * 3 + 1, none⟩ = some (.int .i64 xi) ∧ X.cell? ⟨g, i * 3 + 2, none⟩ = some (.string xb) ∧ X.cell? ⟨g, nx * 3, none⟩ = some (.int .i64 yd) ∧ X.cell? ⟨g, nx * 3 + 1, none⟩ = some (.int .i64 yi) ∧ X.cell? ⟨g, nx * 3 + 2, none⟩ = some (.string yb)) wr.drew := ⟨b0, a0, a1, a2, e0, e1, e2⟩
            refine Ph.region (fun X : World => X.cell? ⟨b, 0, none⟩ = some (.slice (some ⟨g, 0, none⟩) n cap) ∧ X.cell? ⟨g, i * 3, none⟩ = some (.int .i64 xd) ∧ X.cell? ⟨g, i * 3 + 1, none⟩ = some (.int .i64 xi) ∧ X.cell? ⟨g, i * 3 + 2, none⟩ = some (.string xb) ∧ X.cell? ⟨g, nx * 3, none⟩ = some (.int .i64 yd) ∧ X.cell? ⟨g, nx * 3 + 1, none⟩ = some (.int .i64 yi) ∧ X.cell? ⟨g, nx * 3 + 2, none⟩ = some (.string yb)) (fun i => i == 25 || i == 27) (by kernel_rfl) hS ?_
            --PP 5 6 7 9 17 18 19 21
            refine Ph.pure (i := 5) (v := _) (a' := _) rfl (by kernel_rfl) (by kernel_rfl) (by kernel_rfl) (fun _ _ _ h => h) (Or.inl ⟨by rfl, fun ww _ => by go_simp <;> rfl⟩) (by simp only [Act.put, List.getElem_toArray, List.getElem_cons_zero, List.getElem_cons_succ, List.setIfInBounds_toArray, List.set_cons_zero, List.set_cons_succ]; rfl) ?_
            refine Ph.pure (i := 6) (v := _) (a' := _) rfl (by kernel_rfl) (by kernel_rfl) (by kernel_rfl) (fun _ _ _ h => h) (Or.inl ⟨by rfl, fun ww _ => by go_simp <;> rfl⟩) (by simp only [Act.put, List.getElem_toArray, List.getElem_cons_zero, List.getElem_cons_succ, List.setIfInBounds_toArray, List.set_cons_zero, List.set_cons_succ]; rfl) ?_
            refine Ph.pure (i := 7) (v := _) (a' := _) rfl (by kernel_rfl) (by kernel_rfl) (by kernel_rfl) (fun _ _ _ h => h) (Or.inl ⟨by rfl, fun ww _ => by go_simp <;> rfl⟩) (by simp only [Act.put, List.getElem_toArray, List.getElem_cons_zero, List.getElem_cons_succ, List.setIfInBounds_toArray, List.set_cons_zero, List.set_cons_succ]; rfl) ?_
            refine Ph.pure (i := 9) (v := _) (a' := _) rfl (by kernel_rfl) (by kernel_rfl) (by kernel_rfl) (fun _ _ _ h => h) (Or.inl ⟨by rfl, fun ww _ => by go_simp <;> rfl⟩) (by simp only [Act.put, List.getElem_toArray, List.getElem_cons_zero, List.getElem_cons_succ, List.setIfInBounds_toArray, List.set_cons_zero, List.set_cons_succ]; rfl) ?_
            refine Ph.pure (i := 17) (v := _) (a' := _) rfl (by kernel_rfl) (by kernel_rfl) (by kernel_rfl) (fun _ _ _ h => h) (Or.inl ⟨by rfl, fun ww _ => by go_simp <;> rfl⟩) (by simp only [Act.put, List.getElem_toArray, List.getElem_cons_zero, List.getElem_cons_succ, List.setIfInBounds_toArray, List.set_cons_zero, List.set_cons_succ]; rfl) ?_
            refine Ph.pure (i := 18) (v := _) (a' := _) rfl (by kernel_rfl) (by kernel_rfl) (by kernel_rfl) (fun _ _ _ h => h) (Or.inl ⟨by rfl, fun ww _ => by go_simp <;> rfl⟩) (by simp only [Act.put, List.getElem_toArray, List.getElem_cons_zero, List.getElem_cons_succ, List.setIfInBounds_toArray, List.set_cons_zero, List.set_cons_succ]; rfl) ?_
            refine Ph.pure (i := 19) (v := _) (a' := _) rfl (by kernel_rfl) (by kernel_rfl) (by kernel_rfl) (fun _ _ _ h => h) (Or.inl ⟨by rfl, fun ww _ => by go_simp <;> rfl⟩) (by simp only [Act.put, List.getElem_toArray, List.getElem_cons_zero, List.getElem_cons_succ, List.setIfInBounds_toArray, List.set_cons_zero, List.set_cons_succ]; rfl) ?_
            refine Ph.pure (i := 21) (v := _) (a' := _) rfl (by kernel_rfl) (by kernel_rfl) (by kernel_rfl) (fun _ _ _ h => h) (Or.inl ⟨by rfl, fun ww _ => by go_simp <;> rfl⟩) (by simp only [Act.put, List.getElem_toArray, List.getElem_cons_zero, List.getElem_cons_succ, List.setIfInBounds_toArray, List.set_cons_zero, List.set_cons_succ]; rfl) ?_
            --PH 0 1 2 3 4 8 10 11 12 13 14 15 16 20; ⟨s1, s2, s3, s4, s5, s6, s7⟩; hS
            refine Ph.get (i := 0) (v := _) (a' := _) rfl (by kernel_rfl) (by kernel_rfl) (by kernel_rfl) (by kernel_rfl) (fun _ _ _ h => h) hS (Or.inl ⟨by rfl, fun ww hSw => by obtain ⟨s1, s2, s3, s4, s5, s6, s7⟩ := hSw; go_simp <;> rfl⟩) (by simp only [Act.put, List.getElem_toArray, List.getElem_cons_zero, List.getElem_cons_succ, List.setIfInBounds_toArray, List.set_cons_zero, List.set_cons_succ]; rfl) ?_
            refine Ph.get (i := 1) (v := _) (a' := _) rfl (by kernel_rfl) (by kernel_rfl) (by kernel_rfl) (by kernel_rfl) (fun _ _ _ h => h) hS (Or.inl ⟨by rfl, fun ww hSw => by obtain ⟨s1, s2, s3, s4, s5, s6, s7⟩ := hSw; go_simp <;> rfl⟩) (by simp only [Act.put, List.getElem_toArray, List.getElem_cons_zero, List.getElem_cons_succ, List.setIfInBounds_toArray, List.set_cons_zero, List.set_cons_succ]; rfl) ?_
            refine Ph.get (i := 2) (v := _) (a' := _) rfl (by kernel_rfl) (by kernel_rfl) (by kernel_rfl) (by kernel_rfl) (fun _ _ _ h => h) hS (Or.inl ⟨by rfl, fun ww hSw => by obtain ⟨s1, s2, s3, s4, s5, s6, s7⟩ := hSw; go_simp <;> rfl⟩) (by simp only [Act.put, List.getElem_toArray, List.getElem_cons_zero, List.getElem_cons_succ, List.setIfInBounds_toArray, List.set_cons_zero, List.set_cons_succ]; rfl) ?_
            refine Ph.get (i := 3) (v := _) (a' := _) rfl (by kernel_rfl) (by kernel_rfl) (by kernel_rfl) (by kernel_rfl) (fun _ _ _ h => h) hS (Or.inl ⟨by rfl, fun ww hSw => by obtain ⟨s1, s2, s3, s4, s5, s6, s7⟩ := hSw; go_simp <;> rfl⟩) (by simp only [Act.put, List.getElem_toArray, List.getElem_cons_zero, List.getElem_cons_succ, List.setIfInBounds_toArray, List.set_cons_zero, List.set_cons_succ]; rfl) ?_
            refine Ph.get (i := 4) (v := _) (a' := _) rfl (by kernel_rfl) (by kernel_rfl) (by kernel_rfl) (by kernel_rfl) (fun _ _ _ h => h) hS (Or.inl ⟨by rfl, fun ww hSw => by obtain ⟨s1, s2, s3, s4, s5, s6, s7⟩ := hSw; go_simp <;> rfl⟩) (by simp only [Act.put, List.getElem_toArray, List.getElem_cons_zero, List.getElem_cons_succ, List.setIfInBounds_toArray, List.set_cons_zero, List.set_cons_succ]; rfl) ?_
            refine Ph.get (i := 8) (v := _) (a' := _) rfl (by kernel_rfl) (by kernel_rfl) (by kernel_rfl) (by kernel_rfl) (fun _ _ _ h => h) hS (Or.inl ⟨by rfl, fun ww hSw => by obtain ⟨s1, s2, s3, s4, s5, s6, s7⟩ := hSw; go_simp <;> rfl⟩) (by simp only [Act.put, List.getElem_toArray, List.getElem_cons_zero, List.getElem_cons_succ, List.setIfInBounds_toArray, List.set_cons_zero, List.set_cons_succ]; rfl) ?_
            refine Ph.get (i := 10) (v := _) (a' := _) rfl (by kernel_rfl) (by kernel_rfl) (by kernel_rfl) (by kernel_rfl) (fun _ _ _ h => h) hS (Or.inl ⟨by rfl, fun ww hSw => by obtain ⟨s1, s2, s3, s4, s5, s6, s7⟩ := hSw; go_simp <;> rfl⟩) (by simp only [Act.put, List.getElem_toArray, List.getElem_cons_zero, List.getElem_cons_succ, List.setIfInBounds_toArray, List.set_cons_zero, List.set_cons_succ]; rfl) ?_
            refine Ph.get (i := 11) (v := _) (a' := _) rfl (by kernel_rfl) (by kernel_rfl) (by kernel_rfl) (by kernel_rfl) (fun _ _ _ h => h) hS (Or.inl ⟨by rfl, fun ww hSw => by obtain ⟨s1, s2, s3, s4, s5, s6, s7⟩ := hSw; go_simp <;> rfl⟩) (by simp only [Act.put, List.getElem_toArray, List.getElem_cons_zero, List.getElem_cons_succ, List.setIfInBounds_toArray, List.set_cons_zero, List.set_cons_succ]; rfl) ?_
            refine Ph.get (i := 12) (v := _) (a' := _) rfl (by kernel_rfl) (by kernel_rfl) (by kernel_rfl) (by kernel_rfl) (fun _ _ _ h => h) hS (Or.inl ⟨by rfl, fun ww hSw => by obtain ⟨s1, s2, s3, s4, s5, s6, s7⟩ := hSw; go_simp <;> rfl⟩) (by simp only [Act.put, List.getElem_toArray, List.getElem_cons_zero, List.getElem_cons_succ, List.setIfInBounds_toArray, List.set_cons_zero, List.set_cons_succ]; rfl) ?_
            refine Ph.get (i := 13) (v := _) (a' := _) rfl (by kernel_rfl) (by kernel_rfl) (by kernel_rfl) (by kernel_rfl) (fun _ _ _ h => h) hS (Or.inl ⟨by rfl, fun ww hSw => by obtain ⟨s1, s2, s3, s4, s5, s6, s7⟩ := hSw; go_simp <;> rfl⟩) (by simp only [Act.put, List.getElem_toArray, List.getElem_cons_zero, List.getElem_cons_succ, List.setIfInBounds_toArray, List.set_cons_zero, List.set_cons_succ]; rfl) ?_
            refine Ph.get (i := 14) (v := _) (a' := _) rfl (by kernel_rfl) (by kernel_rfl) (by kernel_rfl) (by kernel_rfl) (fun _ _ _ h => h) hS (Or.inl ⟨by rfl, fun ww hSw => by obtain ⟨s1, s2, s3, s4, s5, s6, s7⟩ := hSw; go_simp <;> rfl⟩) (by simp only [Act.put, List.getElem_toArray, List.getElem_cons_zero, List.getElem_cons_succ, List.setIfInBounds_toArray, List.set_cons_zero, List.set_cons_succ]; rfl) ?_
            refine Ph.get (i := 15) (v := _) (a' := _) rfl (by kernel_rfl) (by kernel_rfl) (by kernel_rfl) (by kernel_rfl) (fun _ _ _ h => h) hS (Or.inl ⟨by rfl, fun ww hSw => by obtain ⟨s1, s2, s3, s4, s5, s6, s7⟩ := hSw; go_simp <;> rfl⟩) (by simp only [Act.put, List.getElem_toArray, List.getElem_cons_zero, List.getElem_cons_succ, List.setIfInBounds_toArray, List.set_cons_zero, List.set_cons_succ]; rfl) ?_
            refine Ph.get (i := 16) (v := _) (a' := _) rfl (by kernel_rfl) (by kernel_rfl) (by kernel_rfl) (by kernel_rfl) (fun _ _ _ h => h) hS (Or.inl ⟨by rfl, fun ww hSw => by obtain ⟨s1, s2, s3, s4, s5, s6, s7⟩ := hSw; go_simp <;> rfl⟩) (by simp only [Act.put, List.getElem_toArray, List.getElem_cons_zero, List.getElem_cons_succ, List.setIfInBounds_toArray, List.set_cons_zero, List.set_cons_succ]; rfl) ?_
            refine Ph.get (i := 20) (v := _) (a' := _) rfl (by kernel_rfl) (by kernel_rfl) (by kernel_rfl) (by kernel_rfl) (fun _ _ _ h => h) hS (Or.inl ⟨by rfl, fun ww hSw => by obtain ⟨s1, s2, s3, s4, s5, s6, s7⟩ := hSw; go_simp <;> rfl⟩) (by simp only [Act.put, List.getElem_toArray, List.getElem_cons_zero, List.getElem_cons_succ, List.setIfInBounds_toArray, List.set_cons_zero, List.set_cons_succ]; rfl) ?_
            --PP 22
            refine Ph.pure (i := 22) (v := _) (a' := _) rfl (by kernel_rfl) (by kernel_rfl) (by kernel_rfl) (fun _ _ _ h => h) (Or.inl ⟨by rfl, fun ww _ => by go_simp <;> rfl⟩) (by simp only [Act.put, List.getElem_toArray, List.getElem_cons_zero, List.getElem_cons_succ, List.setIfInBounds_toArray, List.set_cons_zero, List.set_cons_succ]; rfl) ?_
            --PH 23 24; ⟨s1, s2, s3, s4, s5, s6, s7⟩; hS
            refine Ph.get (i := 23) (v := _) (a' := _) rfl (by kernel_rfl) (by kernel_rfl) (by kernel_rfl) (by kernel_rfl) (fun _ _ _ h => h) hS (Or.inl ⟨by rfl, fun ww hSw => by obtain ⟨s1, s2, s3, s4, s5, s6, s7⟩ := hSw; go_simp <;> rfl⟩) (by simp only [Act.put, List.getElem_toArray, List.getElem_cons_zero, List.getElem_cons_succ, List.setIfInBounds_toArray, List.set_cons_zero, List.set_cons_succ]; rfl) ?_
            refine Ph.get (i := 24) (v := _) (a' := _) rfl (by kernel_rfl) (by kernel_rfl) (by kernel_rfl) (by kernel_rfl) (fun _ _ _ h => h) hS (Or.inl ⟨by rfl, fun ww hSw => by obtain ⟨s1, s2, s3, s4, s5, s6, s7⟩ := hSw; go_simp <;> rfl⟩) (by simp only [Act.put, List.getElem_toArray, List.getElem_cons_zero, List.getElem_cons_succ, List.setIfInBounds_toArray, List.set_cons_zero, List.set_cons_succ]; rfl) ?_
            refine Ph.last (i := 25) (by kernel_rfl) rfl rfl (fun K hK => ?_)
            go_simp
            refine hK.out _ _ ?_
            clear hK K
            have hR5 : ∃ C : List Pb.H, (((wr.setCell ⟨g, i * 3, none⟩ (.int .i64 yd)).setCell ⟨g, i * 3 + 1, none⟩ (.int .i64 yi)).setCell ⟨g, i * 3 + 2, none⟩ (.string yb)).drew.ownsRow 0 50 3 (.slice (some ⟨g, 0, none⟩) n cap) n (Hp.cs C) ∧ C = L.set i ⟨yd, yi, yc⟩ := by
              have := (Hp.row_put HN.out.2.2.2.1 i ⟨yd, yi, yc⟩).1
              rw [Tx.v_eq hyb] at this
              exact ⟨_, this, rfl⟩
            obtain ⟨C5, hR5, hC5⟩ := hR5
            have hO5 : Bk.Only (fun k => k = g) X4 (((wr.setCell ⟨g, i * 3, none⟩ (.int .i64 yd)).setCell ⟨g, i * 3 + 1, none⟩ (.int .i64 yi)).setCell ⟨g, i * 3 + 2, none⟩ (.string yb)).drew := (((HN.out.2.2.2.2.setCell (p := ⟨g, i * 3, none⟩) (.inl rfl) _).setCell (p := ⟨g, i * 3 + 1, none⟩) (.inl rfl) _).setCell (p := ⟨g, i * 3 + 2, none⟩) (.inl rfl) _).drew
            have hB5 : Blk (((wr.setCell ⟨g, i * 3, none⟩ (.int .i64 yd)).setCell ⟨g, i * 3 + 1, none⟩ (.int .i64 yi)).setCell ⟨g, i * 3 + 2, none⟩ (.string yb)).drew b 68 #[.slice (some ⟨g, 0, none⟩) n cap, Hp.less, .map (some mb)] := ((HN.out.2.2.1.far (p := ⟨g, i * 3, none⟩) hbg _).far (p := ⟨g, i * 3 + 1, none⟩) hbg _).far (p := ⟨g, i * 3 + 2, none⟩) hbg _
            generalize (((wr.setCell ⟨g, i * 3, none⟩ (.int .i64 yd)).setCell ⟨g, i * 3 + 1, none⟩ (.int .i64 yi)).setCell ⟨g, i * 3 + 2, none⟩ (.string yb)).drew = w5 at hR5 hO5 hB5 ⊢
            clear hS hf b0 a0 a1 a2 e0 e1 e2
            --PP 26
            refine Ph.pure (i := 26) (v := _) (a' := _) rfl (by kernel_rfl) (by kernel_rfl) (by kernel_rfl) (fun _ _ _ h => h) (Or.inl ⟨by rfl, fun ww _ => by go_simp <;> rfl⟩) (by simp only [Act.put, List.getElem_toArray, List.getElem_cons_zero, List.getElem_cons_succ, List.setIfInBounds_toArray, List.set_cons_zero, List.set_cons_succ]; rfl) ?_
            obtain ⟨z, hz⟩ : ∃ z, C5[nx]? = some z := ⟨_, List.getElem?_eq_getElem (by rw [hC5, List.length_set]; omega)⟩
            obtain ⟨e0, e1, e2⟩ := Hp.row3 hR5 hz
            have f0 := hR5.frozenAt (nx * 3)
            have f1 := hR5.frozenAt (nx * 3 + 1)
            have f2 := hR5.frozenAt (nx * 3 + 2)
            have HG := Lib.hid (And.intro hR5 (And.intro hO5 hB5))
            clear hR5 hO5 hB5 hz
            refine Ph.last (i := 27) (by kernel_rfl) rfl rfl (fun K hK => ?_)
            go_simp
            refine hK.out _ _ ?_
            clear hK K
            refine Ph.done (by kernel_rfl) ?_ _
            go_wp2_with fail
            go_roundg (n - nx)
            case measure => have := HO.out.2.2.1; have := HO.out.2.2.2.2.2; omega
            case rel =>
              obtain ⟨h4, h5, h6⟩ := HG.out
              have hsw : C5.set nx ⟨xd, xi, xc⟩ = Hp.swap L i nx ⟨xd, xi, xc⟩ ⟨yd, yi, yc⟩ := by rw [hC5]; rfl
              refine ⟨nx, C5.set nx ⟨xd, xi, xc⟩, rfl, .inl hnn, rfl, by rw [List.length_set, hC5, List.length_set, hLl], ?_, ?_, ?_, ?_, ?_⟩
              · rw [hsw]; exact HT.out.2.trans HO.out.2.2.2.1
              · rw [hsw]; exact HT.out.1
              · exact ((h6.far (p := ⟨g, nx * 3, none⟩) hbg _).far (p := ⟨g, nx * 3 + 1, none⟩) hbg _).far (p := ⟨g, nx * 3 + 2, none⟩) hbg _
              · have := (Hp.row_put h4 nx ⟨xd, xi, xc⟩).1
                rw [Tx.v_eq hxb] at this
                exact this
              · exact ((h5.setCell (p := ⟨g, nx * 3, none⟩) (.inl rfl) _).setCell (p := ⟨g, nx * 3 + 1, none⟩) (.inl rfl) _).setCell (p := ⟨g, nx * 3 + 2, none⟩) (.inl rfl) _
end Go.Proofs.YtlfeibaghfcpaaaDoor
