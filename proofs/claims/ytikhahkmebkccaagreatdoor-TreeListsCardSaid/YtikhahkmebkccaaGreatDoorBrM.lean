/- The law TreeExact. Conditions: each theorem's own hypotheses. -/
import Derived.Test.YtikhahkmebkccaaGreatDoorBrL
import Derived.Test.YtikhahkmebkccaaGreatDoorBkAA
import Derived.Test.YtikhahkmebkccaaGreatDoorBkY
import Derived.Test.YtikhahkmebkccaaGreatDoorBkAE
import Derived.Test.YtikhahkmebkccaaGreatDoorBkOpen
import Derived.Deep.RegionHeld3
import Derived.Deep.RegionWith
namespace Go.Proofs.YtikhahkmebkccaaGreatDoor
open Go.RowKit Go.Maps Go.Sort Go.Shelf
set_option linter.unusedVariables false
set_option linter.unusedSimpArgs false

set_option maxRecDepth 100000 in
set_option maxHeartbeats 4000000 in
theorem Br.same_any {W : World} {v1 v2 : Value} {l : List Bk.H} (h1 : W.ownsRow 0 61 3 v1 l.length (Bk.hcs l)) (h2 : W.ownsRow 0 61 3 v2 l.length (Bk.hcs l)) (hl : l.length ≤ 4611686018427387903) (yes : Bool) (er : Int) (len nodes depth : Nat) (looked : Int) :
    Calls Tryz.prog 8 #[.agg #[.bool yes, .int .i64 er, v1, .int .i64 len, .int .i64 nodes, .int .i64 depth, .int .i64 looked], .agg #[.bool yes, .int .i64 er, v2, .int .i64 len, .int .i64 nodes, .int .i64 depth, .int .i64 looked]] W fun e W' => e = .returned (.bool true) ∧ Below W.heap.size W W' := by
  have hb := ((Below.refl W.heap.size W).alloc (Nat.le_refl _) (.cells #[.bool yes, .int .i64 er, v1, .int .i64 len, .int .i64 nodes, .int .i64 depth, .int .i64 looked] 30)).alloc (by simp) (.cells #[.bool yes, .int .i64 er, v2, .int .i64 len, .int .i64 nodes, .int .i64 depth, .int .i64 looked] 30)
  have r1 := Bk.own_later h1 hb (Nat.le_refl _)
  have r2 := Bk.own_later h2 hb (Nat.le_refl _)
  have b1 := (Blk.new W 30 #[.bool yes, .int .i64 er, v1, .int .i64 len, .int .i64 nodes, .int .i64 depth, .int .i64 looked]).alloc (.cells #[.bool yes, .int .i64 er, v2, .int .i64 len, .int .i64 nodes, .int .i64 depth, .int .i64 looked] 30)
  have b2 := Blk.new (W.alloc (.cells #[.bool yes, .int .i64 er, v1, .int .i64 len, .int .i64 nodes, .int .i64 depth, .int .i64 looked] 30)) 30 #[.bool yes, .int .i64 er, v2, .int .i64 len, .int .i64 nodes, .int .i64 depth, .int .i64 looked]
  rw [World.size_alloc] at b2
  clear h1 h2
  obtain ⟨A1, c1, rfl⟩ := Bk.row_form r1
  obtain ⟨A2, c2, rfl⟩ := Bk.row_form r2
  go_enter Tryz.func8, Tryz.ntmps8
  go_upto_region 1 with fail
  generalize (W.alloc (.cells #[.bool yes, .int .i64 er, .slice A1 l.length c1, .int .i64 len, .int .i64 nodes, .int .i64 depth, .int .i64 looked] 30)).alloc (.cells #[.bool yes, .int .i64 er, .slice A2 l.length c2, .int .i64 len, .int .i64 nodes, .int .i64 depth, .int .i64 looked] 30) = w2 at hb r1 r2 b1 b2 ⊢
  have p2 := b1.cell 2
  have q2 := b2.cell 2
  simp only [List.getElem?_toArray, List.getElem?_cons_zero, List.getElem?_cons_succ] at p2 q2
  have ks := Bk.same_eq r1 r2 hl
  go_upto_region 2 with (go_at_call 12; refine ks.mono ?_; clear ks; rintro e w3 ⟨rfl, n3, rfl⟩)
  have b3 : Blk (w2.drewN n3) W.heap.size 30 _ := b1
  have b4 : Blk (w2.drewN n3) (W.heap.size + 1) 30 _ := b2
  have hb3 : Below W.heap.size W (w2.drewN n3) := below_dn hb n3
  clear p2 q2 b1 b2 hb r1 r2
  generalize w2.drewN n3 = w3 at b3 b4 hb3 ⊢
  have p0 := b3.cell 0
  have p1 := b3.cell 1
  have p3 := b3.cell 3
  have p4 := b3.cell 4
  have p5 := b3.cell 5
  have p6 := b3.cell 6
  have q0 := b4.cell 0
  have q1 := b4.cell 1
  have q3 := b4.cell 3
  have q4 := b4.cell 4
  have q5 := b4.cell 5
  have q6 := b4.cell 6
  simp only [List.getElem?_toArray, List.getElem?_cons_zero, List.getElem?_cons_succ] at p0 p1 p3 p4 p5 p6 q0 q1 q3 q4 q5 q6
  have u0 : (yes == yes) = true := beq_self_eq_true _
  have u1 : (er == er) = true := beq_self_eq_true _
  have u3 : ((len : Int) == (len : Int)) = true := beq_self_eq_true _
  have u4 : ((nodes : Int) == (nodes : Int)) = true := beq_self_eq_true _
  have u5 : ((depth : Int) == (depth : Int)) = true := beq_self_eq_true _
  have u6 : (looked == looked) = true := beq_self_eq_true _
  clear b3 b4
  go_wp2_with fail
  go_ret
  exact ⟨rfl, hb3⟩
/-- Two trees that stand for the same: the program's and the document's. -/
structure Br.Ex (W : World) (t d : Nat) (T : Bk.T) (F G : Nat → Prop) (X : World) : Prop where
  bk : Bk.Tree X t T F
  br : Br.Tree X d T G
  bel : Below W.heap.size W X
  fge : ∀ j, F j → W.heap.size ≤ j
  gge : ∀ j, G j → W.heap.size ≤ j
  dis : ∀ j, G j → ¬ F j
section
variable {W X X1 X2 : World} {t d : Nat} {T T' : Bk.T} {F F' G G' : Nat → Prop}
theorem Br.Ex.later (h : Br.Ex W t d T F G X) (hb : Below X.heap.size X X1) : Br.Ex W t d T F G X1 :=
  ⟨h.bk.later hb (Nat.le_refl _), h.br.keep fun k hk => hb.block k (h.br.at'.lt hk), h.bel.trans (hb.mono h.bel.size), h.fge, h.gge, h.dis⟩
theorem Br.Ex.dn (h : Br.Ex W t d T F G X) (n : Nat) : Br.Ex W t d T F G (X.drewN n) := h.later (below_dn (Below.refl _ X) n)
/-- Amid a pair of calls: the program's has been made. -/
structure Br.Ex1 (W : World) (t d : Nat) (T T' : Bk.T) (F F' G : Nat → Prop) (X X1 : World) : Prop where
  bk : Bk.Tree X1 t T' F'
  br : Br.Tree X1 d T G
  bel : Below W.heap.size W X1
  fge : ∀ j, F' j → W.heap.size ≤ j
  gge : ∀ j, G j → W.heap.size ≤ j ∧ j < X.heap.size
  dis : ∀ j, G j → ¬ F' j
  only : Bk.Only F X X1
  new : ∀ k, F' k → F k ∨ X.heap.size ≤ k
theorem Br.Ex.one (h : Br.Ex W t d T F G X) (hk : Bk.Tree X1 t T' F') (ho : Bk.Only F X X1) (hn : ∀ k, F' k → F k ∨ X.heap.size ≤ k) : Br.Ex1 W t d T T' F F' G X X1 :=
  ⟨hk, h.br.keep fun k hk => ho.block k (h.br.at'.lt hk) (h.dis k hk), h.bel.trans (ho.below h.bel.size h.fge), fun j hj => (hn j hj).elim (h.fge j) fun e => by have := h.bel.size; omega,
    fun j hj => ⟨h.gge j hj, h.br.at'.lt hj⟩, fun j hj hf => (hn j hf).elim (h.dis j hj) fun e => by have := h.br.at'.lt hj; omega, ho, hn⟩
theorem Br.Ex1.two (h : Br.Ex1 W t d T T' F F' G X X1) (hk : Br.Tree X2 d T' G') (ho : Bk.Only G X1 X2) (hn : ∀ k, G' k → G k ∨ X1.heap.size ≤ k) :
    Br.Ex W t d T' F' G' X2 ∧ Bk.Only (fun k => F k ∨ G k) X X2 ∧ (∀ k, F' k ∨ G' k → (F k ∨ G k) ∨ X.heap.size ≤ k) := by
  have hs := h.only.size
  refine ⟨⟨h.bk.keep fun k hk => ho.block k (h.bk.at'.lt hk) fun hg => h.dis k hg hk, hk, h.bel.trans (ho.below h.bel.size fun k hk => (h.gge k hk).1), h.fge, fun j hj => (hn j hj).elim (fun e => (h.gge j e).1) fun e => by have := h.bel.size; omega,
    fun j hj hf => (hn j hj).elim (fun e => h.dis j e hf) fun e => by have := h.bk.at'.lt hf; omega⟩, (h.only.wide fun k _ hk => .inl hk).trans (ho.wide fun k _ hk => .inr hk), fun k hk => ?_⟩
  rcases hk with hk | hk
  · exact (h.new k hk).elim (fun e => .inl (.inl e)) .inr
  · exact (hn k hk).elim (fun e => .inl (.inr e)) fun e => .inr (by omega)
end
end Go.Proofs.YtikhahkmebkccaaGreatDoor
