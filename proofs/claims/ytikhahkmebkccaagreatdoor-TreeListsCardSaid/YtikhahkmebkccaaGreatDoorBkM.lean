/- The closures of Nearest: what they keep. Conditions: each theorem's own hypotheses. -/
import Derived.Test.YtikhahkmebkccaaGreatDoorBkL
import Derived.BigQuiet
import Derived.StillTailTactics
namespace Go.Proofs.YtikhahkmebkccaaGreatDoor
open Go.RowKit Go.Maps Go.Sort Go.Shelf
set_option linter.unusedVariables false
set_option linter.unusedSimpArgs false

/-- How many hits are at, within a distance. -/
def Bk.cnt (F : List Bk.H) (d : Nat) : Nat := (F.filter fun h => decide (h.d = d)).length
def Bk.cle (F : List Bk.H) (d : Nat) : Nat := (F.filter fun h => decide (h.d ≤ d)).length
/-- The bound: from here on down, as long as enough are nearer. -/
def Bk.down (k : Nat) (F : List Bk.H) : Nat → Nat
  | 0 => 0
  | b + 1 => if k ≤ Bk.cle F b then Bk.down k F b else b + 1
theorem Bk.cle_zero (F : List Bk.H) : Bk.cle F 0 = Bk.cnt F 0 := by
  unfold Bk.cle Bk.cnt
  congr 1
  refine List.filter_congr fun x _ => ?_
  simp
theorem Bk.cle_succ (F : List Bk.H) (b : Nat) : Bk.cle F (b + 1) = Bk.cle F b + Bk.cnt F (b + 1) := by
  unfold Bk.cle Bk.cnt
  induction F with
  | nil => rfl
  | cons x F ih =>
    simp only [List.filter_cons]
    by_cases h1 : x.d ≤ b
    · rw [if_pos (by simp; omega), if_pos (by simpa using h1), if_neg (by simp; omega)]
      simp only [List.length_cons]; omega
    · by_cases h2 : x.d = b + 1
      · rw [if_pos (by simp; omega), if_neg (by simpa using h1), if_pos (by simpa using h2)]
        simp only [List.length_cons]; omega
      · rw [if_neg (by simp; omega), if_neg (by simpa using h1), if_neg (by simpa using h2)]
        exact ih
theorem Bk.cle_snoc (F : List Bk.H) (x : Bk.H) (d : Nat) : Bk.cle (F ++ [x]) d = Bk.cle F d + if x.d ≤ d then 1 else 0 := by
  unfold Bk.cle
  rw [List.filter_append, List.length_append, List.filter_cons, List.filter_nil]
  by_cases h : x.d ≤ d <;> simp [h]
theorem Bk.cnt_snoc (F : List Bk.H) (x : Bk.H) (d : Nat) : Bk.cnt (F ++ [x]) d = Bk.cnt F d + if x.d = d then 1 else 0 := by
  unfold Bk.cnt
  rw [List.filter_append, List.length_append, List.filter_cons, List.filter_nil]
  by_cases h : x.d = d <;> simp [h]
theorem Bk.cle_le (F : List Bk.H) (d : Nat) : Bk.cle F d ≤ F.length := List.length_filter_le _ _
theorem Bk.cnt_le (F : List Bk.H) (d : Nat) : Bk.cnt F d ≤ F.length := List.length_filter_le _ _
theorem Bk.cnt_cle (F : List Bk.H) : ∀ b, Bk.cnt F b ≤ Bk.cle F b
  | 0 => by rw [Bk.cle_zero]; exact Nat.le_refl _
  | b + 1 => by rw [Bk.cle_succ]; exact Nat.le_add_left _ _
theorem Bk.down_le (k : Nat) (F : List Bk.H) : ∀ b, Bk.down k F b ≤ b
  | 0 => Nat.le_refl _
  | b + 1 => by
    unfold Bk.down
    split
    · exact Nat.le_succ_of_le (Bk.down_le k F b)
    · exact Nat.le_refl _
theorem Bk.down_snoc (k : Nat) (F : List Bk.H) (x : Bk.H) : ∀ b, Bk.down k (F ++ [x]) (Bk.down k F b) = Bk.down k (F ++ [x]) b
  | 0 => rfl
  | b + 1 => by
    show Bk.down k (F ++ [x]) (if k ≤ Bk.cle F b then Bk.down k F b else b + 1) = _
    by_cases h : k ≤ Bk.cle F b
    · rw [if_pos h, Bk.down_snoc k F x b]
      show _ = (if k ≤ Bk.cle (F ++ [x]) b then Bk.down k (F ++ [x]) b else b + 1)
      rw [if_pos (by rw [Bk.cle_snoc]; omega)]
    · rw [if_neg h]
theorem Bk.down_nil {k : Nat} (hk : 1 ≤ k) : ∀ b, Bk.down k [] b = b
  | 0 => rfl
  | b + 1 => by unfold Bk.down; rw [if_neg (by simp [Bk.cle]; omega)]
/-- How many were found at each distance, as cells. -/
def Bk.ats (F : List Bk.H) (wd : Nat) : Array Value := ((List.range (wd + 1)).map fun d => Value.int .i64 ((Bk.cnt F d : Nat) : Int)).toArray
theorem Bk.ats_get (F : List Bk.H) {wd d : Nat} (h : d ≤ wd) : (Bk.ats F wd)[d]? = some (.int .i64 ((Bk.cnt F d : Nat) : Int)) := by
  unfold Bk.ats
  rw [List.getElem?_toArray, List.getElem?_map, List.getElem?_range (by omega)]; rfl
theorem Bk.ats_snoc (F : List Bk.H) (wd : Nat) (x : Bk.H) : (Bk.ats F wd).setIfInBounds x.d (.int .i64 ((Bk.cnt F x.d : Nat) + 1 : Int)) = Bk.ats (F ++ [x]) wd := by
  refine Array.ext (by simp [Bk.ats]) fun i h1 h2 => ?_
  rw [Array.getElem_setIfInBounds (by simpa using h1)]
  simp only [Bk.ats, List.getElem_toArray, List.getElem_map, List.getElem_range, Bk.cnt_snoc]
  by_cases h : x.d = i
  · subst h; simp
  · simp [h]
/-- What Nearest's closures know. -/
structure Bk.NeM (B wd k : Nat) (Fl Fa : List Bk.H) (b c : Nat) (v : Value) (w : World) : Prop where
  kb : Blk w B 3 #[.int .i64 k]
  bx : Bk.Box B (B + 1) Fl v w
  mr : Blk w (B + 2) 3 (Bk.ats Fa wd)
  ab : Blk w (B + 3) 70 #[.slice (some ⟨B + 2, 0, none⟩) (wd + 1) (wd + 1)]
  bb : Blk w (B + 4) 3 #[.int .i64 b]
  wb : Blk w (B + 5) 3 #[.int .i64 c]
def Bk.neG (B : Nat) (v : Value) (j : Nat) : Prop := (B ≤ j ∧ j ≤ B + 5) ∨ v.ownBlock = some j
def Bk.NeI (B wd k : Nat) (F : List Bk.H) (G : Nat → Prop) (w : World) : Prop :=
  ∃ v, Bk.NeM B wd k F F (Bk.down k F wd) (Bk.cle F (Bk.down k F wd)) v w ∧ G = Bk.neG B v
section
variable {B wd k : Nat}
theorem Bk.NeM.lt {Fl Fa : List Bk.H} {b c : Nat} {v : Value} {w : World} {j : Nat} (h : Bk.NeM B wd k Fl Fa b c v w) (hj : Bk.neG B v j) : j < w.heap.size := by
  rcases hj with hj | hj
  · have := h.wb.lt; omega
  · exact (h.bx.row.lt j hj).2
theorem Bk.NeM.keep {Fl Fa : List Bk.H} {b c : Nat} {v : Value} {w w' : World} (h : Bk.NeM B wd k Fl Fa b c v w) (hk : ∀ j, Bk.neG B v j → w'.heap[j]? = w.heap[j]?) : Bk.NeM B wd k Fl Fa b c v w' :=
  ⟨(hk _ (.inl (by omega))).trans h.kb, ⟨(hk _ (.inl (by omega))).trans h.bx.blk, Bk.own_of h.bx.row fun j e => hk j (.inr e)⟩, (hk _ (.inl (by omega))).trans h.mr, (hk _ (.inl (by omega))).trans h.ab, (hk _ (.inl (by omega))).trans h.bb, (hk _ (.inl (by omega))).trans h.wb⟩
theorem Bk.NeM.dn {Fl Fa : List Bk.H} {b c : Nat} {v : Value} {w w' : World} (h : Bk.NeM B wd k Fl Fa b c v w) (D : Bk.Dn w w') : Bk.NeM B wd k Fl Fa b c v w' := by
  obtain ⟨n, rfl⟩ := D
  exact h.keep fun _ _ => rfl
theorem Bk.NeM.alloc {Fl Fa : List Bk.H} {b c : Nat} {v : Value} {w : World} (h : Bk.NeM B wd k Fl Fa b c v w) (o : Obj) : Bk.NeM B wd k Fl Fa b c v (w.alloc o) :=
  h.keep fun j hj => Below.heap_alloc w o j (h.lt hj)
/-- The row is none of the boxes. -/
theorem Bk.NeM.off {Fl Fa : List Bk.H} {b c : Nat} {v : Value} {w : World} (h : Bk.NeM B wd k Fl Fa b c v w) : ∀ j, B ≤ j → j ≤ B + 5 → some j ≠ v.ownBlock := by
  intro j h1 h2
  obtain h3 | h3 | h3 | h3 | h3 | h3 : j = B ∨ j = B + 1 ∨ j = B + 2 ∨ j = B + 3 ∨ j = B + 4 ∨ j = B + 5 := by omega
  · subst h3; exact Bk.own_ne h.bx.row h.kb (by decide)
  · subst h3; exact Bk.own_ne h.bx.row h.bx.blk (by decide)
  · subst h3; exact Bk.own_ne h.bx.row h.mr (by decide)
  · subst h3; exact Bk.own_ne h.bx.row h.ab (by decide)
  · subst h3; exact Bk.own_ne h.bx.row h.bb (by decide)
  · subst h3; exact Bk.own_ne h.bx.row h.wb (by decide)
theorem Bk.NeM.row_far {Fl Fa : List Bk.H} {b c : Nat} {v : Value} {w : World} (h : Bk.NeM B wd k Fl Fa b c v w) {p : Addr} (h1 : B ≤ p.block) (h2 : p.block ≤ B + 5) (u : Value) : (w.setCell p u).ownsRow B 61 3 v Fl.length (Bk.hcs Fl) :=
  Bk.own_of h.bx.row fun j e => Below.heap_setCell w p u j fun e2 => h.off p.block h1 h2 (by rw [← e2]; exact e.symm)
theorem Bk.NeM.six {Fl Fa : List Bk.H} {b c : Nat} {v : Value} {w : World} (h : Bk.NeM B wd k Fl Fa b c v w) : w.cell? ⟨B, 0, none⟩ = some (.int .i64 k) ∧ w.cell? ⟨B + 1, 0, none⟩ = some v ∧ w.cell? ⟨B + 3, 0, none⟩ = some (.slice (some ⟨B + 2, 0, none⟩) (wd + 1) (wd + 1)) ∧ w.cell? ⟨B + 4, 0, none⟩ = some (.int .i64 b) ∧ w.cell? ⟨B + 5, 0, none⟩ = some (.int .i64 c) ∧
    (∀ d, d ≤ wd → w.cell? ⟨B + 2, d, none⟩ = some (.int .i64 ((Bk.cnt Fa d : Nat) : Int))) ∧ w.frozen? ⟨B + 4, 0, none⟩ = false ∧ w.frozen? ⟨B + 5, 0, none⟩ = false ∧ (∀ d, w.frozen? ⟨B + 2, d, none⟩ = false) := by
  refine ⟨h.kb.cell 0, h.bx.blk.cell 0, h.ab.cell 0, h.bb.cell 0, h.wb.cell 0, fun d hd => ?_, h.bb.frozen 0, h.wb.frozen 0, fun d => h.mr.frozen d⟩
  rw [h.mr.cell, Bk.ats_get Fa hd]
theorem Bk.NeM.at_ {Fl Fa : List Bk.H} {b c : Nat} {v : Value} {w : World} (h : Bk.NeM B wd k Fl Fa b c v w) (x : Bk.H) : Bk.NeM B wd k Fl (Fa ++ [x]) b c v (w.setCell ⟨B + 2, x.d, none⟩ (.int .i64 ((Bk.cnt Fa x.d : Nat) + 1 : Int))) :=
  ⟨h.kb.far (by simp) _, ⟨h.bx.blk.far (by simp) _, h.row_far (by simp) (by simp) _⟩, Bk.ats_snoc Fa wd x ▸ h.mr.set_ x.d _, h.ab.far (by simp) _, h.bb.far (by simp) _, h.wb.far (by simp) _⟩
theorem Bk.NeM.b_ {Fl Fa : List Bk.H} {b c : Nat} {v : Value} {w : World} (h : Bk.NeM B wd k Fl Fa b c v w) (b' : Nat) {z : Int} (hz : z = (b' : Nat)) : Bk.NeM B wd k Fl Fa b' c v (w.setCell ⟨B + 4, 0, none⟩ (.int .i64 z)) := hz ▸
  ⟨h.kb.far (by simp) _, ⟨h.bx.blk.far (by simp) _, h.row_far (by simp) (by simp) _⟩, h.mr.far (by simp) _, h.ab.far (by simp) _, h.bb.set_ 0 _, h.wb.far (by simp) _⟩
theorem Bk.NeM.c_ {Fl Fa : List Bk.H} {b c : Nat} {v : Value} {w : World} (h : Bk.NeM B wd k Fl Fa b c v w) (c' : Nat) {z : Int} (hz : z = (c' : Nat)) : Bk.NeM B wd k Fl Fa b c' v (w.setCell ⟨B + 5, 0, none⟩ (.int .i64 z)) := hz ▸
  ⟨h.kb.far (by simp) _, ⟨h.bx.blk.far (by simp) _, h.row_far (by simp) (by simp) _⟩, h.mr.far (by simp) _, h.ab.far (by simp) _, h.bb.far (by simp) _, h.wb.set_ 0 _⟩
theorem Bk.NeI.lt {F : List Bk.H} {G : Nat → Prop} {w : World} {j : Nat} (h : Bk.NeI B wd k F G w) (hj : G j) : j < w.heap.size := by
  obtain ⟨v, hm, rfl⟩ := h
  exact hm.lt hj
theorem Bk.NeI.keep {F : List Bk.H} {G : Nat → Prop} {w w' : World} (h : Bk.NeI B wd k F G w) (hk : ∀ j, G j → w'.heap[j]? = w.heap[j]?) : Bk.NeI B wd k F G w' := by
  obtain ⟨v, hm, rfl⟩ := h
  exact ⟨v, hm.keep hk, rfl⟩
set_option maxRecDepth 100000 in
theorem Bk.ne_bound {F : List Bk.H} {G : Nat → Prop} {w : World} (h : Bk.NeI B wd k F G w) :
    Calls Tryz.prog 38 #[.pointer (some ⟨B + 4, 0, none⟩)] w fun e w' => e = .returned (.int .i64 (Bk.down k F wd : Nat)) ∧ Bk.Dn w w' := by
  obtain ⟨v, hm, rfl⟩ := h
  have k1 := hm.six.2.2.2.1
  clear hm
  go_enter Tryz.func38, Tryz.ntmps38
  go_wp2_with fail
  go_ret
  exact ⟨rfl, Bk.Dn.refl _⟩
/-- Nearest's third closure. -/
theorem Bk.ne_far {pb b : Nat} {w : World} (h : w.cell? ⟨pb, 0, none⟩ = some (.int .i64 (b : Nat))) (hB : pb < w.heap.size) (d : Nat) (cc : List UInt8) :
    Calls Tryz.prog 41 #[.agg #[.int .i64 (d : Nat), .int .i64 0, Tx.v cc], .pointer (some ⟨pb, 0, none⟩)] w fun e w' => e = .returned (.bool (decide (b < d))) ∧ Below w.heap.size w w' := by
  have h2 : (w.alloc (.cells #[.int .i64 d, .int .i64 0, .string ⟨cc.toArray⟩] 61)).cell? ⟨pb, 0, none⟩ = some (.int .i64 (b : Nat)) := (World.cell?_of_block (Below.heap_alloc w _ _ hB)).trans h
  have hb := (Below.refl w.heap.size w).alloc (Nat.le_refl _) (.cells #[.int .i64 d, .int .i64 0, .string ⟨cc.toArray⟩] 61)
  unfold Tx.v
  go_enter Tryz.func41, Tryz.ntmps41
  go_wp2_with fail
  go_ret
  refine ⟨?_, hb⟩
  simp
theorem Bk.NeM.app {F : List Bk.H} {b c : Nat} {v v' : Value} {w w4 : World} (h : Bk.NeM B wd k F F b c v w) (x : Bk.H) (hg : w.grownBy w4 v.ownBlock) (hown : w4.ownsRow B 61 3 v' (F.length + 1) (Bk.hcs F ++ Bk.hc x)) : Bk.NeM B wd k (F ++ [x]) F b c v' (w4.setCell ⟨B + 1, 0, none⟩ v') := by
  have hb4 := h.bx.blk.grown hg (h.off _ (by omega) (by omega))
  have e2 : Bk.hcs (F ++ [x]) = Bk.hcs F ++ Bk.hc x := by
    unfold Bk.hcs
    rw [List.flatMap_append, List.flatMap_singleton]
  refine ⟨(h.kb.grown hg (h.off _ (by omega) (by omega))).far (by simp) _, ⟨hb4.set_ 0 _, ?_⟩, (h.mr.grown hg (h.off _ (by omega) (by omega))).far (by simp) _, (h.ab.grown hg (h.off _ (by omega) (by omega))).far (by simp) _, (h.bb.grown hg (h.off _ (by omega) (by omega))).far (by simp) _, (h.wb.grown hg (h.off _ (by omega) (by omega))).far (by simp) _⟩
  rw [List.length_append, e2]
  exact Bk.own_of hown fun j hj => Below.heap_setCell w4 ⟨B + 1, 0, none⟩ _ j fun e => Bk.own_ne hown hb4 (by decide) (by rw [← show j = B + 1 from e]; exact hj.symm)
/-- Between two rounds of the loop that lowers the bound. -/
def Bk.NeR (B wd k : Nat) (F : List Bk.H) (v : Value) (G : Nat → Prop) (w0 : World) (n : Nat) (wr : World) : Prop :=
  Bk.NeM B wd k F F n (Bk.cle F n) v wr ∧ Bk.down k F n = Bk.down k F wd ∧ n ≤ wd ∧ Bk.Only G w0 wr
set_option maxRecDepth 100000 in
set_option maxHeartbeats 4000000 in
theorem Bk.ne_found {F : List Bk.H} {G : Nat → Prop} {w : World} (h : Bk.NeI B wd k F G w) (hk : 1 ≤ k) (hk2 : k ≤ 4096) (hwd : wd ≤ 1024) (hF : F.length < 4398046511104) (x : Bk.H) (hx : x.d ≤ wd) :
    Calls Tryz.prog 39 #[.agg #[.int .i64 (x.d : Nat), .int .i64 0, Tx.v x.c], .pointer (some ⟨B + 1, 0, none⟩), .pointer (some ⟨B + 3, 0, none⟩), .pointer (some ⟨B + 4, 0, none⟩), .pointer (some ⟨B + 5, 0, none⟩), .pointer (some ⟨B, 0, none⟩)] w fun e w' =>
      e = .returned (.tuple #[]) ∧ ∃ G', Bk.NeI B wd k (F ++ [x]) G' w' ∧ Bk.Only G w w' ∧ ∀ j, G' j → G j ∨ w.heap.size ≤ j := by
  obtain ⟨i0, hi, hz0, hz1, hz2⟩ := info_parts Bk.hitInfo
  obtain ⟨d, c⟩ := x
  obtain ⟨v, hm, rfl⟩ := h
  obtain ⟨A, cap, rfl⟩ := Bk.row_form hm.bx.row
  have hl0 := hm.lt (j := B) (.inl (by omega))
  have hl5 := hm.lt (j := B + 5) (.inl (by omega))
  have hbl := Bk.down_le k F wd
  have hcl := Bk.cle_le F (Bk.down k F wd)
  have hsn := Bk.down_snoc k F ⟨d, c⟩ wd
  have hcs := Bk.cle_snoc F ⟨d, c⟩ (Bk.down k F wd)
  have hnl := Bk.cnt_le F d
  generalize Bk.down k F wd = b at hm hbl hcl hsn hcs
  generalize hcle : Bk.cle F b = cl at hm hcl hcs
  have hm2 := (hm.alloc (.cells #[.int .i64 d, .int .i64 0, .string ⟨c.toArray⟩] 61)).alloc (.cells #[.int .i64 d, .int .i64 0, .string ⟨c.toArray⟩] 61)
  obtain ⟨c0, c1, c2, c3, c4, c5, f4, f5, f6⟩ := hm.six
  have hl1 : B + 1 < w.heap.size := by omega
  have n1 := hm2.off (B + 1) (by omega) (by omega)
  have hbx := hm2.bx.blk
  have hown := hm2.bx.row
  have hp1 : F.length + 1 ≤ maxLen := by unfold maxLen; omega
  have hp2 : (F.length + 1) * 32 ≤ 140737488355328 := by omega
  have hp3 : B ≤ ((w.alloc (.cells #[.int .i64 d, .int .i64 0, .string ⟨c.toArray⟩] 61)).alloc (.cells #[.int .i64 d, .int .i64 0, .string ⟨c.toArray⟩] 61)).heap.size := by simp; omega
  have hc3 := Bk.cells3 (w.alloc (.cells #[.int .i64 d, .int .i64 0, .string ⟨c.toArray⟩] 61)) 61 (.int .i64 d) (.int .i64 0) (.string ⟨c.toArray⟩)
  rw [World.size_alloc] at hc3
  have hbb := (Blk.new w 61 #[.int .i64 d, .int .i64 0, .string ⟨c.toArray⟩]).alloc (.cells #[.int .i64 d, .int .i64 0, .string ⟨c.toArray⟩] 61)
  have hbn : some w.heap.size ≠ (Value.slice A F.length cap).ownBlock := fun e => absurd (hm.bx.row.lt _ e.symm).2 (Nat.lt_irrefl _)
  have hon : Bk.Only (Bk.neG B (.slice A F.length cap)) w ((w.alloc (.cells #[.int .i64 d, .int .i64 0, .string ⟨c.toArray⟩] 61)).alloc (.cells #[.int .i64 d, .int .i64 0, .string ⟨c.toArray⟩] 61)) := ((Bk.Only.refl _ w).alloc _).alloc _
  have HS := Lib.hid (And.intro hcle (And.intro hsn hcs))
  have HM := Lib.hid (And.intro hm hm2)
  clear hcle hsn hcs hm hm2 c0 c2 c3 c4 c5 f4 f5 f6 hl0
  unfold Tx.v
  go_enter Tryz.func39, Tryz.ntmps39
  go_upto_region 2 with (at_builtin; refine wpList_append_own_at _ rfl _ _ 28 rfl B 61 i0 (.agg #[.int .i64 0, .int .i64 0, .string ⟨#[]⟩]) 3 32 Tryz.underlying28 hi hz0 hz1 hz2 rfl (by decide) (.slice A F.length cap) F.length _ rfl hown ⟨w.heap.size + 1, 0, none⟩ 1 1 [.int .i64 d, .int .i64 0, .string ⟨c.toArray⟩] rfl rfl hc3 (by simp [Value.oneCell']) hp1 hp2 hp3 ?_; intro v' w4 hown' hg4 hnil hat; obtain ⟨A', cp', rfl⟩ := Bk.row_form hown'; have hb4 := hbx.grown hg4 n1; have j8 : w4.cell? ⟨B + 1, 0, none⟩ = some (.slice A F.length cap) := hb4.cell 0; have f8 := hb4.frozen 0)
  have H5 := HM.out.2.app ⟨d, c⟩ hg4 hown'
  have B5 := (hbb.grown hg4 hbn).far (p := ⟨B + 1, 0, none⟩) (by simp; omega) (.slice A' (F.length + 1) cp')
  have O5 := (hon.grown hg4 (fun j hj => .inl (.inr hj))).setCell (p := ⟨B + 1, 0, none⟩) (.inl (.inl (by simp))) (.slice A' (F.length + 1) cp')
  have hat' : ∀ j, Bk.neG B (.slice A' (F.length + 1) cp') j → Bk.neG B (.slice A F.length cap) j ∨ w.heap.size ≤ j := by
    rintro j (hj | hj)
    · exact .inl (.inl hj)
    · rcases hat with e | e
      · rw [e] at hj; exact .inl (.inr hj)
      · rw [e] at hj
        have := Option.some.inj hj
        simp at this
        exact .inr (by omega)
  clear hat hnil hown' hg4 hb4 j8 f8 hbb hbn hon hc3 hp1 hp2 hp3 hown hbx n1 c1 hi hz0 hz1 hz2 HM
  generalize w4.setCell ⟨B + 1, 0, none⟩ (.slice A' (F.length + 1) cp') = w5 at H5 B5 O5 ⊢
  generalize Value.slice A' (F.length + 1) cp' = v' at H5 hat' ⊢
  clear w4
  obtain ⟨c0, c1, c2, c3, c4, c5, f4, f5, f6⟩ := H5.six
  have b0 := B5.cell 0
  simp only [List.getElem?_toArray, List.getElem?_cons_zero] at b0
  have c5d := c5 d hx
  have f6d := f6 d
  have hx' : d ≤ wd := hx
  have H6 := H5.at_ ⟨d, c⟩
  simp only at H6
  generalize Bk.cnt F d = cd at c5d hnl H6
  clear c5 f6 c0 c1 c3 c4 f4 f5 H5
  go_upto_region 3 with fail
  have B6 := B5.far (p := ⟨B + 2, d, none⟩) (by simp; omega) (.int .i64 ((cd : Int) + 1))
  have O6 := O5.setCell (p := ⟨B + 2, d, none⟩) (.inl (.inl (by simp))) (.int .i64 ((cd : Int) + 1))
  clear b0 c2 c5d f6d B5 O5
  generalize w5.setCell ⟨B + 2, d, none⟩ (.int .i64 ((cd : Int) + 1)) = w6 at H6 B6 O6 ⊢
  clear w5
  obtain ⟨c0, c1, c2, c3, c4, c5, f4, f5, f6⟩ := H6.six
  have b0 := B6.cell 0
  simp only [List.getElem?_toArray, List.getElem?_cons_zero] at b0
  clear c0 c1 c2 c5 f4 f6
  have hfl : (F ++ [(⟨d, c⟩ : Bk.H)]).length = F.length + 1 := by simp
  rcases Nat.lt_or_ge b d with h3 | h3
  · have u1 : decide (d ≤ b) = false := decide_eq_false (by omega)
    go_upto_region 5 with fail
    have hR : Bk.NeR B wd k (F ++ [(⟨d, c⟩ : Bk.H)]) v' (Bk.neG B (.slice A F.length cap)) w b w6 := ⟨by rw [HS.out.2.2, if_neg (by simp; omega)]; exact H6, HS.out.2.1, hbl, O6⟩
    clear H6 B6 O6 c3 c4 f5 b0
    have HR := Lib.hid hR
    clear hR HS u1
    go_loopg [] b (fun n wr => Bk.NeR B wd k (F ++ [(⟨d, c⟩ : Bk.H)]) v' (Bk.neG B (.slice A F.length cap)) w n wr)
    case atStart => exact HR.out
    case round =>
      clear HR w6
      obtain ⟨hm, hdn, hnw, ho⟩ := hrel
      obtain ⟨c0, _, c2, c3, c4, c5, f4, f5, _⟩ := hm.six
      have c5g := c5 gk hnw
      clear c5
      have hcc := Bk.cnt_cle (F ++ [(⟨d, c⟩ : Bk.H)]) gk
      have hcl2 := Bk.cle_le (F ++ [(⟨d, c⟩ : Bk.H)]) gk
      rw [hfl] at hcl2
      generalize hcq : Bk.cle (F ++ [(⟨d, c⟩ : Bk.H)]) gk = cc at hm c4 hcc hcl2
      generalize hcn : Bk.cnt (F ++ [(⟨d, c⟩ : Bk.H)]) gk = cn at c5g hcc
      obtain ⟨e, he⟩ : ∃ e, cc = e + cn := ⟨cc - cn, by omega⟩
      have hs : (cc : Int) - (cn : Int) = (e : Int) := by omega
      rcases Nat.lt_or_ge e k with h4 | h4
      · have u1 : decide (k ≤ e) = false := decide_eq_false (by omega)
        have hend : Bk.down k (F ++ [(⟨d, c⟩ : Bk.H)]) wd = gk := by
          rw [← hdn]
          cases gk with
          | zero => rfl
          | succ m =>
            rw [Bk.cle_succ] at hcq
            unfold Bk.down
            rw [if_neg (by omega)]
        have HE := Lib.hid (And.intro hend (And.intro hcq (And.intro hm ho)))
        clear hend hcq hcn hdn hm ho
        go_upto_region 5 with fail
        go_quiet (fail)
        go_wp2_with fail
        go_end0
        have hfin := (HE.out.2.2.1).dn ⟨nq, rfl⟩
        refine ⟨rfl, Bk.neG B v', ⟨v', ?_, rfl⟩, ?_, hat'⟩
        · rw [HE.out.1, HE.out.2.1]
          exact hfin
        · exact HE.out.2.2.2.trans (.of ⟨rfl, rfl, rfl, Nat.le_refl _, fun _ _ => rfl⟩)
      · have u1 : decide (k ≤ e) = true := decide_eq_true (by omega)
        obtain ⟨m, hgm⟩ : ∃ m, gk = m + 1 := by
          cases gk with
          | zero => rw [Bk.cle_zero] at hcq; omega
          | succ m => exact ⟨m, rfl⟩
        have hem : Bk.cle (F ++ [(⟨d, c⟩ : Bk.H)]) m = e := by
          rw [hgm, Bk.cle_succ] at hcq
          rw [hgm] at hcn
          omega
        have hdm : Bk.down k (F ++ [(⟨d, c⟩ : Bk.H)]) m = Bk.down k (F ++ [(⟨d, c⟩ : Bk.H)]) wd := by
          rw [← hdn, hgm]
          show _ = (if k ≤ Bk.cle (F ++ [(⟨d, c⟩ : Bk.H)]) m then Bk.down k (F ++ [(⟨d, c⟩ : Bk.H)]) m else m + 1)
          rw [if_pos (by omega)]
        have HE := Lib.hid (And.intro hem (And.intro hdm (And.intro hm (And.intro ho (And.intro hcn hgm)))))
        have hs2 : (gk : Int) - 1 = (m : Int) := by omega
        clear hem hdm hcq hcn hdn hm ho he hgm
        go_upto_region 5 with fail
        go_quiet (fail)
        have H7 := (HE.out.2.2.1).dn ⟨nq, rfl⟩
        have O7 := HE.out.2.2.2.1.trans (.of (Below.refl wr.heap.size wr |> (below_dn · nq)))
        clear c0 c2 c3 c4 c5g f4 f5
        generalize wr.drewN nq = w7 at H7 O7 ⊢
        obtain ⟨c0, _, c2, c3, c4, c5, f4, f5, _⟩ := H7.six
        have c5g := c5 gk hnw
        rw [HE.out.2.2.2.2.1] at c5g
        have hj := ((H7.c_ e (z := (e : Int)) rfl).b_ m (z := (m : Int)) rfl).dn ⟨1, rfl⟩
        have oj := ((O7.setCell (p := ⟨B + 5, 0, none⟩) (.inl (.inl (by simp))) (.int .i64 (e : Int))).setCell (p := ⟨B + 4, 0, none⟩) (.inl (.inl (by simp))) (.int .i64 (m : Int))).drew
        have HJ := Lib.hid (And.intro hj oj)
        clear c5 hj oj H7 O7
        go_upto_region 6 with fail
        go_region
        go_upto_region 7 with fail
        go_wp2_with fail
        go_roundg m
        case measure => have := HE.out.2.2.2.2.2; omega
        case rel =>
          refine ⟨by rw [HE.out.1]; exact HJ.out.1, HE.out.2.1, by have := HE.out.2.2.2.2.2; omega, HJ.out.2⟩
  · have u1 : decide (d ≤ b) = true := decide_eq_true (by omega)
    go_upto_region 5 with fail
    have hR : Bk.NeR B wd k (F ++ [(⟨d, c⟩ : Bk.H)]) v' (Bk.neG B (.slice A F.length cap)) w b (w6.setCell ⟨B + 5, 0, none⟩ (.int .i64 ((cl : Int) + 1))) := ⟨by rw [HS.out.2.2, if_pos (show d ≤ b by omega)]; exact H6.c_ (cl + 1) (by omega), HS.out.2.1, hbl, O6.setCell (.inl (.inl (by simp))) _⟩
    clear H6 B6 O6 c3 c4 f5 b0
    have HR := Lib.hid hR
    clear hR HS u1
    go_loopg [] b (fun n wr => Bk.NeR B wd k (F ++ [(⟨d, c⟩ : Bk.H)]) v' (Bk.neG B (.slice A F.length cap)) w n wr)
    case atStart => exact HR.out
    case round =>
      clear HR w6
      obtain ⟨hm, hdn, hnw, ho⟩ := hrel
      obtain ⟨c0, _, c2, c3, c4, c5, f4, f5, _⟩ := hm.six
      have c5g := c5 gk hnw
      clear c5
      have hcc := Bk.cnt_cle (F ++ [(⟨d, c⟩ : Bk.H)]) gk
      have hcl2 := Bk.cle_le (F ++ [(⟨d, c⟩ : Bk.H)]) gk
      rw [hfl] at hcl2
      generalize hcq : Bk.cle (F ++ [(⟨d, c⟩ : Bk.H)]) gk = cc at hm c4 hcc hcl2
      generalize hcn : Bk.cnt (F ++ [(⟨d, c⟩ : Bk.H)]) gk = cn at c5g hcc
      obtain ⟨e, he⟩ : ∃ e, cc = e + cn := ⟨cc - cn, by omega⟩
      have hs : (cc : Int) - (cn : Int) = (e : Int) := by omega
      rcases Nat.lt_or_ge e k with h4 | h4
      · have u1 : decide (k ≤ e) = false := decide_eq_false (by omega)
        have hend : Bk.down k (F ++ [(⟨d, c⟩ : Bk.H)]) wd = gk := by
          rw [← hdn]
          cases gk with
          | zero => rfl
          | succ m =>
            rw [Bk.cle_succ] at hcq
            unfold Bk.down
            rw [if_neg (by omega)]
        have HE := Lib.hid (And.intro hend (And.intro hcq (And.intro hm ho)))
        clear hend hcq hcn hdn hm ho
        go_upto_region 5 with fail
        go_quiet (fail)
        go_wp2_with fail
        go_end0
        have hfin := (HE.out.2.2.1).dn ⟨nq, rfl⟩
        refine ⟨rfl, Bk.neG B v', ⟨v', ?_, rfl⟩, ?_, hat'⟩
        · rw [HE.out.1, HE.out.2.1]
          exact hfin
        · exact HE.out.2.2.2.trans (.of ⟨rfl, rfl, rfl, Nat.le_refl _, fun _ _ => rfl⟩)
      · have u1 : decide (k ≤ e) = true := decide_eq_true (by omega)
        obtain ⟨m, hgm⟩ : ∃ m, gk = m + 1 := by
          cases gk with
          | zero => rw [Bk.cle_zero] at hcq; omega
          | succ m => exact ⟨m, rfl⟩
        have hem : Bk.cle (F ++ [(⟨d, c⟩ : Bk.H)]) m = e := by
          rw [hgm, Bk.cle_succ] at hcq
          rw [hgm] at hcn
          omega
        have hdm : Bk.down k (F ++ [(⟨d, c⟩ : Bk.H)]) m = Bk.down k (F ++ [(⟨d, c⟩ : Bk.H)]) wd := by
          rw [← hdn, hgm]
          show _ = (if k ≤ Bk.cle (F ++ [(⟨d, c⟩ : Bk.H)]) m then Bk.down k (F ++ [(⟨d, c⟩ : Bk.H)]) m else m + 1)
          rw [if_pos (by omega)]
        have HE := Lib.hid (And.intro hem (And.intro hdm (And.intro hm (And.intro ho (And.intro hcn hgm)))))
        have hs2 : (gk : Int) - 1 = (m : Int) := by omega
        clear hem hdm hcq hcn hdn hm ho he hgm
        go_upto_region 5 with fail
        go_quiet (fail)
        have H7 := (HE.out.2.2.1).dn ⟨nq, rfl⟩
        have O7 := HE.out.2.2.2.1.trans (.of (Below.refl wr.heap.size wr |> (below_dn · nq)))
        clear c0 c2 c3 c4 c5g f4 f5
        generalize wr.drewN nq = w7 at H7 O7 ⊢
        obtain ⟨c0, _, c2, c3, c4, c5, f4, f5, _⟩ := H7.six
        have c5g := c5 gk hnw
        rw [HE.out.2.2.2.2.1] at c5g
        have hj := ((H7.c_ e (z := (e : Int)) rfl).b_ m (z := (m : Int)) rfl).dn ⟨1, rfl⟩
        have oj := ((O7.setCell (p := ⟨B + 5, 0, none⟩) (.inl (.inl (by simp))) (.int .i64 (e : Int))).setCell (p := ⟨B + 4, 0, none⟩) (.inl (.inl (by simp))) (.int .i64 (m : Int))).drew
        have HJ := Lib.hid (And.intro hj oj)
        clear c5 hj oj H7 O7
        go_upto_region 6 with fail
        go_region
        go_upto_region 7 with fail
        go_wp2_with fail
        go_roundg m
        case measure => have := HE.out.2.2.2.2.2; omega
        case rel =>
          refine ⟨by rw [HE.out.1]; exact HJ.out.1, HE.out.2.1, by have := HE.out.2.2.2.2.2; omega, HJ.out.2⟩
end
end Go.Proofs.YtikhahkmebkccaaGreatDoor
