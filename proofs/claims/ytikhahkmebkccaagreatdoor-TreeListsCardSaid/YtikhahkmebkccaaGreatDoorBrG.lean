/- The document's tree: within. Conditions: each theorem's own hypotheses. -/
import Derived.Test.YtikhahkmebkccaaGreatDoorBrF
namespace Go.Proofs.YtikhahkmebkccaaGreatDoor
open Go.RowKit Go.Maps Go.Sort Go.Shelf
set_option linter.unusedVariables false
set_option linter.unusedSimpArgs false

section
variable (w : Nat) (l : List Bk.N) (q : List UInt8) (r : List Bk.H → Nat) (i : Nat)
/-- One distance below a node. -/
def Br.st (s : List Bk.H × Nat) (e : Nat) : List Bk.H × Nat := match Bk.child l i e with
  | none => s
  | some k => if Bk.near (Bk.far (Bk.code l i) q) e (r s.1) = true then Bk.V w l q r k s else s
/-- The distances below n, one behind the other. -/
def Br.up (s : List Bk.H × Nat) (n : Nat) : List Bk.H × Nat := (List.range n).foldl (Br.st w l q r i) s
theorem Br.up_succ (s : List Bk.H × Nat) (n : Nat) : Br.up w l q r i s (n + 1) = Br.st w l q r i (Br.up w l q r i s n) n := by
  unfold Br.up; rw [List.range_succ, List.foldl_append]; rfl
theorem Br.fold_kids : ∀ (L : List Nat) (s : List Bk.H × Nat), (L.filterMap fun e => (Bk.child l i e).map fun k => (e, k)).foldl (fun s ec => if Bk.near (Bk.far (Bk.code l i) q) ec.1 (r s.1) = true then Bk.V w l q r ec.2 s else s) s = L.foldl (Br.st w l q r i) s
  | [], s => rfl
  | e :: L, s => by
    cases hc : Bk.child l i e with
    | none =>
      rw [List.filterMap_cons_none (by rw [hc]; rfl), List.foldl_cons, Br.fold_kids L]
      have : Br.st w l q r i s e = s := by unfold Br.st; rw [hc]
      rw [this]
    | some k =>
      rw [List.filterMap_cons_some (b := (e, k)) (by rw [hc]; rfl), List.foldl_cons, List.foldl_cons, Br.fold_kids L]
      have : Br.st w l q r i s e = if Bk.near (Bk.far (Bk.code l i) q) e (r s.1) = true then Bk.V w l q r k s else s := by unfold Br.st; rw [hc]
      rw [this]
theorem Br.V_up (h : Bk.Good w l) (s : List Bk.H × Nat) : Bk.V w l q r i s = Br.up w l q r i (Bk.look l q i s) (w + 1) := by
  rw [h.V_eq]
  exact Br.fold_kids w l q r i _ _
theorem Br.up_idle (s : List Bk.H × Nat) {a b : Nat} (hab : a ≤ b) (h : ∀ e, a ≤ e → e < b → ∀ s, Br.st w l q r i s e = s) : Br.up w l q r i s b = Br.up w l q r i s a := by
  induction b with
  | zero => rw [show a = 0 by omega]
  | succ b ih =>
    by_cases e : a = b + 1
    · rw [e]
    · rw [Br.up_succ, h b (by omega) (by omega), ih (by omega) fun e h1 h2 => h e h1 (by omega)]
theorem Br.child_zero (h : Bk.Good w l) : Bk.child l i 0 = none := by
  cases hc : Bk.child l i 0 with
  | none => rfl
  | some k =>
    obtain ⟨n, hn, ho, hd⟩ := Bk.child_some hc
    rcases h.over k n hn with ⟨_, h1, _⟩ | ⟨p, m, h1, h2, h3, h4⟩
    · omega
    · have hl1 := h.len n (List.mem_of_getElem? hn)
      have hl2 := h.len m (List.mem_of_getElem? h3)
      have he := Bk.far_eq m.code n.code (by omega) (by omega)
      have := h.nodup p k m n h3 hn he
      omega
theorem Br.visit_mono : ∀ f i s, s.1.length ≤ (Bk.visit w l q r f i s).1.length
  | 0, _, _ => Nat.le_refl _
  | f + 1, i, s => by
    have hf : ∀ (L : List (Nat × Nat)) (s : List Bk.H × Nat), s.1.length ≤ (L.foldl (fun s ec => if Bk.near (Bk.far (Bk.code l i) q) ec.1 (r s.1) = true then Bk.visit w l q r f ec.2 s else s) s).1.length := by
      intro L
      induction L with
      | nil => exact fun s => Nat.le_refl _
      | cons x L ih =>
        intro s
        rw [List.foldl_cons]
        refine Nat.le_trans ?_ (ih _)
        split
        · exact Br.visit_mono f x.2 s
        · exact Nat.le_refl _
    unfold Bk.visit
    refine Nat.le_trans ?_ (hf _ _)
    unfold Bk.look
    split
    · simp
    · exact Nat.le_refl _
theorem Br.st_mono (s : List Bk.H × Nat) (e : Nat) : s.1.length ≤ (Br.st w l q r i s e).1.length := by
  unfold Br.st
  split
  · exact Nat.le_refl _
  · split
    · exact Br.visit_mono w l q r _ _ _
    · exact Nat.le_refl _
theorem Br.up_mono (s : List Bk.H × Nat) {a b : Nat} (hab : a ≤ b) : (Br.up w l q r i s a).1.length ≤ (Br.up w l q r i s b).1.length := by
  induction b with
  | zero => rw [show a = 0 by omega]; exact Nat.le_refl _
  | succ b ih =>
    by_cases e : a = b + 1
    · rw [e]; exact Nat.le_refl _
    · rw [Br.up_succ]
      exact Nat.le_trans (ih (by omega)) (Br.st_mono w l q r i _ _)
end
/-- Amid a search: W0 was ahead of it; the tree's block, and a row of hits that was made since. -/
structure Br.Sx (W0 : World) (t : Nat) (T : Bk.T) (A : Option Addr) (cap : Nat) (P : List Bk.H → List Bk.H) (s : List Bk.H × Nat) (v : Value) (W : World) : Prop where
  only : Bk.Only (fun k => k = t) W0 W
  tree : Blk W t 47 #[.int .i64 T.w, .slice A T.l.length cap, .int .i64 (Bk.w64 s.2)]
  row : W.ownsRow W0.heap.size 61 3 v (P s.1).length (Bk.hcs (P s.1))
section
variable {W0 W W' : World} {t : Nat} {T : Bk.T} {A : Option Addr} {cap : Nat} {P : List Bk.H → List Bk.H} {s : List Bk.H × Nat} {v : Value}
theorem Br.Sx.nodes (h : Br.Sx W0 t T A cap P s v W) (hS : Br.St W0 t T A cap) : W.ownsRow 0 75 4 (.slice A T.l.length cap) T.l.length (Br.ncs T.l) :=
  Bk.own_of hS.row fun k hk => h.only.block k (hS.row.lt k hk).2 (hS.off k hk)
theorem Br.Sx.st (h : Br.Sx W0 t T A cap P s v W) (hS : Br.St W0 t T A cap) : Br.St W t { T with seen := s.2 } A cap := ⟨h.tree, h.nodes hS, hS.off⟩
theorem Br.Sx.at' (h : Br.Sx W0 t T A cap P s v W) (hS : Br.St W0 t T A cap) : Br.At W t { T with seen := s.2 } (Br.foot t (.slice A T.l.length cap)) := ⟨A, cap, h.st hS, rfl⟩
theorem Br.Sx.off (h : Br.Sx W0 t T A cap P s v W) (hS : Br.St W0 t T A cap) : ∀ j, v.ownBlock = some j → j ≠ t := fun j hj e => by
  have h1 := (h.row.lt j hj).1
  have h2 := hS.tree.lt
  omega
theorem Br.Sx.seen (h : Br.Sx W0 t T A cap P s v W) (hS : Br.St W0 t T A cap) : Br.Sx W0 t T A cap P (s.1, s.2 + 1) v (W.setCell ⟨t, 2, none⟩ (.int .i64 (Bk.w64 (s.2 + 1)))) :=
  ⟨h.only.setCell (p := ⟨t, 2, none⟩) (.inl rfl) _, h.tree.set_ 2 (.int .i64 (Bk.w64 (s.2 + 1))), Bk.own_of h.row fun k hk => Below.heap_setCell W ⟨t, 2, none⟩ _ k (h.off hS k hk)⟩
theorem Br.Sx.hit (h : Br.Sx W0 t T A cap P s v W) (hS : Br.St W0 t T A cap) (hb : Below W0.heap.size W W') {F' : List Bk.H} {v' : Value} (hr : W'.ownsRow W0.heap.size 61 3 v' (P F').length (Bk.hcs (P F'))) : Br.Sx W0 t T A cap P (F', s.2) v' W' :=
  ⟨⟨hb.os.trans h.only.os, hb.tape.trans h.only.tape, hb.output.trans h.only.output, Nat.le_trans h.only.size hb.size, fun k hk hn => (hb.block k hk).trans (h.only.block k hk hn)⟩, (hb.block t hS.tree.lt).trans h.tree, hr⟩
theorem Br.Sx.same (h : Br.Sx W0 t T A cap P s v W) {F' : List Bk.H} (hp : P F' = P s.1) : Br.Sx W0 t T A cap P (F', s.2) v W := ⟨h.only, h.tree, by rw [hp]; exact h.row⟩
end
/-- The hits within a distance, in order. -/
def Br.PW (R : Nat) (F : List Bk.H) : List Bk.H := Bk.sortH (F.filter fun x => decide (x.d ≤ R))
theorem Br.PW_put (R : Nat) (F : List Bk.H) (x : Bk.H) (h : x.d ≤ R) : Br.PW R (F ++ [x]) = Bk.sortH (Br.PW R F ++ [x]) := by
  unfold Br.PW
  rw [List.filter_append]
  refine Bk.sortH_perm ?_
  rw [List.filter_cons_of_pos (by simpa using h), List.filter_nil]
  exact (Bk.sortH_is _).symm.append_right _
theorem Br.PW_skip (R : Nat) (F : List Bk.H) (x : Bk.H) (h : ¬ x.d ≤ R) : Br.PW R (F ++ [x]) = Br.PW R F := by
  unfold Br.PW
  rw [List.filter_append, List.filter_cons_of_neg (by simpa using h), List.filter_nil, List.append_nil]
theorem Br.PW_len (R : Nat) (F : List Bk.H) : (Br.PW R F).length ≤ F.length := by
  unfold Br.PW
  rw [(Bk.sortH_is _).length_eq]
  exact List.length_filter_le _ _
end Go.Proofs.YtikhahkmebkccaaGreatDoor
