/- A search through a tree by distances, in plain Lean: children, the visits, the stack that makes the same visits, how long it takes. No conditions but each theorem's own. -/
import Derived.Test.YtikhahkmebkccaaGreatDoorBkP
namespace Go.Proofs.YtikhahkmebkccaaGreatDoor
open Go.RowKit Go.Maps Go.Sort

/-- A hit: how far, which code. -/
structure Bk.H where
  d : Nat
  c : List UInt8
/-- A node's children: their distances, rising, and their places. -/
def Bk.kids (w : Nat) (l : List Bk.N) (i : Nat) : List (Nat × Nat) := (List.range (w + 1)).filterMap fun e => (Bk.child l i e).map fun k => (e, k)
theorem Bk.mem_kids {w : Nat} {l : List Bk.N} {i e k : Nat} : (e, k) ∈ Bk.kids w l i ↔ e ≤ w ∧ Bk.child l i e = some k := by
  unfold Bk.kids
  rw [List.mem_filterMap]
  constructor
  · rintro ⟨e', he, h⟩
    obtain ⟨k', hk, hh⟩ := Option.map_eq_some_iff.1 h
    simp only [Prod.mk.injEq] at hh
    obtain ⟨rfl, rfl⟩ := hh
    exact ⟨by have := List.mem_range.1 he; omega, hk⟩
  · rintro ⟨he, hk⟩
    exact ⟨e, List.mem_range.2 (by omega), by rw [hk]; rfl⟩
/-- May something within b of the query stand below a child at e, if the query is at d? -/
def Bk.near (d e b : Nat) : Bool := decide (d ≤ e + b) && decide (e ≤ d + b)
/-- A node is looked at. -/
def Bk.look (l : List Bk.N) (q : List UInt8) (i : Nat) (s : List Bk.H × Nat) : List Bk.H × Nat :=
  (if Bk.liveAt l i = true then s.1 ++ [⟨Bk.far (Bk.code l i) q, Bk.code l i⟩] else s.1, s.2 + 1)
/-- A node is looked at, and then what may stand below it; r: the bound, by what was found. -/
def Bk.visit (w : Nat) (l : List Bk.N) (q : List UInt8) (r : List Bk.H → Nat) : Nat → Nat → List Bk.H × Nat → List Bk.H × Nat
  | 0, _, s => s
  | f + 1, i, s => (Bk.kids w l i).foldl (fun s ec => if Bk.near (Bk.far (Bk.code l i) q) ec.1 (r s.1) = true then Bk.visit w l q r f ec.2 s else s) (Bk.look l q i s)
theorem Bk.foldl_mem {α β : Type} {f g : α → β → α} : ∀ (l : List β) (a : α), (∀ a, ∀ x ∈ l, f a x = g a x) → l.foldl f a = l.foldl g a
  | [], _, _ => rfl
  | x :: l, a, h => by
    rw [List.foldl_cons, List.foldl_cons, h a x (List.mem_cons_self ..)]
    exact Bk.foldl_mem l _ fun a y hy => h a y (List.mem_cons_of_mem _ hy)
section
variable {w : Nat} {l : List Bk.N} (q : List UInt8) (r : List Bk.H → Nat)
theorem Bk.Good.visit_fuel (h : Bk.Good w l) : ∀ f f' i s, l.length - i < f → l.length - i < f' → Bk.visit w l q r f i s = Bk.visit w l q r f' i s
  | 0, _, _, _, hf, _ => by omega
  | _ + 1, 0, _, _, _, hf => by omega
  | f + 1, f' + 1, i, s, hf, hf' => by
    unfold Bk.visit
    refine Bk.foldl_mem _ _ fun a x hx => ?_
    obtain ⟨_, hc⟩ := Bk.mem_kids.1 (show (x.1, x.2) ∈ Bk.kids w l i from hx)
    obtain ⟨h1, h2⟩ := h.child_lt hc
    rw [Bk.Good.visit_fuel h f f' x.2 a (by omega) (by omega)]
/-- The visit, whole. -/
def Bk.V (w : Nat) (l : List Bk.N) (q : List UInt8) (r : List Bk.H → Nat) (i : Nat) (s : List Bk.H × Nat) : List Bk.H × Nat := Bk.visit w l q r (l.length + 1) i s
/-- What is still to come at a node. -/
def Bk.rest (w : Nat) (l : List Bk.N) (q : List UInt8) (r : List Bk.H → Nat) (i : Nat) (left : List (Nat × Nat)) (s : List Bk.H × Nat) : List Bk.H × Nat :=
  left.foldl (fun s ec => if Bk.near (Bk.far (Bk.code l i) q) ec.1 (r s.1) = true then Bk.V w l q r ec.2 s else s) s
theorem Bk.Good.V_eq (h : Bk.Good w l) (i : Nat) (s : List Bk.H × Nat) : Bk.V w l q r i s = Bk.rest w l q r i (Bk.kids w l i) (Bk.look l q i s) := by
  show Bk.visit w l q r (l.length + 1) i s = _
  unfold Bk.visit Bk.rest
  refine Bk.foldl_mem _ _ fun a x hx => ?_
  obtain ⟨_, hc⟩ := Bk.mem_kids.1 (show (x.1, x.2) ∈ Bk.kids w l i from hx)
  obtain ⟨h1, h2⟩ := h.child_lt hc
  show (if _ then _ else _) = if _ then Bk.visit w l q r (l.length + 1) x.2 a else _
  rw [h.visit_fuel q r l.length (l.length + 1) x.2 a (by omega) (by omega)]
/-- What a stack of such nodes comes to, the last one first. -/
def Bk.finish (w : Nat) (l : List Bk.N) (q : List UInt8) (r : List Bk.H → Nat) (st : List (Nat × List (Nat × Nat))) (s : List Bk.H × Nat) : List Bk.H × Nat :=
  st.foldr (fun fr s => Bk.rest w l q r fr.1 fr.2 s) s
theorem Bk.finish_pop (st : List (Nat × List (Nat × Nat))) (i : Nat) (s : List Bk.H × Nat) : Bk.finish w l q r (st ++ [(i, [])]) s = Bk.finish w l q r st s := by
  unfold Bk.finish; rw [List.foldr_append]; rfl
theorem Bk.finish_skip (st : List (Nat × List (Nat × Nat))) (i e k : Nat) (left : List (Nat × Nat)) (s : List Bk.H × Nat) (h : Bk.near (Bk.far (Bk.code l i) q) e (r s.1) = false) :
    Bk.finish w l q r (st ++ [(i, (e, k) :: left)]) s = Bk.finish w l q r (st ++ [(i, left)]) s := by
  unfold Bk.finish Bk.rest
  rw [List.foldr_append, List.foldr_append]
  simp only [List.foldr_cons, List.foldr_nil, List.foldl_cons, h]
  simp
theorem Bk.Good.finish_push (hG : Bk.Good w l) (st : List (Nat × List (Nat × Nat))) (i e k : Nat) (left : List (Nat × Nat)) (s : List Bk.H × Nat) (h : Bk.near (Bk.far (Bk.code l i) q) e (r s.1) = true) :
    Bk.finish w l q r (st ++ [(i, (e, k) :: left)]) s = Bk.finish w l q r ((st ++ [(i, left)]) ++ [(k, Bk.kids w l k)]) (Bk.look l q k s) := by
  unfold Bk.finish
  rw [List.foldr_append, List.foldr_append, List.foldr_append]
  simp only [List.foldr_cons, List.foldr_nil]
  rw [← hG.V_eq q r k s]
  congr 1
  unfold Bk.rest
  rw [List.foldl_cons, if_pos h]
theorem Bk.Good.finish_root (hG : Bk.Good w l) (i : Nat) (s : List Bk.H × Nat) : Bk.V w l q r i s = Bk.finish w l q r [(i, Bk.kids w l i)] (Bk.look l q i s) := hG.V_eq q r i s
end

/-- How many rounds a node may take. -/
def Bk.wt (w : Nat) (l : List Bk.N) : Nat → Nat → Nat
  | 0, _ => 0
  | f + 1, i => 1 + ((Bk.kids w l i).map fun ec => 1 + Bk.wt w l f ec.2).sum
theorem Bk.map_mem {α β : Type} {f g : α → β} {l : List α} (h : ∀ x ∈ l, f x = g x) : l.map f = l.map g := List.map_congr_left h
theorem Bk.Good.wt_fuel {w : Nat} {l : List Bk.N} (h : Bk.Good w l) : ∀ f f' i, l.length - i < f → l.length - i < f' → Bk.wt w l f i = Bk.wt w l f' i
  | 0, _, _, hf, _ => by omega
  | _ + 1, 0, _, _, hf => by omega
  | f + 1, f' + 1, i, hf, hf' => by
    unfold Bk.wt
    refine congrArg (fun z : List Nat => 1 + z.sum) (Bk.map_mem fun x hx => ?_)
    obtain ⟨_, hc⟩ := Bk.mem_kids.1 (show (x.1, x.2) ∈ Bk.kids w l i from hx)
    obtain ⟨h1, h2⟩ := h.child_lt hc
    rw [Bk.Good.wt_fuel h f f' x.2 (by omega) (by omega)]
def Bk.Wt (w : Nat) (l : List Bk.N) (i : Nat) : Nat := Bk.wt w l (l.length + 1) i
/-- .. and what is still to come at it. -/
def Bk.cost (w : Nat) (l : List Bk.N) (left : List (Nat × Nat)) : Nat := 1 + (left.map fun ec => 1 + Bk.Wt w l ec.2).sum
theorem Bk.Good.Wt_eq {w : Nat} {l : List Bk.N} (h : Bk.Good w l) (i : Nat) : Bk.Wt w l i = Bk.cost w l (Bk.kids w l i) := by
  show Bk.wt w l (l.length + 1) i = _
  unfold Bk.wt Bk.cost
  refine congrArg (fun z : List Nat => 1 + z.sum) (Bk.map_mem fun x hx => ?_)
  obtain ⟨_, hc⟩ := Bk.mem_kids.1 (show (x.1, x.2) ∈ Bk.kids w l i from hx)
  obtain ⟨h1, h2⟩ := h.child_lt hc
  show _ = 1 + Bk.wt w l (l.length + 1) x.2
  rw [h.wt_fuel l.length (l.length + 1) x.2 (by omega) (by omega)]
/-- .. and of a stack. -/
def Bk.costs (w : Nat) (l : List Bk.N) (st : List (Nat × List (Nat × Nat))) : Nat := (st.map fun fr => Bk.cost w l fr.2).sum
theorem Bk.costs_pop (w : Nat) (l : List Bk.N) (st : List (Nat × List (Nat × Nat))) (i : Nat) : Bk.costs w l (st ++ [(i, [])]) = Bk.costs w l st + 1 := by
  simp [Bk.costs, Bk.cost]
theorem Bk.costs_skip (w : Nat) (l : List Bk.N) (st : List (Nat × List (Nat × Nat))) (i e k : Nat) (left : List (Nat × Nat)) : Bk.costs w l (st ++ [(i, left)]) < Bk.costs w l (st ++ [(i, (e, k) :: left)]) := by
  simp [Bk.costs, Bk.cost]; omega
theorem Bk.Good.costs_push {w : Nat} {l : List Bk.N} (h : Bk.Good w l) (st : List (Nat × List (Nat × Nat))) (i e k : Nat) (left : List (Nat × Nat)) :
    Bk.costs w l ((st ++ [(i, left)]) ++ [(k, Bk.kids w l k)]) < Bk.costs w l (st ++ [(i, (e, k) :: left)]) := by
  have := h.Wt_eq k
  simp [Bk.costs, Bk.cost] at this ⊢; omega
end Go.Proofs.YtikhahkmebkccaaGreatDoor
