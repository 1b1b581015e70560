/- Several manifests in memory, one of them written over. Conditions: each theorem's own hypotheses. -/
import Derived.Test.YtffdplmnjlcmnaaDoorMdF
import Derived.Test.YtffdplmnjlcmnaaDoorMdG
import Derived.Test.YtffdplmnjlcmnaaDoorMfM
namespace Go.Proofs.YtffdplmnjlcmnaaDoor
open Go.RowKit Go.Maps
set_option linter.unusedVariables false

/-- A manifest in a block, its list anywhere. -/
structure It where
  b : Nat
  man : Man
  list : Option Addr
  cap : Nat
def Held (W : World) (x : It) : Prop := Blk W x.b 26 (manCells x.man x.list x.cap) ∧ Rs W W.heap.size x.list x.man.runs
/-- All of these. -/
def Sit (W : World) (l : List It) : Prop := ∀ x ∈ l, Held W x
theorem Sit.nil (W : World) : Sit W [] := fun x hx => by cases hx
theorem Held.later {W W' : World} {x : It} (h : Held W x) (hB : Below W.heap.size W W') : Held W' x := ⟨(hB.block _ h.1.lt).trans h.1, (h.2.below hB).more hB.size⟩
theorem Sit.later {W W' : World} {l : List It} (h : Sit W l) (hB : Below W.heap.size W W') : Sit W' l := fun x hx => (h x hx).later hB
theorem Sit.add {W W' : World} {l : List It} (h : Sit W l) (hB : Below W.heap.size W W') (M : Man) (A : Option Addr) (cap : Nat) (hr : Rs W' W'.heap.size A M.runs) :
    Sit (W'.alloc (.cells (manCells M A cap) 26)) (⟨W'.heap.size, M, A, cap⟩ :: l) := fun x hx => by
  rcases List.mem_cons.1 hx with rfl | hx
  · exact ⟨Blk.new _ _ _, (hr.below ((Below.refl _ _).alloc (Nat.le_refl _) _)).more (by simp)⟩
  · exact ((h x hx).later hB).later ((Below.refl _ _).alloc (Nat.le_refl _) _)
/-- Nothing of it lies in the blocks from lo to hi or from top on. -/
def Far (lo hi top : Nat) (x : It) : Prop := (x.b < lo ∨ hi ≤ x.b) ∧ x.b < top ∧ ∀ g off, x.list = some ⟨g, off, none⟩ → (g < lo ∨ hi ≤ g) ∧ g < top
/-- May the block be written? -/
def Mine (lo hi top g : Nat) : Prop := (lo ≤ g ∧ g < hi) ∨ top ≤ g
theorem Sit.keep {W W' : World} {l : List It} {lo hi top : Nat} (h : Sit W l) (hf : ∀ x ∈ l, Far lo hi top x) (hs : W.heap.size ≤ W'.heap.size) (hk : ∀ k, k < W.heap.size → ¬ Mine lo hi top k → W'.heap[k]? = W.heap[k]?) : Sit W' l := fun x hx => by
  obtain ⟨h1, h2⟩ := h x hx
  obtain ⟨f1, f2, f3⟩ := hf x hx
  refine ⟨(hk _ h1.lt (by unfold Mine; omega)).trans h1, fun h0 => ?_⟩
  obtain ⟨b, off, hA, hb, hc⟩ := h2 h0
  obtain ⟨f4, f5⟩ := f3 b off hA
  have hk2 := hk b hb (by unfold Mine; omega)
  refine ⟨b, off, hA, by omega, fun j r hj => ?_⟩
  obtain ⟨c0, c1, c2, c3⟩ := hc j r hj
  exact ⟨(World.cell?_of_block (a := ⟨b, _, none⟩) hk2).trans c0, (World.cell?_of_block (a := ⟨b, _, none⟩) hk2).trans c1, (World.cell?_of_block (a := ⟨b, _, none⟩) hk2).trans c2, (World.cell?_of_block (a := ⟨b, _, none⟩) hk2).trans c3⟩
theorem Sit.set_ {W : World} {l : List It} {lo hi top : Nat} (h : Sit W l) (hf : ∀ x ∈ l, Far lo hi top x) (p : Addr) (u : Value) (hp : Mine lo hi top p.block) : Sit (W.setCell p u) l :=
  h.keep hf (by rw [World.size_setCell]; exact Nat.le_refl _) fun k _ hk => Below.heap_setCell W p u k fun e => hk (e ▸ hp)
theorem Sit.grown {W W' : World} {l : List It} {lo hi top : Nat} {row : Option Nat} (h : Sit W l) (hf : ∀ x ∈ l, Far lo hi top x) (hg : W.grownBy W' row) (hr : ∀ g, row = some g → Mine lo hi top g) : Sit W' l :=
  h.keep hf hg.size fun k h1 hk => hg.block k h1 fun e => hk (hr k e.symm)
theorem Sit.seven {W : World} {l : List It} (h : Sit W l) {b : Nat} {M : Man} {A : Option Addr} {cap : Nat} (hx : It.mk b M A cap ∈ l) :
    W.cell? ⟨b, 0, none⟩ = some (.int .i64 M.w) ∧ W.cell? ⟨b, 1, none⟩ = some (.int .i64 M.c) ∧ W.cell? ⟨b, 2, none⟩ = some (.int .i64 M.m) ∧ W.cell? ⟨b, 3, none⟩ = some (.int .i64 M.seq) ∧ W.cell? ⟨b, 4, none⟩ = some (.int .i64 M.next) ∧ W.cell? ⟨b, 5, none⟩ = some (.int .i64 M.jr) ∧ W.cell? ⟨b, 6, none⟩ = some (.slice A M.runs.length cap) := by
  have h1 : Blk W b 26 (manCells M A cap) := (h _ hx).1
  exact ⟨h1.cell 0, h1.cell 1, h1.cell 2, h1.cell 3, h1.cell 4, h1.cell 5, h1.cell 6⟩
theorem Sit.rs {W : World} {l : List It} (h : Sit W l) {b : Nat} {M : Man} {A : Option Addr} {cap : Nat} (hx : It.mk b M A cap ∈ l) : Rs W W.heap.size A M.runs := (h _ hx).2

/-- A slice of runs of the call's own, whatever they are. -/
def Own4 (W : World) (lo hi top n : Nat) (v : Value) : Prop := (∃ xs, W.ownsRow lo 38 4 v n xs) ∧ ∀ g, v.ownBlock = some g → Mine lo hi top g
theorem Own4.keep {W W' : World} {lo hi top n : Nat} {v : Value} (h : Own4 W lo hi top n v) (hk : ∀ k, lo ≤ k → k < W.heap.size → W'.heap[k]? = W.heap[k]?) : Own4 W' lo hi top n v := by
  obtain ⟨⟨xs, h1⟩, h2⟩ := h
  exact ⟨⟨xs, own_keep h1 (Nat.le_refl _) hk⟩, h2⟩
/-- One of them: its four cells are there and may be written. -/
theorem Own4.open_ {W : World} {lo hi top n cap : Nat} {A : Option Addr} (h : Own4 W lo hi top n (.slice A n cap)) (h0 : 0 < n) : ∃ g cur, A = some ⟨g, 0, none⟩ ∧ Mine lo hi top g ∧ Blk W g 38 cur ∧ lo ≤ g ∧ n ≤ cap ∧ cap ≤ maxLen ∧ cur.size = cap * 4 := by
  obtain ⟨⟨xs, h1, h2⟩, h3⟩ := h
  rcases h2 with ⟨_, h2⟩ | ⟨g, c, cur, hv, hg, hh, hc1, hc2, hc3, _⟩
  · omega
  · injection hv with e1 _ e2
    subst e1 e2
    exact ⟨g, cur, rfl, h3 g rfl, hh, hg, hc1, hc2, hc3⟩
theorem Own4.shut {W : World} {lo hi top n cap g : Nat} {cur : Array Value} (hg : Mine lo hi top g) (hb : Blk W g 38 cur) (hl : lo ≤ g) (h1 : n ≤ cap) (h2 : cap ≤ maxLen) (h3 : cur.size = cap * 4) : Own4 W lo hi top n (.slice (some ⟨g, 0, none⟩) n cap) := by
  refine ⟨⟨cur.toList.take (n * 4), ?_, Or.inr ⟨g, cap, cur, rfl, hl, hb, h1, h2, h3, rfl⟩⟩, fun g' e => ?_⟩
  · rw [List.length_take, Array.length_toList, h3]
    omega
  · injection e with e
    exact e ▸ hg
theorem Runs.own4 {W : World} {lo cap : Nat} {A : Option Addr} {rs : List Run} (h : Runs W lo A cap rs) (top : Nat) : Own4 W lo W.heap.size top rs.length (.slice A rs.length cap) :=
  ⟨⟨_, h⟩, fun g e => Or.inl (World.ownsRow.lt h g e)⟩
theorem Runs.far {W : World} {base cap : Nat} {A : Option Addr} {rs : List Run} (h : Runs W base A cap rs) {lo hi top b : Nat} {M : Man} (h1 : hi ≤ base) (h2 : W.heap.size ≤ top) (hb : hi ≤ b) (hbt : b < top) : Far lo hi top ⟨b, M, A, cap⟩ := by
  refine ⟨Or.inr hb, hbt, fun g off e => ?_⟩
  have e' : A = some ⟨g, off, none⟩ := e
  have := World.ownsRow.lt h g (by rw [e']; rfl)
  exact ⟨Or.inr (by omega), by omega⟩
theorem Mf.decP_len (p : List UInt8) : (Mf.decP p).man.runs.length ≤ 24 := by
  by_cases h1 : (Mf.rdN p).code = 0
  rotate_left
  · rw [Mf.decP_bad1 h1]; exact Nat.zero_le _
  obtain ⟨n, hn, _⟩ := Mf.rd_facts h1
  obtain ⟨X, hX⟩ : ∃ X, Mf.take p 1152921504606846976 0 (Mf.rdN p).at_ (4 * n) = X := ⟨_, rfl⟩
  by_cases h2 : X.code = 0
  rotate_left
  · rw [Mf.decP_bad2 h1 hn (Nat.le_refl n) (by rw [hX]) h2]; exact Nat.zero_le _
  rw [Mf.decP_end h1 hn hX h2]
  obtain ⟨M, hM⟩ : ∃ M, Mf.manOf (Mf.rdH p).vals X.vals = M := ⟨_, rfl⟩
  rw [hM]
  by_cases h3 : X.at_ = p.length
  · rw [if_neg (not_not_intro h3)]
    by_cases h4 : Mf.check M = 0
    · rw [if_neg (not_not_intro h4)]; exact (Mf.good h4).len
    · rw [if_pos h4]; exact Nat.zero_le _
  · rw [if_pos h3]; exact Nat.zero_le _
theorem Mf.decode_len (l : List UInt8) : (Mf.decode l).man.runs.length ≤ 24 := by
  unfold Mf.decode
  by_cases h1 : (Sl.parse l).code = 0
  · rw [if_neg (not_not_intro h1)]
    by_cases h2 : (Sl.parse l).len = l.length
    · rw [if_neg (not_not_intro h2)]
      by_cases h3 : (Sl.parse l).kind = 3
      · rw [if_neg (not_not_intro h3)]; exact Mf.decP_len _
      · rw [if_pos h3]; exact Nat.zero_le _
    · rw [if_pos h2]; exact Nat.zero_le _
  · rw [if_pos h1]; exact Nat.zero_le _
end Go.Proofs.YtffdplmnjlcmnaaDoor
