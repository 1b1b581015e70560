/- Two disks side by side, the program's and the document's: what they share; blocks beside them. Conditions: each theorem's own hypotheses. -/
import Derived.Test.YtifkhjihgnnpfaaGreatDoorDwH
import Derived.Test.YtifkhjihgnnpfaaGreatDoorZDrN
namespace Go.Proofs.YtifkhjihgnnpfaaGreatDoor
open Go.RowKit Go.Maps Go.Sort
set_option linter.unusedVariables false

/-- Alike, but for how a write was armed where nothing is. -/
structure Dp.Like (a b : Dk.M) : Prop where
  files : a.files = b.files
  cap : a.cap = b.cap
  age : a.age = b.age
  writes : a.writes = b.writes
  off : a.off = b.off
  left : a.left = b.left
  done : a.left = 0 ∨ a.done = b.done
def Dp.Like2 (x y : Dk.M × Int) : Prop := Dp.Like x.1 y.1 ∧ x.2 = y.2
theorem Dp.Like.refl (m : Dk.M) : Dp.Like m m := ⟨rfl, rfl, rfl, rfl, rfl, rfl, .inr rfl⟩
theorem Dp.Like.image {a b : Dk.M} (h : Dp.Like a b) : Dk.image a = Dk.image b := by unfold Dk.image; rw [h.files]
theorem Dp.Like.told {a b : Dk.M} (h : Dp.Like a b) : Dk.told a = Dk.told b := by unfold Dk.told; rw [h.files, h.off]
theorem Dp.like_ite {c : Prop} [Decidable c] {x y x' y' : Dk.M × Int} (h1 : Dp.Like2 x x') (h2 : Dp.Like2 y y') : Dp.Like2 (if c then x else y) (if c then x' else y') := by
  split
  · exact h1
  · exact h2
theorem Dp.like_crash {a b : Dk.M} (h : Dp.Like a b) (l : List Dk.Cut) : Dp.Like (Dk.crash a l) (Dr.crash b l) := by
  obtain ⟨h1, h2, h3, h4, h5, h6, h7⟩ := h
  refine ⟨?_, h2, ?_, h4, rfl, rfl, .inl rfl⟩
  · show a.files.map _ = b.files.map _
    rw [h1]
  · show IntKind.i64.wrap (a.age + 1) = IntKind.i64.wrap (b.age + 1)
    rw [h3]
theorem Dp.like_acc {fs : List Dk.F} {cap : Nat} {ag wr : Int} {off : Bool} {lf : Nat} {dn dn2 : Bool} (h : lf = 0 ∨ dn = dn2) (last last2 : Bool) (hl : lf = 0 ∨ last = last2) (fl : List Dk.F) :
    Dp.Like2 (Dk.acc ⟨fs, cap, ag, wr, off, lf, dn⟩ last fl) (Dk.acc ⟨fs, cap, ag, wr, off, lf, dn2⟩ last2 fl) := by
  unfold Dk.acc
  simp only
  by_cases h0 : lf = 0
  · rw [if_pos h0, if_pos h0]
    exact ⟨⟨rfl, rfl, rfl, rfl, rfl, rfl, .inl h0⟩, rfl⟩
  · rw [if_neg h0, if_neg h0]
    obtain rfl := h.resolve_left h0
    obtain rfl := hl.resolve_left h0
    exact ⟨.refl _, rfl⟩
theorem Dp.like_ops {a b : Dk.M} (h : Dp.Like a b) :
    (∀ nm, Dp.Like2 (Dk.create a nm) (Dk.create b nm)) ∧ (∀ nm s, Dp.Like2 (Dk.append a nm s) (Dk.append b nm s)) ∧ (∀ nm, Dp.Like2 (Dk.sync a nm) (Dk.sync b nm)) ∧
    (∀ nm n, Dp.Like2 (Dk.cut a nm n) (Dk.cut b nm n)) ∧ (∀ nm tn, Dp.Like2 (Dk.rename a nm tn) (Dk.rename b nm tn)) ∧ (∀ nm, Dp.Like2 (Dk.delete a nm) (Dk.delete b nm)) ∧
    (∀ n q, Dp.Like (Dk.arm a n q) (Dk.arm b n q)) ∧ (∀ nm i n, Dk.readV a nm i n = Dk.readV b nm i n) ∧ (∀ nm, Dk.sizeV a nm = Dk.sizeV b nm) := by
  obtain ⟨fs, cap, ag, wr, off, lf, dn⟩ := a
  obtain ⟨fs2, cap2, ag2, wr2, off2, lf2, dn2⟩ := b
  obtain ⟨h1, h2, h3, h4, h5, h6, h7⟩ := h
  simp only at h1 h2 h3 h4 h5 h6 h7
  subst h1 h2 h3 h4 h5 h6
  have S0 : Dp.Like ⟨fs, cap, ag, wr, off, lf, dn⟩ ⟨fs, cap, ag, wr, off, lf, dn2⟩ := ⟨rfl, rfl, rfl, rfl, rfl, rfl, h7⟩
  have SS : ∀ e, Dp.Like2 (⟨fs, cap, ag, wr, off, lf, dn⟩, e) (⟨fs, cap, ag, wr, off, lf, dn2⟩, e) := fun e => ⟨S0, rfl⟩
  have SA := fun last last2 hl fl => Dp.like_acc (fs := fs) (cap := cap) (ag := ag) (wr := wr) (off := off) h7 last last2 hl fl
  refine ⟨fun nm => Dp.like_ite (SS _) (Dp.like_ite (SS _) (Dp.like_ite (SS _) (SA _ _ h7 _))), fun nm s => Dp.like_ite (SS _) (Dp.like_ite (SS _) (Dp.like_ite (SS _) (SA _ _ (.inr rfl) _))),
    fun nm => Dp.like_ite (SS _) (SA _ _ (.inr rfl) _), fun nm n => Dp.like_ite (SS _) (Dp.like_ite (SS _) (SA _ _ h7 _)), fun nm tn => Dp.like_ite (SS _) (Dp.like_ite (SS _) (Dp.like_ite (SS _) (SA _ _ h7 _))),
    fun nm => Dp.like_ite (SS _) (SA _ _ h7 _), fun n q => ?_, fun _ _ _ => rfl, fun _ => rfl⟩
  unfold Dk.arm
  simp only
  split
  · exact S0
  · exact ⟨rfl, rfl, rfl, rfl, rfl, rfl, .inr rfl⟩
theorem Dr.crash_good {m : Dk.M} (hG : Dk.Good m) (l : List Dk.Cut) : Dk.Good (Dr.crash m l) := by
  obtain ⟨h1, h2, h3, h4, h5, h6⟩ := Dk.crash_good hG l
  exact ⟨h1, h2, h3, h4, h5, h6⟩

/-- Two disks that were made since, apart, and blocks beside them. -/
def Dp.Duo (B : Nat) (W0 w : World) (d : Nat) (m : Dk.M) (r : Nat) (m' : Dk.M) (K : List (Nat × Obj)) : Prop :=
  ∃ F G, Dk.At w d m F ∧ Dr.At w r m' G ∧ (∀ k, F k → B ≤ k ∧ ¬ G k) ∧ (∀ k, G k → B ≤ k) ∧ (∀ p ∈ K, B ≤ p.1 ∧ w.heap[p.1]? = some p.2 ∧ ¬ F p.1 ∧ ¬ G p.1) ∧ Dk.Good m ∧ Dk.Good m' ∧ Below B W0 w
section
variable {B d r : Nat} {W0 w w' : World} {m m' m2 : Dk.M} {K K' : List (Nat × Obj)}
theorem Dp.Duo.good1 (h : Dp.Duo B W0 w d m r m' K) : Dk.Good m := by obtain ⟨F, G, h1, h2, h3, h4, h5, h6, h7, h8⟩ := h; exact h6
theorem Dp.Duo.good2 (h : Dp.Duo B W0 w d m r m' K) : Dk.Good m' := by obtain ⟨F, G, h1, h2, h3, h4, h5, h6, h7, h8⟩ := h; exact h7
theorem Dp.Duo.below (h : Dp.Duo B W0 w d m r m' K) : Below B W0 w := by obtain ⟨F, G, h1, h2, h3, h4, h5, h6, h7, h8⟩ := h; exact h8
theorem Dp.Duo.size (h : Dp.Duo B W0 w d m r m' K) : B ≤ w.heap.size := by
  obtain ⟨F, G, h1, h2, h3, h4, h5, h6, h7, h8⟩ := h
  exact Nat.le_of_lt (Nat.lt_of_le_of_lt (h3 d h1.self).1 (h1.lt h1.self))
theorem Dp.lt_of {p : Nat} {o : Obj} (h : w.heap[p]? = some o) : p < w.heap.size := by
  by_cases e : p < w.heap.size
  · exact e
  · rw [Array.getElem?_eq_none (by omega)] at h; cases h
theorem Dp.Duo.blk (h : Dp.Duo B W0 w d m r m' K) {p : Nat} {o : Obj} (hp : (p, o) ∈ K) : w.heap[p]? = some o := by
  obtain ⟨F, G, h1, h2, h3, h4, h5, h6, h7, h8⟩ := h
  exact (h5 _ hp).2.1
theorem Dp.Duo.sub (h : Dp.Duo B W0 w d m r m' K) (hs : ∀ p ∈ K', p ∈ K) : Dp.Duo B W0 w d m r m' K' := by
  obtain ⟨F, G, h1, h2, h3, h4, h5, h6, h7, h8⟩ := h
  exact ⟨F, G, h1, h2, h3, h4, fun p hp => h5 p (hs p hp), h6, h7, h8⟩
theorem Dp.Duo.later (h : Dp.Duo B W0 w d m r m' K) (hB : Below w.heap.size w w') : Dp.Duo B W0 w' d m r m' K := by
  have hz := h.size
  obtain ⟨F, G, h1, h2, h3, h4, h5, h6, h7, h8⟩ := h
  exact ⟨F, G, h1.later hB (Nat.le_refl _), h2.later hB (Nat.le_refl _), h3, h4, fun p hp => by
    obtain ⟨a, b, c⟩ := h5 p hp
    exact ⟨a, (hB.block _ (Dp.lt_of b)).trans b, c⟩, h6, h7, h8.trans (hB.mono hz)⟩
theorem Dp.Duo.push (h : Dp.Duo B W0 w d m r m' K) (o : Obj) : Dp.Duo B W0 (w.alloc o) d m r m' (K ++ [(w.heap.size, o)]) := by
  have hz := h.size
  have hB : Below w.heap.size w (w.alloc o) := (Below.refl _ _).alloc (Nat.le_refl _) o
  obtain ⟨F, G, h1, h2, h3, h4, h5, h6, h7, h8⟩ := h
  refine ⟨F, G, h1.later hB (Nat.le_refl _), h2.later hB (Nat.le_refl _), h3, h4, fun p hp => ?_, h6, h7, h8.trans (hB.mono hz)⟩
  rcases List.mem_append.1 hp with hp | hp
  · obtain ⟨a, b, c⟩ := h5 p hp
    exact ⟨a, (hB.block _ (Dp.lt_of b)).trans b, c⟩
  · obtain rfl := List.mem_singleton.1 hp
    exact ⟨hz, heap_alloc_new w o, fun hf => by have := h1.lt hf; simp at this, fun hf => by have := h2.lt hf; simp at this⟩
theorem Dp.Duo.call1 (h : Dp.Duo B W0 w d m r m' K) {g : FuncId} {args : Array Value} {e : Ending} (hG : Dk.Good m2)
    (f : ∀ F, Dk.At w d m F → Dk.Good m → Calls Tryz.prog g args w fun x W' => x = e ∧ Dk.Moved w W' d F m2) : Calls Tryz.prog g args w fun x W' => x = e ∧ Dp.Duo B W0 W' d m2 r m' K := by
  have hz := h.size
  obtain ⟨F, G, h1, h2, h3, h4, h5, h6, h7, h8⟩ := h
  refine (f F h1 h6).mono fun x W' ⟨he, hm⟩ => ⟨he, ?_⟩
  obtain ⟨F', q1, q2, q3⟩ := hm
  refine ⟨F', G, q1, h2.apart q2 fun k a b => (h3 k b).2 a, fun k hk => ?_, h4, fun p hp => ?_, hG, h7, h8.trans (q2.below hz fun k hk => (h3 k hk).1)⟩
  · rcases q3 k hk with a | a
    · exact h3 k a
    · exact ⟨by omega, fun b => by have := h2.lt b; omega⟩
  · obtain ⟨a, b, c, e⟩ := h5 p hp
    have hlt := Dp.lt_of b
    refine ⟨a, (q2.block _ hlt c).trans b, fun hk => ?_, e⟩
    rcases q3 _ hk with x | x
    · exact c x
    · omega
theorem Dp.Duo.call2 (h : Dp.Duo B W0 w d m r m' K) {g : FuncId} {args : Array Value} {e : Ending} (hG : Dk.Good m2)
    (f : ∀ G, Dr.At w r m' G → Dk.Good m' → Calls Tryz.prog g args w fun x W' => x = e ∧ Dr.Moved w W' r G m2) : Calls Tryz.prog g args w fun x W' => x = e ∧ Dp.Duo B W0 W' d m r m2 K := by
  have hz := h.size
  obtain ⟨F, G, h1, h2, h3, h4, h5, h6, h7, h8⟩ := h
  refine (f G h2 h7).mono fun x W' ⟨he, hm⟩ => ⟨he, ?_⟩
  obtain ⟨G', q1, q2, q3⟩ := hm
  refine ⟨F, G', h1.apart q2 fun k a => (h3 k a).2, q1, fun k hk => ⟨(h3 k hk).1, fun b => ?_⟩, fun k hk => ?_, fun p hp => ?_, h6, hG, h8.trans (q2.below hz h4)⟩
  · rcases q3 k b with a | a
    · exact (h3 k hk).2 a
    · have := h1.lt hk; omega
  · rcases q3 k hk with a | a
    · exact h4 k a
    · omega
  · obtain ⟨a, b, c, e⟩ := h5 p hp
    have hlt := Dp.lt_of b
    refine ⟨a, (q2.block _ hlt e).trans b, c, fun hk => ?_⟩
    rcases q3 _ hk with x | x
    · exact e x
    · omega
theorem Dp.Duo.ask1 (h : Dp.Duo B W0 w d m r m' K) {g : FuncId} {args : Array Value} {e : Ending} (f : ∀ F, Dk.At w d m F → Dk.Good m → Calls Tryz.prog g args w fun x W' => x = e ∧ w = W') : Calls Tryz.prog g args w fun x W' => x = e ∧ w = W' := by
  obtain ⟨F, G, h1, h2, h3, h4, h5, h6, h7, h8⟩ := h
  exact f F h1 h6
theorem Dp.Duo.ask2 (h : Dp.Duo B W0 w d m r m' K) {g : FuncId} {args : Array Value} {e : Ending} (f : ∀ G, Dr.At w r m' G → Dk.Good m' → Calls Tryz.prog g args w fun x W' => x = e ∧ w = W') : Calls Tryz.prog g args w fun x W' => x = e ∧ w = W' := by
  obtain ⟨F, G, h1, h2, h3, h4, h5, h6, h7, h8⟩ := h
  exact f G h2 h7
/-- One of the blocks beside them is written over. -/
theorem Dp.Duo.turn (h : Dp.Duo B W0 w d m r m' K) {p : Nat} {o o' : Obj} (hp : (p, o) ∈ K) (ho : Dk.Only (fun k => k = p) w w') (hn : w'.heap[p]? = some o') (hK : ∀ q ∈ K', q = (p, o') ∨ (q ∈ K ∧ q.1 ≠ p)) : Dp.Duo B W0 w' d m r m' K' := by
  have hz := h.size
  obtain ⟨F, G, h1, h2, h3, h4, h5, h6, h7, h8⟩ := h
  obtain ⟨a, b, c, e⟩ := h5 _ hp
  refine ⟨F, G, h1.apart ho fun k hk e => c (e ▸ hk), h2.apart ho fun k hk x => e (x ▸ hk), h3, h4, fun q hq => ?_, h6, h7, h8.trans (ho.below hz fun k e => by rw [e]; exact a)⟩
  rcases hK q hq with rfl | ⟨hq, hne⟩
  · exact ⟨a, hn, c, e⟩
  · obtain ⟨a2, b2, c2⟩ := h5 q hq
    exact ⟨a2, (ho.block _ (Dp.lt_of b2) hne).trans b2, c2⟩
end
end Go.Proofs.YtifkhjihgnnpfaaGreatDoor
/- Two disks side by side: a step that writes. Conditions: each theorem's own hypotheses. -/
namespace Go.Proofs.YtifkhjihgnnpfaaGreatDoor
open Go.RowKit Go.Maps Go.Sort
set_option linter.unusedVariables false

/-- What a step that writes does. -/
def Dp.wr (m : Dk.M) (s : Dw.S) : Dk.M := if 1 ≤ s.what ∧ s.what ≤ 6 then (Dw.done m s).1 else m
theorem Dp.like_done {a b : Dk.M} (h : Dp.Like a b) (s : Dw.S) : Dp.Like2 (Dw.done a s) (Dw.done b s) := by
  obtain ⟨D1, D2, D3, D4, D5, D6, _⟩ := Dp.like_ops h
  exact Dp.like_ite (D1 _) (Dp.like_ite (D2 _ _) (Dp.like_ite (D3 _) (Dp.like_ite (D4 _ _) (Dp.like_ite (D5 _ _) (D6 _)))))
theorem Dp.like_wr {a b : Dk.M} (h : Dp.Like a b) (s : Dw.S) : Dp.Like (Dp.wr a s) (Dp.wr b s) := by
  unfold Dp.wr
  split
  · exact (Dp.like_done h s).1
  · exact h
theorem Dp.wr_good {m : Dk.M} (h : Dk.Good m) (s : Dw.S) : Dk.Good (Dp.wr m s) := by
  unfold Dp.wr
  split
  · exact Dw.done_good h s
  · exact h
end Go.Proofs.YtifkhjihgnnpfaaGreatDoor
