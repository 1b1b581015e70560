/- Two disks side by side, the program's and the document's: what they share; blocks beside them. Conditions: each theorem's own hypotheses. -/
import Derived.Test.YtgbeeghdoilmkaaDwH
import Derived.Test.YtgbeeghdoilmkaaDrN
namespace Go.Proofs.Ytgbeeghdoilmkaa
open Go.RowKit Go.Maps Go.Sort
set_option linter.unusedVariables false

/-- Alike, but for how a write was armed where nothing is. -/
structure Dp.Like (a b : Dk.M) : Prop where
  files : a.files = b.files
  cap : a.cap = b.cap
  age : a.age = b.age
  writes : a.writes = b.writes
  off : a.off = b.off
  left : a.left = b.left
  done : a.left = 0 ∨ a.done = b.done
def Dp.Like2 (x y : Dk.M × Int) : Prop := Dp.Like x.1 y.1 ∧ x.2 = y.2
theorem Dp.Like.refl (m : Dk.M) : Dp.Like m m := ⟨rfl, rfl, rfl, rfl, rfl, rfl, .inr rfl⟩
theorem Dp.Like.image {a b : Dk.M} (h : Dp.Like a b) : Dk.image a = Dk.image b := by unfold Dk.image; rw [h.files]
theorem Dp.Like.told {a b : Dk.M} (h : Dp.Like a b) : Dk.told a = Dk.told b := by unfold Dk.told; rw [h.files, h.off]
theorem Dp.like_ite {c : Prop} [Decidable c] {x y x' y' : Dk.M × Int} (h1 : Dp.Like2 x x') (h2 : Dp.Like2 y y') : Dp.Like2 (if c then x else y) (if c then x' else y') := by
  split
  · exact h1
  · exact h2
theorem Dp.like_crash {a b : Dk.M} (h : Dp.Like a b) (l : List Dk.Cut) : Dp.Like (Dk.crash a l) (Dr.crash b l) := by
  obtain ⟨h1, h2, h3, h4, h5, h6, h7⟩ := h
  refine ⟨?_, h2, ?_, h4, rfl, rfl, .inl rfl⟩
  · show a.files.map _ = b.files.map _
    rw [h1]
  · show IntKind.i64.wrap (a.age + 1) = IntKind.i64.wrap (b.age + 1)
    rw [h3]
theorem Dp.like_acc {fs : List Dk.F} {cap : Nat} {ag wr : Int} {off : Bool} {lf : Nat} {dn dn2 : Bool} (h : lf = 0 ∨ dn = dn2) (last last2 : Bool) (hl : lf = 0 ∨ last = last2) (fl : List Dk.F) :
    Dp.Like2 (Dk.acc ⟨fs, cap, ag, wr, off, lf, dn⟩ last fl) (Dk.acc ⟨fs, cap, ag, wr, off, lf, dn2⟩ last2 fl) := by
  unfold Dk.acc
  simp only
  by_cases h0 : lf = 0
  · rw [if_pos h0, if_pos h0]
    exact ⟨⟨rfl, rfl, rfl, rfl, rfl, rfl, .inl h0⟩, rfl⟩
  · rw [if_neg h0, if_neg h0]
    obtain rfl := h.resolve_left h0
    obtain rfl := hl.resolve_left h0
    exact ⟨.refl _, rfl⟩
theorem Dp.like_ops {a b : Dk.M} (h : Dp.Like a b) :
    (∀ nm, Dp.Like2 (Dk.create a nm) (Dk.create b nm)) ∧ (∀ nm s, Dp.Like2 (Dk.append a nm s) (Dk.append b nm s)) ∧ (∀ nm, Dp.Like2 (Dk.sync a nm) (Dk.sync b nm)) ∧
    (∀ nm n, Dp.Like2 (Dk.cut a nm n) (Dk.cut b nm n)) ∧ (∀ nm tn, Dp.Like2 (Dk.rename a nm tn) (Dk.rename b nm tn)) ∧ (∀ nm, Dp.Like2 (Dk.delete a nm) (Dk.delete b nm)) ∧
    (∀ n q, Dp.Like (Dk.arm a n q) (Dk.arm b n q)) ∧ (∀ nm i n, Dk.readV a nm i n = Dk.readV b nm i n) ∧ (∀ nm, Dk.sizeV a nm = Dk.sizeV b nm) := by
  obtain ⟨fs, cap, ag, wr, off, lf, dn⟩ := a
  obtain ⟨fs2, cap2, ag2, wr2, off2, lf2, dn2⟩ := b
  obtain ⟨h1, h2, h3, h4, h5, h6, h7⟩ := h
  simp only at h1 h2 h3 h4 h5 h6 h7
  subst h1 h2 h3 h4 h5 h6
  have S0 : Dp.Like ⟨fs, cap, ag, wr, off, lf, dn⟩ ⟨fs, cap, ag, wr, off, lf, dn2⟩ := ⟨rfl, rfl, rfl, rfl, rfl, rfl, h7⟩
  have SS : ∀ e, Dp.Like2 (⟨fs, cap, ag, wr, off, lf, dn⟩, e) (⟨fs, cap, ag, wr, off, lf, dn2⟩, e) := fun e => ⟨S0, rfl⟩
  have SA := fun last last2 hl fl => Dp.like_acc (fs := fs) (cap := cap) (ag := ag) (wr := wr) (off := off) h7 last last2 hl fl
  refine ⟨fun nm => Dp.like_ite (SS _) (Dp.like_ite (SS _) (Dp.like_ite (SS _) (SA _ _ h7 _))), fun nm s => Dp.like_ite (SS _) (Dp.like_ite (SS _) (Dp.like_ite (SS _) (SA _ _ (.inr rfl) _))),
    fun nm => Dp.like_ite (SS _) (SA _ _ (.inr rfl) _), fun nm n => Dp.like_ite (SS _) (Dp.like_ite (SS _) (SA _ _ h7 _)), fun nm tn => Dp.like_ite (SS _) (Dp.like_ite (SS _) (Dp.like_ite (SS _) (SA _ _ h7 _))),
    fun nm => Dp.like_ite (SS _) (SA _ _ h7 _), fun n q => ?_, fun _ _ _ => rfl, fun _ => rfl⟩
  unfold Dk.arm
  simp only
  split
  · exact S0
  · exact ⟨rfl, rfl, rfl, rfl, rfl, rfl, .inr rfl⟩
set_option maxRecDepth 100000 in
set_option maxHeartbeats 4000000 in
theorem Dw.alike_any2 {W : World} {d r : Nat} {m m' : Dk.M} {F G : Nat → Prop} (hd : Dk.At W d m F) (hr : Dr.At W r m' G) (hG : Dk.Good m) (hl : Dp.Like m m') :
    Calls Try.prog 13 #[.pointer (some ⟨d, 0, none⟩), .pointer (some ⟨r, 0, none⟩)] W fun e W' => e = .returned (.bool true) ∧ Below W.heap.size W W' := by
  have hu : Dk.used m.files ≤ 1099511627776 := by have := hG.used; have := hG.cap; omega
  have hmany := hG.many
  have htl : (Dk.told m).length ≤ 4096 := by unfold Dk.told; split; exact Nat.zero_le _; rw [List.length_map]; exact hmany
  have hG2 : Dk.Good m' := ⟨by rw [← hl.files]; exact hG.up, by rw [← hl.files]; exact hG.file, by rw [← hl.files]; exact hG.many, by rw [← hl.cap]; exact hG.cap, by rw [← hl.files, ← hl.cap]; exact hG.used, by rw [← hl.left]; exact hG.left⟩
  have k1 := Dk.Names_any hd hG
  have k2 : ∀ w2, Below W.heap.size W w2 → _ := fun w2 h => Dr.names_any (hr.later h (Nat.le_refl _)) (by rw [← hl.files]; exact hmany)
  have k3 : ∀ w2, Below W.heap.size W w2 → _ := fun w2 h => Dk.down_any (hd.later h (Nat.le_refl _))
  have k4 : ∀ w2, Below W.heap.size W w2 → _ := fun w2 h => Dr.down_any (hr.later h (Nat.le_refl _))
  have k5 : ∀ w2, Below W.heap.size W w2 → _ := fun w2 h => Dk.age_any (hd.later h (Nat.le_refl _))
  have k6 : ∀ w2, Below W.heap.size W w2 → _ := fun w2 h => Dr.age_any (hr.later h (Nat.le_refl _))
  have k7 : ∀ w2, Below W.heap.size W w2 → _ := fun w2 h => Dk.writes_any (hd.later h (Nat.le_refl _))
  have k8 : ∀ w2, Below W.heap.size W w2 → _ := fun w2 h => Dr.writes_any (hr.later h (Nat.le_refl _))
  have k9 : ∀ w2, Below W.heap.size W w2 → _ := fun w2 h => Dk.used_any (hd.later h (Nat.le_refl _))
  have k10 : ∀ w2, Below W.heap.size W w2 → _ := fun w2 h => Dr.used_any (hr.later h (Nat.le_refl _)) (by rw [← hl.files]; exact hu) (by rw [← hl.files]; exact hmany)
  have k11 : ∀ w2, Below W.heap.size W w2 → _ := fun w2 h => Dk.room_any (hd.later h (Nat.le_refl _))
  have k12 : ∀ w2, Below W.heap.size W w2 → _ := fun w2 h => Dr.room_any (hr.later h (Nat.le_refl _))
  have k13 : ∀ w2, Below W.heap.size W w2 → _ := fun w2 h => Dk.image_any (hd.later h (Nat.le_refl _)) hG
  have k14 : ∀ w2, Below W.heap.size W w2 → _ := fun w2 h => Dr.image_any (hr.later h (Nat.le_refl _)) hG2
  have ht := hl.told
  have hi := hl.image
  obtain ⟨e1, e2, e3, e4, e5, e6, e7⟩ := hl
  simp only [← ht] at k2
  simp only [← e5] at k4
  simp only [← e3] at k6
  simp only [← e4] at k8
  simp only [← e1] at k10
  simp only [← e2] at k12
  simp only [← hi] at k14
  clear e1 e2 e3 e4 e5 e6 e7 ht hi
  obtain ⟨ib, hib, _⟩ := Tx.of (Dk.image m)
  simp only [Tx.v_eq hib] at k13 k14
  clear hib hd hr hG hu hmany hG2
  go_enter Try.func13, Try.ntmps13
  go_wp2_with (first
    | (go_at_call 31; refine k1.mono ?_; rintro e w1 ⟨v1, rfl, r1, b1⟩)
    | (go_at_call 36; refine (k2 w1 b1).mono ?_; rintro e w2 ⟨v2, rfl, r2, b2⟩; have b3 := b1.trans (b2.mono b1.size); have r3 := Dw.Txs.below r1 b2
       have k0 := Dw.same_any r3 r2 (by omega)
       rw [decide_eq_true (rfl : Dk.told m = Dk.told m)] at k0)
    | (go_at_call 30; refine k0.mono ?_; rintro e w3 ⟨rfl, n, rfl⟩; have b4 := below_dn b3 n)
    | (go_at_call 17; refine (k3 _ b4).mono ?_; rintro e w ⟨rfl, rfl⟩)
    | (go_at_call 41; refine (k4 _ b4).mono ?_; rintro e w ⟨rfl, rfl⟩)
    | (go_at_call 29; refine (k5 _ b4).mono ?_; rintro e w ⟨rfl, rfl⟩)
    | (go_at_call 42; refine (k6 _ b4).mono ?_; rintro e w ⟨rfl, rfl⟩)
    | (go_at_call 27; refine (k7 _ b4).mono ?_; rintro e w ⟨rfl, rfl⟩)
    | (go_at_call 43; refine (k8 _ b4).mono ?_; rintro e w ⟨rfl, rfl⟩)
    | (go_at_call 26; refine (k9 _ b4).mono ?_; rintro e w ⟨rfl, rfl⟩)
    | (go_at_call 40; refine (k10 _ b4).mono ?_; rintro e w ⟨rfl, rfl⟩)
    | (go_at_call 44; refine (k11 _ b4).mono ?_; rintro e w ⟨rfl, rfl⟩)
    | (go_at_call 45; refine (k12 _ b4).mono ?_; rintro e w ⟨rfl, rfl⟩)
    | (go_at_call 25; refine (k13 _ b4).mono ?_; rintro e w5 ⟨rfl, b5⟩; have b6 := b4.trans (b5.mono b4.size))
    | (go_at_call 46; refine (k14 _ b6).mono ?_; rintro e w6 ⟨rfl, b7⟩; have b8 := b6.trans (b7.mono b6.size)))
  go_ret
  exact ⟨rfl, b8⟩
theorem Dr.crash_good {m : Dk.M} (hG : Dk.Good m) (l : List Dk.Cut) : Dk.Good (Dr.crash m l) := by
  obtain ⟨h1, h2, h3, h4, h5, h6⟩ := Dk.crash_good hG l
  exact ⟨h1, h2, h3, h4, h5, h6⟩

/-- Two disks that were made since, apart, and blocks beside them. -/
def Dp.Duo (B : Nat) (W0 w : World) (d : Nat) (m : Dk.M) (r : Nat) (m' : Dk.M) (K : List (Nat × Obj)) : Prop :=
  ∃ F G, Dk.At w d m F ∧ Dr.At w r m' G ∧ (∀ k, F k → B ≤ k ∧ ¬ G k) ∧ (∀ k, G k → B ≤ k) ∧ (∀ p ∈ K, B ≤ p.1 ∧ w.heap[p.1]? = some p.2 ∧ ¬ F p.1 ∧ ¬ G p.1) ∧ Dk.Good m ∧ Dk.Good m' ∧ Below B W0 w
section
variable {B d r : Nat} {W0 w w' : World} {m m' m2 : Dk.M} {K K' : List (Nat × Obj)}
theorem Dp.Duo.good1 (h : Dp.Duo B W0 w d m r m' K) : Dk.Good m := by obtain ⟨F, G, h1, h2, h3, h4, h5, h6, h7, h8⟩ := h; exact h6
theorem Dp.Duo.good2 (h : Dp.Duo B W0 w d m r m' K) : Dk.Good m' := by obtain ⟨F, G, h1, h2, h3, h4, h5, h6, h7, h8⟩ := h; exact h7
theorem Dp.Duo.below (h : Dp.Duo B W0 w d m r m' K) : Below B W0 w := by obtain ⟨F, G, h1, h2, h3, h4, h5, h6, h7, h8⟩ := h; exact h8
theorem Dp.Duo.size (h : Dp.Duo B W0 w d m r m' K) : B ≤ w.heap.size := by
  obtain ⟨F, G, h1, h2, h3, h4, h5, h6, h7, h8⟩ := h
  exact Nat.le_of_lt (Nat.lt_of_le_of_lt (h3 d h1.self).1 (h1.lt h1.self))
theorem Dp.lt_of {p : Nat} {o : Obj} (h : w.heap[p]? = some o) : p < w.heap.size := by
  by_cases e : p < w.heap.size
  · exact e
  · rw [Array.getElem?_eq_none (by omega)] at h; cases h
theorem Dp.Duo.blk (h : Dp.Duo B W0 w d m r m' K) {p : Nat} {o : Obj} (hp : (p, o) ∈ K) : w.heap[p]? = some o := by
  obtain ⟨F, G, h1, h2, h3, h4, h5, h6, h7, h8⟩ := h
  exact (h5 _ hp).2.1
theorem Dp.Duo.sub (h : Dp.Duo B W0 w d m r m' K) (hs : ∀ p ∈ K', p ∈ K) : Dp.Duo B W0 w d m r m' K' := by
  obtain ⟨F, G, h1, h2, h3, h4, h5, h6, h7, h8⟩ := h
  exact ⟨F, G, h1, h2, h3, h4, fun p hp => h5 p (hs p hp), h6, h7, h8⟩
theorem Dp.Duo.later (h : Dp.Duo B W0 w d m r m' K) (hB : Below w.heap.size w w') : Dp.Duo B W0 w' d m r m' K := by
  have hz := h.size
  obtain ⟨F, G, h1, h2, h3, h4, h5, h6, h7, h8⟩ := h
  exact ⟨F, G, h1.later hB (Nat.le_refl _), h2.later hB (Nat.le_refl _), h3, h4, fun p hp => by
    obtain ⟨a, b, c⟩ := h5 p hp
    exact ⟨a, (hB.block _ (Dp.lt_of b)).trans b, c⟩, h6, h7, h8.trans (hB.mono hz)⟩
theorem Dp.Duo.push (h : Dp.Duo B W0 w d m r m' K) (o : Obj) : Dp.Duo B W0 (w.alloc o) d m r m' (K ++ [(w.heap.size, o)]) := by
  have hz := h.size
  have hB : Below w.heap.size w (w.alloc o) := (Below.refl _ _).alloc (Nat.le_refl _) o
  obtain ⟨F, G, h1, h2, h3, h4, h5, h6, h7, h8⟩ := h
  refine ⟨F, G, h1.later hB (Nat.le_refl _), h2.later hB (Nat.le_refl _), h3, h4, fun p hp => ?_, h6, h7, h8.trans (hB.mono hz)⟩
  rcases List.mem_append.1 hp with hp | hp
  · obtain ⟨a, b, c⟩ := h5 p hp
    exact ⟨a, (hB.block _ (Dp.lt_of b)).trans b, c⟩
  · obtain rfl := List.mem_singleton.1 hp
    exact ⟨hz, heap_alloc_new w o, fun hf => by have := h1.lt hf; simp at this, fun hf => by have := h2.lt hf; simp at this⟩
theorem Dp.Duo.call1 (h : Dp.Duo B W0 w d m r m' K) {g : FuncId} {args : Array Value} {e : Ending} (hG : Dk.Good m2)
    (f : ∀ F, Dk.At w d m F → Dk.Good m → Calls Try.prog g args w fun x W' => x = e ∧ Dk.Moved w W' d F m2) : Calls Try.prog g args w fun x W' => x = e ∧ Dp.Duo B W0 W' d m2 r m' K := by
  have hz := h.size
  obtain ⟨F, G, h1, h2, h3, h4, h5, h6, h7, h8⟩ := h
  refine (f F h1 h6).mono fun x W' ⟨he, hm⟩ => ⟨he, ?_⟩
  obtain ⟨F', q1, q2, q3⟩ := hm
  refine ⟨F', G, q1, h2.apart q2 fun k a b => (h3 k b).2 a, fun k hk => ?_, h4, fun p hp => ?_, hG, h7, h8.trans (q2.below hz fun k hk => (h3 k hk).1)⟩
  · rcases q3 k hk with a | a
    · exact h3 k a
    · exact ⟨by omega, fun b => by have := h2.lt b; omega⟩
  · obtain ⟨a, b, c, e⟩ := h5 p hp
    have hlt := Dp.lt_of b
    refine ⟨a, (q2.block _ hlt c).trans b, fun hk => ?_, e⟩
    rcases q3 _ hk with x | x
    · exact c x
    · omega
theorem Dp.Duo.call2 (h : Dp.Duo B W0 w d m r m' K) {g : FuncId} {args : Array Value} {e : Ending} (hG : Dk.Good m2)
    (f : ∀ G, Dr.At w r m' G → Dk.Good m' → Calls Try.prog g args w fun x W' => x = e ∧ Dr.Moved w W' r G m2) : Calls Try.prog g args w fun x W' => x = e ∧ Dp.Duo B W0 W' d m r m2 K := by
  have hz := h.size
  obtain ⟨F, G, h1, h2, h3, h4, h5, h6, h7, h8⟩ := h
  refine (f G h2 h7).mono fun x W' ⟨he, hm⟩ => ⟨he, ?_⟩
  obtain ⟨G', q1, q2, q3⟩ := hm
  refine ⟨F, G', h1.apart q2 fun k a => (h3 k a).2, q1, fun k hk => ⟨(h3 k hk).1, fun b => ?_⟩, fun k hk => ?_, fun p hp => ?_, h6, hG, h8.trans (q2.below hz h4)⟩
  · rcases q3 k b with a | a
    · exact (h3 k hk).2 a
    · have := h1.lt hk; omega
  · rcases q3 k hk with a | a
    · exact h4 k a
    · omega
  · obtain ⟨a, b, c, e⟩ := h5 p hp
    have hlt := Dp.lt_of b
    refine ⟨a, (q2.block _ hlt e).trans b, c, fun hk => ?_⟩
    rcases q3 _ hk with x | x
    · exact e x
    · omega
theorem Dp.Duo.ask1 (h : Dp.Duo B W0 w d m r m' K) {g : FuncId} {args : Array Value} {e : Ending} (f : ∀ F, Dk.At w d m F → Dk.Good m → Calls Try.prog g args w fun x W' => x = e ∧ w = W') : Calls Try.prog g args w fun x W' => x = e ∧ w = W' := by
  obtain ⟨F, G, h1, h2, h3, h4, h5, h6, h7, h8⟩ := h
  exact f F h1 h6
theorem Dp.Duo.ask2 (h : Dp.Duo B W0 w d m r m' K) {g : FuncId} {args : Array Value} {e : Ending} (f : ∀ G, Dr.At w r m' G → Dk.Good m' → Calls Try.prog g args w fun x W' => x = e ∧ w = W') : Calls Try.prog g args w fun x W' => x = e ∧ w = W' := by
  obtain ⟨F, G, h1, h2, h3, h4, h5, h6, h7, h8⟩ := h
  exact f G h2 h7
/-- One of the blocks beside them is written over. -/
theorem Dp.Duo.turn (h : Dp.Duo B W0 w d m r m' K) {p : Nat} {o o' : Obj} (hp : (p, o) ∈ K) (ho : Dk.Only (fun k => k = p) w w') (hn : w'.heap[p]? = some o') (hK : ∀ q ∈ K', q = (p, o') ∨ (q ∈ K ∧ q.1 ≠ p)) : Dp.Duo B W0 w' d m r m' K' := by
  have hz := h.size
  obtain ⟨F, G, h1, h2, h3, h4, h5, h6, h7, h8⟩ := h
  obtain ⟨a, b, c, e⟩ := h5 _ hp
  refine ⟨F, G, h1.apart ho fun k hk e => c (e ▸ hk), h2.apart ho fun k hk x => e (x ▸ hk), h3, h4, fun q hq => ?_, h6, h7, h8.trans (ho.below hz fun k e => by rw [e]; exact a)⟩
  rcases hK q hq with rfl | ⟨hq, hne⟩
  · exact ⟨a, hn, c, e⟩
  · obtain ⟨a2, b2, c2⟩ := h5 q hq
    exact ⟨a2, (ho.block _ (Dp.lt_of b2) hne).trans b2, c2⟩
theorem Dp.Duo.alike (h : Dp.Duo B W0 w d m r m' K) (hl : Dp.Like m m') : Calls Try.prog 13 #[.pointer (some ⟨d, 0, none⟩), .pointer (some ⟨r, 0, none⟩)] w fun e W' => e = .returned (.bool true) ∧ Dp.Duo B W0 W' d m r m' K := by
  have h0 := h
  obtain ⟨F, G, h1, h2, h3, h4, h5, h6, h7, h8⟩ := h
  exact (Dw.alike_any2 h1 h2 h6 hl).mono fun e W' ⟨a, b⟩ => ⟨a, h0.later b⟩
end
end Go.Proofs.Ytgbeeghdoilmkaa
/- Two disks side by side: a step that writes. Conditions: each theorem's own hypotheses. -/
namespace Go.Proofs.Ytgbeeghdoilmkaa
open Go.RowKit Go.Maps Go.Sort
set_option linter.unusedVariables false

/-- What a step that writes does. -/
def Dp.wr (m : Dk.M) (s : Dw.S) : Dk.M := if 1 ≤ s.what ∧ s.what ≤ 6 then (Dw.done m s).1 else m
theorem Dp.like_done {a b : Dk.M} (h : Dp.Like a b) (s : Dw.S) : Dp.Like2 (Dw.done a s) (Dw.done b s) := by
  obtain ⟨D1, D2, D3, D4, D5, D6, _⟩ := Dp.like_ops h
  exact Dp.like_ite (D1 _) (Dp.like_ite (D2 _ _) (Dp.like_ite (D3 _) (Dp.like_ite (D4 _ _) (Dp.like_ite (D5 _ _) (D6 _)))))
theorem Dp.like_wr {a b : Dk.M} (h : Dp.Like a b) (s : Dw.S) : Dp.Like (Dp.wr a s) (Dp.wr b s) := by
  unfold Dp.wr
  split
  · exact (Dp.like_done h s).1
  · exact h
theorem Dp.wr_good {m : Dk.M} (h : Dk.Good m) (s : Dw.S) : Dk.Good (Dp.wr m s) := by
  unfold Dp.wr
  split
  · exact Dw.done_good h s
  · exact h
set_option maxRecDepth 100000 in
set_option maxHeartbeats 4000000 in
theorem Dp.write_any {B d r : Nat} {W0 w : World} {m m' : Dk.M} {K : List (Nat × Obj)} (h : Dp.Duo B W0 w d m r m' K) (hl : Dp.Like m m') (s : Dw.S) (hs : Dw.Fit w s) :
    Calls Try.prog 65 #[.pointer (some ⟨d, 0, none⟩), .pointer (some ⟨r, 0, none⟩), .agg (Dw.cells s)] w fun e W' => e = .returned (.bool true) ∧ Dp.Duo B W0 W' d (Dp.wr m s) r (Dp.wr m' s) K := by
  have D0 := h.push (.cells (Dw.cells s) 45)
  have he := (Dp.like_done hl s).2
  unfold Dp.wr
  obtain ⟨k, nm, to_, da, at_, n, dn, cv, cs⟩ := s
  obtain ⟨f1, f2, f3, _, f5, _, _, _⟩ := hs
  simp only at f1 f2 f3 f5
  unfold Dw.cells at D0 ⊢
  unfold Dw.done at he ⊢
  simp only at he D0 ⊢
  obtain ⟨nb, hnb, hnbs⟩ := Tx.of nm
  obtain ⟨tb, htb, htbs⟩ := Tx.of to_
  obtain ⟨db, hdb, hdbs⟩ := Tx.of da
  rw [Tx.v_eq hnb, Tx.v_eq htb, Tx.v_eq hdb] at D0 ⊢
  have hbx : ∀ {w1 m1 m2}, Dp.Duo B W0 w1 d m1 r m2 (K ++ [(w.heap.size, .cells #[.int .i64 k, .string nb, .string tb, .string db, .int .i64 at_, .int .i64 n, .bool dn, cv] 45)]) → w1.cell? ⟨w.heap.size, 1, none⟩ = some (.string nb) ∧ w1.cell? ⟨w.heap.size, 2, none⟩ = some (.string tb) ∧ w1.cell? ⟨w.heap.size, 3, none⟩ = some (.string db) ∧ w1.cell? ⟨w.heap.size, 5, none⟩ = some (.int .i64 n) := fun D => by
    have hb : Blk _ w.heap.size 45 #[.int .i64 k, .string nb, .string tb, .string db, .int .i64 at_, .int .i64 n, .bool dn, cv] := D.blk (List.mem_append_right _ (List.mem_singleton.2 rfl))
    exact ⟨hb.cell 1, hb.cell 2, hb.cell 3, hb.cell 5⟩
  have hsub : ∀ {w1 m1 m2}, Dp.Duo B W0 w1 d m1 r m2 (K ++ [(w.heap.size, .cells #[.int .i64 k, .string nb, .string tb, .string db, .int .i64 at_, .int .i64 n, .bool dn, cv] 45)]) → Dp.Duo B W0 w1 d m1 r m2 K := fun D => D.sub fun p hp => List.mem_append_left _ hp
  have n1 : nb.size ≤ 9223372036854775807 := by omega
  have n2 : tb.size ≤ 9223372036854775807 := by omega
  have n3 : db.size ≤ 140737488355328 := by omega
  by_cases e1 : k = 1
  · subst e1
    have hr : (1 : Int) ≤ 1 ∧ (1 : Int) ≤ 6 := by decide
    rw [if_pos hr, if_pos hr]
    simp only [if_pos] at he ⊢
    clear hr
    have k1 := D0.call1 (Dk.create_good D0.good1 _) fun F hA hG => Dk.create_any hA hG nb n1
    have k2 := fun {w1 m1} (D : Dp.Duo B W0 w1 d m1 r m' (K ++ [(w.heap.size, .cells #[.int .i64 1, .string nb, .string tb, .string db, .int .i64 at_, .int .i64 n, .bool dn, cv] 45)])) => D.call2 (Dk.create_good D.good2 _) fun F hA hG => Dr.create_any hA hG nb n1
    simp only [hnb] at k1 k2
    rw [← he] at k2
    obtain ⟨z, hz⟩ : ∃ z, (Dk.create m nm).2 = z := ⟨_, rfl⟩
    obtain ⟨M1, hM1⟩ : ∃ z, (Dk.create m nm).1 = z := ⟨_, rfl⟩
    obtain ⟨M2, hM2⟩ : ∃ z, (Dk.create m' nm).1 = z := ⟨_, rfl⟩
    rw [hz, hM1] at k1
    rw [hz, hM2] at k2
    rw [hM1, hM2]
    clear he hz hM1 hM2 hnb htb hdb hnbs htbs hdbs D0
    go_enter Try.func65, Try.ntmps65
    go_wp2_with (first
      | (go_at_call 23; refine k1.mono ?_; clear k1; rintro e w1 ⟨rfl, D1⟩; obtain ⟨x1, x2, x3, x5⟩ := hbx D1; have k3 := k2 D1; clear k2)
      | (go_at_call 34; refine k3.mono ?_; clear k3; rintro e w2 ⟨rfl, D2⟩))
    go_ret
    exact ⟨rfl, hsub D2⟩
  by_cases e2 : k = 2
  · subst e2
    have hr : (1 : Int) ≤ 2 ∧ (2 : Int) ≤ 6 := by decide
    rw [if_pos hr, if_pos hr]
    simp only [if_neg e1, if_pos] at he ⊢
    clear hr
    have k1 := D0.call1 (Dk.append_good D0.good1 _ _) fun F hA hG => Dk.append_any hA hG nb db n1 (Nat.le_trans n3 (by decide))
    have k2 := fun {w1 m1} (D : Dp.Duo B W0 w1 d m1 r m' (K ++ [(w.heap.size, .cells #[.int .i64 2, .string nb, .string tb, .string db, .int .i64 at_, .int .i64 n, .bool dn, cv] 45)])) => D.call2 (Dk.append_good D.good2 _ _) fun F hA hG => Dr.append_any hA hG nb db n1 n3
    simp only [hnb, hdb] at k1 k2
    rw [← he] at k2
    obtain ⟨z, hz⟩ : ∃ z, (Dk.append m nm da).2 = z := ⟨_, rfl⟩
    obtain ⟨M1, hM1⟩ : ∃ z, (Dk.append m nm da).1 = z := ⟨_, rfl⟩
    obtain ⟨M2, hM2⟩ : ∃ z, (Dk.append m' nm da).1 = z := ⟨_, rfl⟩
    rw [hz, hM1] at k1
    rw [hz, hM2] at k2
    rw [hM1, hM2]
    clear he hz hM1 hM2 hnb htb hdb hnbs htbs hdbs D0
    go_enter Try.func65, Try.ntmps65
    go_wp2_with (first
      | (go_at_call 48; refine k1.mono ?_; clear k1; rintro e w1 ⟨rfl, D1⟩; obtain ⟨x1, x2, x3, x5⟩ := hbx D1; have k3 := k2 D1; clear k2)
      | (go_at_call 78; refine k3.mono ?_; clear k3; rintro e w2 ⟨rfl, D2⟩))
    go_ret
    exact ⟨rfl, hsub D2⟩
  by_cases e3 : k = 3
  · subst e3
    have hr : (1 : Int) ≤ 3 ∧ (3 : Int) ≤ 6 := by decide
    rw [if_pos hr, if_pos hr]
    simp only [if_neg e1, if_neg e2, if_pos] at he ⊢
    clear hr
    have k1 := D0.call1 (Dk.sync_good D0.good1 _) fun F hA hG => Dk.sync_any hA hG nb n1
    have k2 := fun {w1 m1} (D : Dp.Duo B W0 w1 d m1 r m' (K ++ [(w.heap.size, .cells #[.int .i64 3, .string nb, .string tb, .string db, .int .i64 at_, .int .i64 n, .bool dn, cv] 45)])) => D.call2 (Dk.sync_good D.good2 _) fun F hA hG => Dr.sync_any hA hG nb n1
    simp only [hnb] at k1 k2
    rw [← he] at k2
    obtain ⟨z, hz⟩ : ∃ z, (Dk.sync m nm).2 = z := ⟨_, rfl⟩
    obtain ⟨M1, hM1⟩ : ∃ z, (Dk.sync m nm).1 = z := ⟨_, rfl⟩
    obtain ⟨M2, hM2⟩ : ∃ z, (Dk.sync m' nm).1 = z := ⟨_, rfl⟩
    rw [hz, hM1] at k1
    rw [hz, hM2] at k2
    rw [hM1, hM2]
    clear he hz hM1 hM2 hnb htb hdb hnbs htbs hdbs D0
    go_enter Try.func65, Try.ntmps65
    go_wp2_with (first
      | (go_at_call 49; refine k1.mono ?_; clear k1; rintro e w1 ⟨rfl, D1⟩; obtain ⟨x1, x2, x3, x5⟩ := hbx D1; have k3 := k2 D1; clear k2)
      | (go_at_call 79; refine k3.mono ?_; clear k3; rintro e w2 ⟨rfl, D2⟩))
    go_ret
    exact ⟨rfl, hsub D2⟩
  by_cases e4 : k = 4
  · subst e4
    have hr : (1 : Int) ≤ 4 ∧ (4 : Int) ≤ 6 := by decide
    rw [if_pos hr, if_pos hr]
    simp only [if_neg e1, if_neg e2, if_neg e3, if_pos] at he ⊢
    clear hr
    have k1 := D0.call1 (Dk.cut_good D0.good1 _ _) fun F hA hG => Dk.cut_any hA hG nb n1 n f5
    have k2 := fun {w1 m1} (D : Dp.Duo B W0 w1 d m1 r m' (K ++ [(w.heap.size, .cells #[.int .i64 4, .string nb, .string tb, .string db, .int .i64 at_, .int .i64 n, .bool dn, cv] 45)])) => D.call2 (Dk.cut_good D.good2 _ _) fun F hA hG => Dr.cut_any hA hG nb n1 n f5
    simp only [hnb] at k1 k2
    rw [← he] at k2
    obtain ⟨z, hz⟩ : ∃ z, (Dk.cut m nm n).2 = z := ⟨_, rfl⟩
    obtain ⟨M1, hM1⟩ : ∃ z, (Dk.cut m nm n).1 = z := ⟨_, rfl⟩
    obtain ⟨M2, hM2⟩ : ∃ z, (Dk.cut m' nm n).1 = z := ⟨_, rfl⟩
    rw [hz, hM1] at k1
    rw [hz, hM2] at k2
    rw [hM1, hM2]
    clear he hz hM1 hM2 hnb htb hdb hnbs htbs hdbs D0
    go_enter Try.func65, Try.ntmps65
    go_wp2_with (first
      | (go_at_call 51; refine k1.mono ?_; clear k1; rintro e w1 ⟨rfl, D1⟩; obtain ⟨x1, x2, x3, x5⟩ := hbx D1; have k3 := k2 D1; clear k2)
      | (go_at_call 80; refine k3.mono ?_; clear k3; rintro e w2 ⟨rfl, D2⟩))
    go_ret
    exact ⟨rfl, hsub D2⟩
  by_cases e5 : k = 5
  · subst e5
    have hr : (1 : Int) ≤ 5 ∧ (5 : Int) ≤ 6 := by decide
    rw [if_pos hr, if_pos hr]
    simp only [if_neg e1, if_neg e2, if_neg e3, if_neg e4, if_pos] at he ⊢
    clear hr
    have k1 := D0.call1 (Dk.rename_good D0.good1 _ _) fun F hA hG => Dk.rename_any hA hG nb tb n1 n2
    have k2 := fun {w1 m1} (D : Dp.Duo B W0 w1 d m1 r m' (K ++ [(w.heap.size, .cells #[.int .i64 5, .string nb, .string tb, .string db, .int .i64 at_, .int .i64 n, .bool dn, cv] 45)])) => D.call2 (Dk.rename_good D.good2 _ _) fun F hA hG => Dr.rename_any hA hG nb tb n1 n2
    simp only [hnb, htb] at k1 k2
    rw [← he] at k2
    obtain ⟨z, hz⟩ : ∃ z, (Dk.rename m nm to_).2 = z := ⟨_, rfl⟩
    obtain ⟨M1, hM1⟩ : ∃ z, (Dk.rename m nm to_).1 = z := ⟨_, rfl⟩
    obtain ⟨M2, hM2⟩ : ∃ z, (Dk.rename m' nm to_).1 = z := ⟨_, rfl⟩
    rw [hz, hM1] at k1
    rw [hz, hM2] at k2
    rw [hM1, hM2]
    clear he hz hM1 hM2 hnb htb hdb hnbs htbs hdbs D0
    go_enter Try.func65, Try.ntmps65
    go_wp2_with (first
      | (go_at_call 52; refine k1.mono ?_; clear k1; rintro e w1 ⟨rfl, D1⟩; obtain ⟨x1, x2, x3, x5⟩ := hbx D1; have k3 := k2 D1; clear k2)
      | (go_at_call 81; refine k3.mono ?_; clear k3; rintro e w2 ⟨rfl, D2⟩))
    go_ret
    exact ⟨rfl, hsub D2⟩
  by_cases e6 : k = 6
  · subst e6
    have hr : (1 : Int) ≤ 6 ∧ (6 : Int) ≤ 6 := by decide
    rw [if_pos hr, if_pos hr]
    simp only [if_neg e1, if_neg e2, if_neg e3, if_neg e4, if_neg e5] at he ⊢
    clear hr
    have k1 := D0.call1 (Dk.delete_good D0.good1 _) fun F hA hG => Dk.delete_any hA hG nb n1
    have k2 := fun {w1 m1} (D : Dp.Duo B W0 w1 d m1 r m' (K ++ [(w.heap.size, .cells #[.int .i64 6, .string nb, .string tb, .string db, .int .i64 at_, .int .i64 n, .bool dn, cv] 45)])) => D.call2 (Dk.delete_good D.good2 _) fun F hA hG => Dr.delete_any hA hG nb n1
    simp only [hnb] at k1 k2
    rw [← he] at k2
    obtain ⟨z, hz⟩ : ∃ z, (Dk.delete m nm).2 = z := ⟨_, rfl⟩
    obtain ⟨M1, hM1⟩ : ∃ z, (Dk.delete m nm).1 = z := ⟨_, rfl⟩
    obtain ⟨M2, hM2⟩ : ∃ z, (Dk.delete m' nm).1 = z := ⟨_, rfl⟩
    rw [hz, hM1] at k1
    rw [hz, hM2] at k2
    rw [hM1, hM2]
    clear he hz hM1 hM2 hnb htb hdb hnbs htbs hdbs D0
    go_enter Try.func65, Try.ntmps65
    go_wp2_with (first
      | (go_at_call 24; refine k1.mono ?_; clear k1; rintro e w1 ⟨rfl, D1⟩; obtain ⟨x1, x2, x3, x5⟩ := hbx D1; have k3 := k2 D1; clear k2)
      | (go_at_call 69; refine k3.mono ?_; clear k3; rintro e w2 ⟨rfl, D2⟩))
    go_ret
    exact ⟨rfl, hsub D2⟩
  have hr : ¬ (1 ≤ k ∧ k ≤ 6) := by omega
  rw [if_neg hr, if_neg hr]
  have t1 : (k == 1) = false := beq_eq_false_iff_ne.2 e1
  have t2 : (k == 2) = false := beq_eq_false_iff_ne.2 e2
  have t3 : (k == 3) = false := beq_eq_false_iff_ne.2 e3
  have t4 : (k == 4) = false := beq_eq_false_iff_ne.2 e4
  have t5 : (k == 5) = false := beq_eq_false_iff_ne.2 e5
  have t6 : (k == 6) = false := beq_eq_false_iff_ne.2 e6
  have D1 := hsub D0
  clear he hnb htb hdb hnbs htbs hdbs D0 hbx hsub e1 e2 e3 e4 e5 e6 hr
  go_enter Try.func65, Try.ntmps65
  go_wp2_with fail
  go_ret
  exact ⟨rfl, D1⟩
#print axioms Dp.write_any
end Go.Proofs.Ytgbeeghdoilmkaa
