/- The walk of the law RecallOf: rows of hits that the call owns. Conditions: each theorem's own hypotheses. -/
import Derived.Test.YtjoaimccfoakmaaRcC
import Derived.Deep.RegionHeld3
import Derived.Deep.DeepCutAuto
namespace Go.Proofs.Ytjoaimccfoakmaa
open Go.RowKit
set_option linter.unusedVariables false

/-- Block g begins with these hits; none of it is frozen. -/
structure Row (W : World) (g : Nat) (hs : List Hit) : Prop where
  at_ : ∀ j h, hs[j]? = some h → W.cell? ⟨g, j * 3, none⟩ = some (.int .i64 h.dist) ∧ W.cell? ⟨g, j * 3 + 1, none⟩ = some (.int .i64 h.id) ∧ W.cell? ⟨g, j * 3 + 2, none⟩ = some (.string h.code)
  free : ∀ j, W.frozen? ⟨g, j, none⟩ = false
  lt : g < W.heap.size

theorem Row.hs {W : World} {g : Nat} {hs : List Hit} (h : Row W g hs) : Hs W W.heap.size (some ⟨g, 0, none⟩) hs := fun _ =>
  ⟨g, 0, rfl, h.lt, fun j x hj => by rw [Nat.zero_add]; exact h.at_ j x hj⟩
theorem Row.of_own {W : World} {base g cap : Nat} {hs : List Hit} (h : Own W base g cap hs) : Row W g hs := by
  refine ⟨fun j x hj => ?_, fun j => ?_, h.lt.2⟩
  · obtain ⟨b, off, hA, _, hc⟩ := h.hs (by have := (List.getElem?_eq_some_iff.1 hj).1; omega)
    injection hA with hA
    injection hA with e1 e2
    subst e1 e2
    have := hc j x hj
    rw [Nat.zero_add] at this
    exact this
  · rcases h.2 with ⟨h0, _⟩ | ⟨g', cap', cur, h0, _, hg, _⟩
    · cases h0
    · injection h0 with h0
      injection h0 with h0
      injection h0 with e1
      subst e1
      exact Blk.frozen hg j
theorem Own.cap {W : World} {base g cap : Nat} {hs : List Hit} (h : Own W base g cap hs) : hs.length ≤ cap ∧ cap ≤ maxLen := by
  rcases h.2 with ⟨h0, _⟩ | ⟨g', cap', cur, h0, _, _, h1, h2, _⟩
  · cases h0
  · injection h0 with _ _ e
    subst e
    exact ⟨h1, h2⟩
theorem Row.below {W W' : World} {B g : Nat} {hs : List Hit} (h : Row W g hs) (hB : Below B W W') (hg : g < B) : Row W' g hs :=
  ⟨fun j x hj => by
    obtain ⟨a, b, c⟩ := h.at_ j x hj
    exact ⟨(hB.cell (p := ⟨g, _, none⟩) hg).trans a, (hB.cell (p := ⟨g, _, none⟩) hg).trans b, (hB.cell (p := ⟨g, _, none⟩) hg).trans c⟩,
   fun j => (hB.frozen (p := ⟨g, j, none⟩) hg).trans (h.free j), Nat.lt_of_lt_of_le h.lt hB.size⟩
theorem Row.init {W : World} {g : Nat} {hs : List Hit} {m : Hit} (h : Row W g (hs ++ [m])) : Row W g hs :=
  ⟨fun j x hj => h.at_ j x (by rw [List.getElem?_append_left (List.getElem?_eq_some_iff.1 hj).1]; exact hj), h.free, h.lt⟩
theorem Row.far {W : World} {g : Nat} {hs : List Hit} (h : Row W g hs) {p : Addr} (hp : p.block ≠ g) (v : Value) : Row (W.setCell p v) g hs :=
  ⟨fun j x hj => by
    obtain ⟨a, b, c⟩ := h.at_ j x hj
    exact ⟨(World.cell?_setCell_far _ _ _ _ hp).trans a, (World.cell?_setCell_far _ _ _ _ hp).trans b, (World.cell?_setCell_far _ _ _ _ hp).trans c⟩,
   fun j => by rw [World.frozen?_setCell]; exact h.free j, by simp; exact h.lt⟩
theorem Row.set_ {W : World} {g : Nat} {hs : List Hit} (h : Row W g hs) {k : Nat} {x : Hit} (hk : hs[k]? = some x) (z : Int) : Row (W.setCell ⟨g, k * 3 + 1, none⟩ (.int .i64 z)) g (hs.set k ⟨x.dist, z, x.code⟩) := by
  refine ⟨fun j y hj => ?_, fun j => by rw [World.frozen?_setCell]; exact h.free j, by simp; exact h.lt⟩
  by_cases e : j = k
  · subst e
    rw [List.getElem?_set_self (List.getElem?_eq_some_iff.1 hk).1] at hj
    obtain rfl := Option.some.inj hj
    obtain ⟨a, b, c⟩ := h.at_ j x hk
    refine ⟨?_, World.cell?_setCell_same _ _ _ b, ?_⟩
    · rw [World.cell?_setCell_other _ _ _ _ (by simp)]; exact a
    · rw [World.cell?_setCell_other _ _ _ _ (by simp)]; exact c
  · rw [List.getElem?_set_ne (fun e' => e e'.symm)] at hj
    obtain ⟨a, b, c⟩ := h.at_ j y hj
    refine ⟨?_, ?_, ?_⟩
    · rw [World.cell?_setCell_other _ _ _ _ (by simp; try omega)]; exact a
    · rw [World.cell?_setCell_other _ _ _ _ (by simp; try omega)]; exact b
    · rw [World.cell?_setCell_other _ _ _ _ (by simp; try omega)]; exact c

/-- Two rows of the call's own. -/
structure Keep (w : World) (ga gb : Nat) (F G : List Hit) (W : World) : Prop where
  a : Row W ga F
  b : Row W gb G
  below : Below w.heap.size w W
theorem Keep.alloc {w : World} {ga gb : Nat} {F G : List Hit} {W : World} (h : Keep w ga gb F G W) (o : Obj) : Keep w ga gb F G (W.alloc o) :=
  ⟨h.a.below ((Below.refl _ _).alloc (Nat.le_refl _) o) h.a.lt, h.b.below ((Below.refl _ _).alloc (Nat.le_refl _) o) h.b.lt, h.below.alloc h.below.size o⟩
theorem Keep.drew {w : World} {ga gb : Nat} {F G : List Hit} {W : World} (h : Keep w ga gb F G W) : Keep w ga gb F G W.drew :=
  ⟨h.a.below (Below.refl _ _).drew h.a.lt, h.b.below (Below.refl _ _).drew h.b.lt, h.below.drew⟩
theorem Keep.adrew {w : World} {ga gb : Nat} {F G : List Hit} {W : World} (h : Keep w ga gb F G W.drew) (o : Obj) : Keep w ga gb F G (W.alloc o).drew := by
  have e : (W.alloc o).drew = W.drew.alloc o := rfl
  rw [e]; exact h.alloc o
theorem Keep.later {w : World} {ga gb : Nat} {F G : List Hit} {W W' : World} (h : Keep w ga gb F G W) (hB : Below W.heap.size W W') : Keep w ga gb F G W' :=
  ⟨h.a.below hB h.a.lt, h.b.below hB h.b.lt, h.below.trans (hB.mono h.below.size)⟩
theorem Keep.set_ {w : World} {ga gb : Nat} {F G : List Hit} {W : World} (h : Keep w ga gb F G W) {p : Addr} (v : Value) (ha : p.block ≠ ga) (hb : p.block ≠ gb) (hp : w.heap.size ≤ p.block) : Keep w ga gb F G (W.setCell p v) :=
  ⟨h.a.far ha v, h.b.far hb v, h.below.setCell hp v⟩

theorem of_held (w : World) (ga gb ca cb : Nat) (F G : List Hit) (W : World) (h : Keep w ga gb F G W) (hf : F.length ≤ 4398046511104) (hg : G.length ≤ 4398046511104)
    (hFw : ∀ h ∈ F, (Lit.int .i64 h.id).wf = true) (hGw : ∀ h ∈ G, (Lit.int .i64 h.id).wf = true) (N : Nat) (hN : cntL (ids F) (ids G) G.length = N) :
    Calls Try.prog 5 #[.slice (some ⟨ga, 0, none⟩) F.length ca, .slice (some ⟨gb, 0, none⟩) G.length cb] W fun e W' => e = .returned (.agg #[.int .i64 N, .int .i64 G.length]) ∧ Keep w ga gb F G W' ∧ Below W.heap.size W W' := by
  rw [← hN]
  exact (of_any F G _ _ ca cb W h.a.hs h.b.hs hf hg hFw hGw).mono fun e W' ⟨he, hB⟩ => ⟨he, h.later hB, hB⟩
theorem refOf_held (w : World) (ga gb ca cb : Nat) (F G : List Hit) (W : World) (h : Keep w ga gb F G W) (hf : F.length ≤ 4398046511104) (hg : G.length ≤ 4398046511104)
    (N : Nat) (hN : cntL (ids F) (ids G) G.length = N) :
    Calls Try.prog 7 #[.slice (some ⟨ga, 0, none⟩) F.length ca, .slice (some ⟨gb, 0, none⟩) G.length cb] W fun e W' => e = .returned (.agg #[.int .i64 N, .int .i64 G.length]) ∧ Keep w ga gb F G W' ∧ Below W.heap.size W W' := by
  rw [← hN]
  exact (refOf_any F G _ _ ca cb W h.a.hs h.b.hs (by omega) (by omega)).mono fun e W' ⟨he, hB⟩ => ⟨he, h.later hB, hB⟩

theorem twin_any (hs : List Hit) (A : Option Addr) (c : Nat) (w : World) (H : Hs w w.heap.size A hs) (hA : A = none → c = 0 ∧ hs = []) (hm : (hs.length + 1) * 32 ≤ 140737488355328) :
    Calls Try.prog 4 #[.slice A hs.length c] w fun e w' => (∃ g cap, e = .returned (.slice (some ⟨g, 0, none⟩) (hs.length + 1) cap) ∧ Own w' w.heap.size g cap (hs ++ [mark])) ∧ Below w.heap.size w w' := by
  cases A with
  | none =>
    obtain ⟨rfl, rfl⟩ := hA rfl
    exact twin_nil w
  | some ad => exact twin_some hs ad c w H hm
end Go.Proofs.Ytjoaimccfoakmaa
