/- Trees by distances in memory: maps of pointers, nodes, the tree; what a call may have changed. Conditions: each theorem's own hypotheses. -/
import Derived.Test.YtlfeibaghfcpaaaDoorBkA
import Derived.Test.YtlfeibaghfcpaaaDoorMem
import Derived.Sort.KeysCollected
import Derived.Maps.RangeWalk
import Derived.Maps.OwnSet
import Derived.Deep.LoopGhost
namespace Go.Proofs.YtlfeibaghfcpaaaDoor
open Go.RowKit Go.Maps Go.Sort
set_option linter.unusedVariables false

/-- Of what was there, at most these blocks have changed. -/
structure Bk.Only (F : Nat → Prop) (w w' : World) : Prop where
  os : w'.os = w.os
  tape : w'.tape = w.tape
  output : w'.output = w.output
  size : w.heap.size ≤ w'.heap.size
  block : ∀ k, k < w.heap.size → ¬ F k → w'.heap[k]? = w.heap[k]?
theorem Bk.Only.refl (F : Nat → Prop) (w : World) : Bk.Only F w w := ⟨rfl, rfl, rfl, Nat.le_refl _, fun _ _ _ => rfl⟩
theorem Bk.Only.trans {F : Nat → Prop} {a b c : World} (h : Bk.Only F a b) (k : Bk.Only F b c) : Bk.Only F a c :=
  ⟨k.os.trans h.os, k.tape.trans h.tape, k.output.trans h.output, Nat.le_trans h.size k.size, fun i hi hf => (k.block i (Nat.lt_of_lt_of_le hi h.size) hf).trans (h.block i hi hf)⟩
theorem Bk.Only.of {F : Nat → Prop} {w w' : World} (h : Below w.heap.size w w') : Bk.Only F w w' := ⟨h.os, h.tape, h.output, h.size, fun k hk _ => h.block k hk⟩
theorem Bk.Only.wide {F G : Nat → Prop} {w w' : World} (h : Bk.Only F w w') (hi : ∀ k, k < w.heap.size → F k → G k) : Bk.Only G w w' := ⟨h.os, h.tape, h.output, h.size, fun k hk hg => h.block k hk fun hf => hg (hi k hk hf)⟩
theorem Bk.Only.below {F : Nat → Prop} {B : Nat} {w w' : World} (h : Bk.Only F w w') (hB : B ≤ w.heap.size) (hF : ∀ k, F k → B ≤ k) : Below B w w' := ⟨h.os, h.tape, h.output, h.size, fun k hk => h.block k (by omega) fun hf => by have := hF k hf; omega⟩
theorem Bk.Only.alloc {F : Nat → Prop} {a w : World} (h : Bk.Only F a w) (o : Obj) : Bk.Only F a (w.alloc o) := h.trans (.of ((Below.refl _ _).alloc (Nat.le_refl _) o))
theorem Bk.Only.drew {F : Nat → Prop} {a w : World} (h : Bk.Only F a w) : Bk.Only F a w.drew := h.trans (.of (Below.refl _ _).drew)
theorem Bk.Only.setCell {F : Nat → Prop} {a w : World} (h : Bk.Only F a w) {p : Addr} (hp : F p.block ∨ a.heap.size ≤ p.block) (u : Value) : Bk.Only F a (w.setCell p u) :=
  ⟨h.os, h.tape, h.output, by simp only [World.setCell, Array.size_modify]; exact h.size, fun k hk hf => (Below.heap_setCell w p u k (fun e => by subst e; rcases hp with hp | hp; exact hf hp; omega)).trans (h.block k hk hf)⟩
theorem Bk.Only.grown {F : Nat → Prop} {a w w' : World} {row : Option Nat} (h : Bk.Only F a w) (hg : w.grownBy w' row) (hr : ∀ k, row = some k → F k ∨ a.heap.size ≤ k) : Bk.Only F a w' :=
  ⟨hg.os.trans h.os, hg.tape.trans h.tape, hg.output.trans h.output, Nat.le_trans h.size hg.size, fun k hk hf => (hg.block k (Nat.lt_of_lt_of_le hk h.size) (fun e => by rcases hr k e.symm with hp | hp; exact hf hp; omega)).trans (h.block k hk hf)⟩

/-- How a pointer to a whole block reads. -/
def Bk.R : Value → Option (DataW Unit × List MemPlace)
  | .pointer none => some (.nil, [])
  | .pointer (some a) => if a = ⟨a.block, 0, none⟩ then some (.lit (.int .i64 a.block), []) else none
  | _ => none
theorem Bk.R_nil : Bk.R (.pointer none) = some (.nil, []) := rfl
theorem Bk.R_ptr (b : Nat) : Bk.R (.pointer (some ⟨b, 0, none⟩)) = some (.lit (.int .i64 b), []) := by simp [Bk.R]
theorem Bk.R_inv {v : Value} {y : DataW Unit × List MemPlace} (h : Bk.R v = some y) : ∃ c, v = Value.pointer c := by
  cases v <;> simp [Bk.R] at h
  rename_i p
  exact ⟨p, rfl⟩
theorem Bk.R_lit {v : Value} {b : Nat} {ps : List MemPlace} (h : Bk.R v = some (.lit (.int .i64 b), ps)) : v = .pointer (some ⟨b, 0, none⟩) := by
  obtain ⟨c, rfl⟩ := Bk.R_inv h
  cases c with
  | none => simp [Bk.R] at h
  | some a =>
    simp [Bk.R] at h
    obtain ⟨h1, h2, _⟩ := h
    have : a.block = b := by exact_mod_cast h2
    rw [h1, this]
theorem Bk.strKeyed : Keyed Tryd.prog 9 := string_keyed Tryd.underlying9
/-- How an element of such a map reads. -/
def Bk.opt : Option Nat → DataW Unit
  | some b => .lit (.int .i64 b)
  | none => .nil
/-- A pointer to a block, or none. -/
def Bk.ptr : Option Nat → Value
  | some b => .pointer (some ⟨b, 0, none⟩)
  | none => .pointer none
theorem Bk.ptr_of {v : Value} {o : Option Nat} {ps : List MemPlace} (h : Bk.R v = some (Bk.opt o, ps)) : v = Bk.ptr o := by
  cases o with
  | some b => exact Bk.R_lit h
  | none =>
    obtain ⟨c, rfl⟩ := Bk.R_inv h
    cases c with
    | none => rfl
    | some a => simp [Bk.R, Bk.opt] at h
/-- Block m is a map of at most n entries from such keys to pointers, and reads as f. -/
def Bk.MapAt {α : Type} (W : World) (k : TypeId) (mk : α → Lit) (m n : Nat) (S : Nat → Prop) (f : α → Option Nat) : Prop :=
  ∃ D, W.ownsMap Tryd.prog k Bk.R m n D ∧ (∀ x, D.atKey (mk x) .nil = Bk.opt (f x) ∧ Maps.has D (mk x) = (f x).isSome) ∧ S (Maps.size D)
abbrev Bk.IMap (W : World) (m n : Nat) (f : Int → Option Nat) : Prop := Bk.MapAt W 3 (fun e : Int => .int .i64 e) m n (fun _ => True) f
abbrev Bk.SMap (W : World) (m n : Nat) (f : List UInt8 → Option Nat) : Prop := Bk.MapAt W 9 (fun c : List UInt8 => .string c) m n (fun z => z = n) f
section
variable {α : Type} {W W' : World} {k : TypeId} {mk : α → Lit} {m n : Nat} {S : Nat → Prop} {f : α → Option Nat}
theorem Bk.MapAt.lt (h : Bk.MapAt W k mk m n S f) : m < W.heap.size := by
  obtain ⟨D, hD, _⟩ := h
  exact hD.lt
theorem Bk.MapAt.mono (h : Bk.MapAt W k mk m n S f) {n' : Nat} (hn : n ≤ n') : Bk.MapAt W k mk m n' S f := by
  obtain ⟨D, hD, hf⟩ := h
  exact ⟨D, hD.mono hn, hf⟩
theorem Bk.MapAt.keep (h : Bk.MapAt W k mk m n S f) (hk : W'.heap[m]? = W.heap[m]?) : Bk.MapAt W' k mk m n S f := by
  obtain ⟨D, ⟨es, clock, hb, r⟩, hf⟩ := h
  exact ⟨D, ⟨es, clock, hk.trans hb, r⟩, hf⟩
theorem Bk.MapAt.congr (h : Bk.MapAt W k mk m n S f) {g : α → Option Nat} (hg : ∀ x, g x = f x) : Bk.MapAt W k mk m n S g := by
  obtain ⟨D, hD, hf⟩ := h
  exact ⟨D, hD, fun x => by rw [hg x]; exact hf.1 x, hf.2⟩
theorem Bk.MapAt.made (W : World) (k : TypeId) (mk : α → Lit) (S : Nat → Prop) (hS : S 0) : Bk.MapAt (W.alloc (.map #[] 0)) k mk W.heap.size 0 S fun _ => none :=
  ⟨_, World.ownsMap_made (H := Unit) W Tryd.prog k Bk.R, fun x => ⟨rfl, rfl⟩, hS⟩
theorem Bk.MapAt.put {D0 : DataW Unit} {S' : Nat → Prop} (hf : ∀ x : α, D0.atKey (mk x) .nil = Bk.opt (f x) ∧ Maps.has D0 (mk x) = (f x).isSome) (hM : Tidy D0) (hi : ∀ x y, mk x = mk y → x = y) {x : α} {b : Nat} (hx : WideAt.IsKeyLit (mk x))
    (hD : W'.ownsMap Tryd.prog k Bk.R m n (D0.put (mk x) (.lit (.int .i64 b)))) {g : α → Option Nat} (g0 : f x = none) (g1 : g x = some b) (g2 : ∀ y, y ≠ x → g y = f y) (hS : S' (Maps.size D0 + 1)) : Bk.MapAt W' k mk m n S' g := by
  refine ⟨_, hD, fun y => ?_, ?_⟩
  · by_cases e : y = x
    · subst e
      rw [atKey_put_same hM.isMap hx, has_put_same hM.isMap hx, g1]
      exact ⟨rfl, rfl⟩
    · have hne : mk y ≠ mk x := fun h => e (hi _ _ h)
      rw [atKey_put_other hne, has_put_other hne, g2 y e]
      exact hf y
  · rw [size_put hM, (hf x).2, g0]
    exact hS
end
end Go.Proofs.YtlfeibaghfcpaaaDoor
