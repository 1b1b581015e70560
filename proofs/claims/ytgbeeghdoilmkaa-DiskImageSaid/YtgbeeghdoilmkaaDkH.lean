/- Disks in memory (the program's): what a call may have changed; a new disk, and what one tells of itself. Conditions: each theorem's own hypotheses. -/
import Derived.Test.YtgbeeghdoilmkaaDkG
import Derived.Laws.IdiomStrings
import Derived.Laws.BytesArg
namespace Go.Proofs.Ytgbeeghdoilmkaa
open Go.RowKit Go.Maps Go.Sort
set_option linter.unusedVariables false

/-- Of what was there, at most these blocks have changed. -/
structure Dk.Only (F : Nat → Prop) (w w' : World) : Prop where
  os : w'.os = w.os
  tape : w'.tape = w.tape
  output : w'.output = w.output
  size : w.heap.size ≤ w'.heap.size
  block : ∀ k, k < w.heap.size → ¬ F k → w'.heap[k]? = w.heap[k]?
theorem Dk.Only.refl (F : Nat → Prop) (w : World) : Dk.Only F w w := ⟨rfl, rfl, rfl, Nat.le_refl _, fun _ _ _ => rfl⟩
theorem Dk.Only.trans {F : Nat → Prop} {a b c : World} (h : Dk.Only F a b) (k : Dk.Only F b c) : Dk.Only F a c :=
  ⟨k.os.trans h.os, k.tape.trans h.tape, k.output.trans h.output, Nat.le_trans h.size k.size, fun i hi hf => (k.block i (Nat.lt_of_lt_of_le hi h.size) hf).trans (h.block i hi hf)⟩
theorem Dk.Only.of {F : Nat → Prop} {w w' : World} (h : Below w.heap.size w w') : Dk.Only F w w' := ⟨h.os, h.tape, h.output, h.size, fun k hk _ => h.block k hk⟩
theorem Dk.Only.wide {F G : Nat → Prop} {w w' : World} (h : Dk.Only F w w') (hi : ∀ k, k < w.heap.size → F k → G k) : Dk.Only G w w' := ⟨h.os, h.tape, h.output, h.size, fun k hk hg => h.block k hk fun hf => hg (hi k hk hf)⟩
theorem Dk.Only.below {F : Nat → Prop} {B : Nat} {w w' : World} (h : Dk.Only F w w') (hB : B ≤ w.heap.size) (hF : ∀ k, F k → B ≤ k) : Below B w w' := ⟨h.os, h.tape, h.output, h.size, fun k hk => h.block k (by omega) fun hf => by have := hF k hf; omega⟩
theorem Dk.Only.alloc {F : Nat → Prop} {a w : World} (h : Dk.Only F a w) (o : Obj) : Dk.Only F a (w.alloc o) := h.trans (.of ((Below.refl _ _).alloc (Nat.le_refl _) o))
theorem Dk.Only.drew {F : Nat → Prop} {a w : World} (h : Dk.Only F a w) : Dk.Only F a w.drew := h.trans (.of (Below.refl _ _).drew)
theorem Dk.Only.setCell {F : Nat → Prop} {a w : World} (h : Dk.Only F a w) {p : Addr} (hp : F p.block ∨ a.heap.size ≤ p.block) (u : Value) : Dk.Only F a (w.setCell p u) :=
  ⟨h.os, h.tape, h.output, by simp only [World.setCell, Array.size_modify]; exact h.size, fun k hk hf => (Below.heap_setCell w p u k (fun e => by subst e; rcases hp with hp | hp; exact hf hp; omega)).trans (h.block k hk hf)⟩
theorem Dk.Only.grown {F : Nat → Prop} {a w w' : World} {row : Option Nat} (h : Dk.Only F a w) (hg : w.grownBy w' row) (hr : ∀ k, row = some k → F k ∨ a.heap.size ≤ k) : Dk.Only F a w' :=
  ⟨hg.os.trans h.os, hg.tape.trans h.tape, hg.output.trans h.output, Nat.le_trans h.size hg.size, fun k hk hf => (hg.block k (Nat.lt_of_lt_of_le hk h.size) (fun e => by rcases hr k e.symm with hp | hp; exact hf hp; omega)).trans (h.block k hk hf)⟩

/-- A disk of the program stands at d; its blocks are these. -/
def Dk.At (W : World) (d : Nat) (m : Dk.M) (F : Nat → Prop) : Prop := ∃ b L, Dk.Stand W d b m L ∧ F = Dk.foot d b L
/-- .. and so it has become, and nothing else has changed. -/
def Dk.Moved (W W' : World) (d : Nat) (F : Nat → Prop) (m' : Dk.M) : Prop := ∃ F', Dk.At W' d m' F' ∧ Dk.Only F W W' ∧ ∀ k, F' k → F k ∨ W.heap.size ≤ k
theorem Dk.At.lt {W : World} {d : Nat} {m : Dk.M} {F : Nat → Prop} (h : Dk.At W d m F) {k : Nat} (hk : F k) : k < W.heap.size := by
  obtain ⟨b, L, hS, rfl⟩ := h
  exact hS.lt hk
theorem Dk.At.self {W : World} {d : Nat} {m : Dk.M} {F : Nat → Prop} (h : Dk.At W d m F) : F d := by
  obtain ⟨b, L, hS, rfl⟩ := h
  exact .inl rfl
theorem Dk.At.keep {W W' : World} {d : Nat} {m : Dk.M} {F : Nat → Prop} (h : Dk.At W d m F) (hk : ∀ k, F k → W'.heap[k]? = W.heap[k]?) : Dk.At W' d m F := by
  obtain ⟨b, L, hS, rfl⟩ := h
  exact ⟨b, L, hS.keep hk, rfl⟩
theorem Dk.At.later {W W' : World} {d : Nat} {m : Dk.M} {F : Nat → Prop} (h : Dk.At W d m F) {B : Nat} (hB : Below B W W') (hs : W.heap.size ≤ B) : Dk.At W' d m F :=
  h.keep fun k hk => hB.block k (Nat.lt_of_lt_of_le (h.lt hk) hs)
theorem Dk.At.apart {W W' : World} {d : Nat} {m : Dk.M} {F G : Nat → Prop} (h : Dk.At W d m F) (ho : Dk.Only G W W') (hG : ∀ k, F k → ¬ G k) : Dk.At W' d m F :=
  h.keep fun k hk => ho.block k (h.lt hk) (hG k hk)
theorem Dk.Moved.trans {A B C : World} {d : Nat} {F F' : Nat → Prop} {m' m'' : Dk.M} (hA : Dk.At B d m' F') (ho : Dk.Only F A B) (hf : ∀ k, F' k → F k ∨ A.heap.size ≤ k) (h : Dk.Moved B C d F' m'') : Dk.Moved A C d F m'' := by
  obtain ⟨G, h1, h2, h3⟩ := h
  refine ⟨G, h1, ⟨h2.os.trans ho.os, h2.tape.trans ho.tape, h2.output.trans ho.output, Nat.le_trans ho.size h2.size, fun k hk hn => ?_⟩, fun k hk => ?_⟩
  · refine (h2.block k (Nat.lt_of_lt_of_le hk ho.size) fun hF => ?_).trans (ho.block k hk hn)
    rcases hf k hF with h | h
    · exact hn h
    · omega
  · rcases h3 k hk with h | h
    · exact hf k h
    · exact .inr (Nat.le_trans ho.size h)

/-- An empty disk. -/
def Dk.fresh (n : Nat) : Dk.M := ⟨[], n, 0, 0, false, 0, false⟩
theorem Dk.fresh_good (n : Nat) (h : n ≤ 1073741824) : Dk.Good (Dk.fresh n) := ⟨List.Pairwise.nil, fun f hf => (List.not_mem_nil hf).elim, by show 0 ≤ 4096; decide, h, Nat.zero_le _, by show 0 ≤ 9223372036854775807; decide⟩

set_option maxRecDepth 100000 in
theorem Dk.new_none (n : Int) (hn : n < 0 ∨ 1073741824 < n) (w : World) :
    Calls Try.prog 9 #[.int .i64 n] w fun e w' => e = .returned (.pointer none) ∧ w = w' := by
  by_cases h : n < 0
  · have u1 : decide (n < 0) = true := decide_eq_true h
    go_enter Try.func9, Try.ntmps9
    go_wp2_with fail
    go_ret
    exact ⟨rfl, rfl⟩
  · have u1 : decide (n < 0) = false := decide_eq_false h
    have u2 : decide (1073741824 < n) = true := decide_eq_true (by omega)
    go_enter Try.func9, Try.ntmps9
    go_wp2_with fail
    go_ret
    exact ⟨rfl, rfl⟩
set_option maxRecDepth 100000 in
theorem Dk.new_any (n : Nat) (hn : n ≤ 1073741824) (w : World) :
    Calls Try.prog 9 #[.int .i64 n] w fun e w' => ∃ d F, e = .returned (.pointer (some ⟨d, 0, none⟩)) ∧ Dk.At w' d (Dk.fresh n) F ∧ Below w.heap.size w w' ∧ ∀ k, F k → w.heap.size ≤ k := by
  have hmm := @run_makeMap Try.prog
  have u1 : decide ((n : Int) < 0) = false := decide_eq_false (by omega)
  have u2 : decide (1073741824 < (n : Int)) = false := decide_eq_false (by omega)
  go_enter Try.func9, Try.ntmps9
  go_wp2_with fail
  go_ret
  refine ⟨_, _, rfl, ⟨w.heap.size, [], ⟨?_, ?_, rfl, fun x hx => (List.not_mem_nil hx).elim, List.Pairwise.nil⟩, rfl⟩, ((Below.refl _ _).alloc (Nat.le_refl _) _).alloc (by simp) _, ?_⟩
  · have := Blk.new (w.alloc (.map #[] 0)) 77 (Dk.cells w.heap.size (Dk.fresh n))
    rw [World.size_alloc] at this
    exact this
  · obtain ⟨es, clock, hb, r⟩ := World.ownsMap_made (H := Unit) w Try.prog 9 Dk.R
    exact ⟨es, clock, (Below.heap_alloc _ _ _ (by simp)).trans hb, r⟩
  · rintro k (rfl | rfl | ⟨x, hx, _⟩)
    · simp
    · exact Nat.le_refl _
    · exact (List.not_mem_nil hx).elim

section
variable {W : World} {d : Nat} {m : Dk.M} {F : Nat → Prop}
theorem Dk.used_any (h : Dk.At W d m F) : Calls Try.prog 26 #[.pointer (some ⟨d, 0, none⟩)] W fun e W' => e = .returned (.int .i64 (Dk.used m.files)) ∧ W = W' := by
  obtain ⟨b, L, hS, rfl⟩ := h
  obtain ⟨c0, c1, c2, c3, c4, c5, c6, c7⟩ := hS.eight
  go_enter Try.func26, Try.ntmps26
  go_wp2_with fail
  go_ret
  exact ⟨rfl, rfl⟩
theorem Dk.room_any (h : Dk.At W d m F) : Calls Try.prog 44 #[.pointer (some ⟨d, 0, none⟩)] W fun e W' => e = .returned (.int .i64 m.cap) ∧ W = W' := by
  obtain ⟨b, L, hS, rfl⟩ := h
  obtain ⟨c0, c1, c2, c3, c4, c5, c6, c7⟩ := hS.eight
  go_enter Try.func44, Try.ntmps44
  go_wp2_with fail
  go_ret
  exact ⟨rfl, rfl⟩
theorem Dk.age_any (h : Dk.At W d m F) : Calls Try.prog 29 #[.pointer (some ⟨d, 0, none⟩)] W fun e W' => e = .returned (.int .i64 m.age) ∧ W = W' := by
  obtain ⟨b, L, hS, rfl⟩ := h
  obtain ⟨c0, c1, c2, c3, c4, c5, c6, c7⟩ := hS.eight
  go_enter Try.func29, Try.ntmps29
  go_wp2_with fail
  go_ret
  exact ⟨rfl, rfl⟩
theorem Dk.writes_any (h : Dk.At W d m F) : Calls Try.prog 27 #[.pointer (some ⟨d, 0, none⟩)] W fun e W' => e = .returned (.int .i64 m.writes) ∧ W = W' := by
  obtain ⟨b, L, hS, rfl⟩ := h
  obtain ⟨c0, c1, c2, c3, c4, c5, c6, c7⟩ := hS.eight
  go_enter Try.func27, Try.ntmps27
  go_wp2_with fail
  go_ret
  exact ⟨rfl, rfl⟩
theorem Dk.down_any (h : Dk.At W d m F) : Calls Try.prog 17 #[.pointer (some ⟨d, 0, none⟩)] W fun e W' => e = .returned (.bool m.off) ∧ W = W' := by
  obtain ⟨b, L, hS, rfl⟩ := h
  obtain ⟨c0, c1, c2, c3, c4, c5, c6, c7⟩ := hS.eight
  go_enter Try.func17, Try.ntmps17
  go_wp2_with fail
  go_ret
  exact ⟨rfl, rfl⟩
end
end Go.Proofs.Ytgbeeghdoilmkaa
