/- Disks in memory (the program's). Conditions: each theorem's own hypotheses. -/
import Derived.Test.YtifkhjihgnnpfaaGreatDoorZDkE
import Derived.Test.YtifkhjihgnnpfaaGreatDoorDkC
import Derived.Test.YtifkhjihgnnpfaaGreatDoorMem
import Derived.Laws.IdiomStrings
import Derived.Laws.BytesArg
namespace Go.Proofs.YtifkhjihgnnpfaaGreatDoor
open Go.RowKit Go.Maps Go.Sort
set_option linter.unusedVariables false

/-- A disk: what it keeps, and its switches. -/
structure Dk.M where
  files : List Dk.F
  cap : Nat
  age : Int
  writes : Int
  off : Bool
  left : Nat
  done : Bool
def Dk.used (l : List Dk.F) : Nat := (l.map fun f => f.data.length).sum
/-- What always holds of one. -/
structure Dk.Good (m : Dk.M) : Prop where
  up : Dk.Up Dk.F.name m.files
  file : ∀ f ∈ m.files, Dk.named f.name = true ∧ f.data.length ≤ 268435456 ∧ f.sure ≤ f.data.length
  many : m.files.length ≤ 4096
  cap : m.cap ≤ 1073741824
  used : Dk.used m.files ≤ m.cap
  left : m.left ≤ 9223372036854775807
def Dk.cells (b : Nat) (m : Dk.M) : Array Value := #[.map (some b), .int .i64 m.cap, .int .i64 (Dk.used m.files), .int .i64 m.age, .int .i64 m.writes, .bool m.off, .int .i64 m.left, .bool m.done]
/-- The program's disk in memory: its block, its map, its files. -/
structure Dk.Stand (W : World) (d b : Nat) (m : Dk.M) (L : List Dk.X) : Prop where
  disk : Blk W d 44 (Dk.cells b m)
  map : W.ownsMap Tryz.prog 9 Dk.R b L.length (Dk.dat L)
  fs : L.map (fun x => x.f) = m.files
  file : ∀ x ∈ L, Blk W x.blk 89 #[x.v, .int .i64 x.f.sure] ∧ Dk.Row W x.v x.f.data
  apart : L.Pairwise fun x y => x.blk ≠ y.blk ∧ ∀ k, x.v.ownBlock = some k → y.v.ownBlock ≠ some k
/-- Its blocks. -/
def Dk.foot (d b : Nat) (L : List Dk.X) (k : Nat) : Prop := k = d ∨ k = b ∨ ∃ x ∈ L, x.blk = k ∨ x.v.ownBlock = some k
theorem Dk.Stand.lt {W : World} {d b : Nat} {m : Dk.M} {L : List Dk.X} (h : Dk.Stand W d b m L) {k : Nat} (hk : Dk.foot d b L k) : k < W.heap.size := by
  rcases hk with rfl | rfl | ⟨x, hx, e | e⟩
  · exact h.disk.lt
  · exact h.map.lt
  · exact e ▸ (h.file x hx).1.lt
  · exact (h.file x hx).2.lt k e
theorem Dk.Stand.keep {W W' : World} {d b : Nat} {m : Dk.M} {L : List Dk.X} (h : Dk.Stand W d b m L) (hk : ∀ k, Dk.foot d b L k → W'.heap[k]? = W.heap[k]?) : Dk.Stand W' d b m L := by
  refine ⟨(hk d (.inl rfl)).trans h.disk, ?_, h.fs, fun x hx => ⟨(hk x.blk (.inr (.inr ⟨x, hx, .inl rfl⟩))).trans (h.file x hx).1, (h.file x hx).2.keep fun k e => hk k (.inr (.inr ⟨x, hx, .inr e⟩))⟩, h.apart⟩
  obtain ⟨es, clock, hb, r⟩ := h.map
  exact ⟨es, clock, (hk b (.inr (.inl rfl))).trans hb, r⟩
theorem Dk.Stand.later {W W' : World} {d b : Nat} {m : Dk.M} {L : List Dk.X} (h : Dk.Stand W d b m L) {B : Nat} (hB : Below B W W') (hs : W.heap.size ≤ B) : Dk.Stand W' d b m L :=
  h.keep fun k hk => hB.block k (Nat.lt_of_lt_of_le (h.lt hk) hs)
theorem Dk.Stand.eight {W : World} {d b : Nat} {m : Dk.M} {L : List Dk.X} (h : Dk.Stand W d b m L) :
    W.cell? ⟨d, 0, none⟩ = some (.map (some b)) ∧ W.cell? ⟨d, 1, none⟩ = some (.int .i64 m.cap) ∧ W.cell? ⟨d, 2, none⟩ = some (.int .i64 (Dk.used m.files)) ∧ W.cell? ⟨d, 3, none⟩ = some (.int .i64 m.age) ∧ W.cell? ⟨d, 4, none⟩ = some (.int .i64 m.writes) ∧ W.cell? ⟨d, 5, none⟩ = some (.bool m.off) ∧ W.cell? ⟨d, 6, none⟩ = some (.int .i64 m.left) ∧ W.cell? ⟨d, 7, none⟩ = some (.bool m.done) :=
  ⟨h.disk.cell 0, h.disk.cell 1, h.disk.cell 2, h.disk.cell 3, h.disk.cell 4, h.disk.cell 5, h.disk.cell 6, h.disk.cell 7⟩
theorem Dk.Stand.names {W : World} {d b : Nat} {m : Dk.M} {L : List Dk.X} (h : Dk.Stand W d b m L) : L.map Dk.X.nm = m.files.map Dk.F.name := by
  rw [← h.fs, List.map_map]; rfl
/-- Where a name's file lies. -/
def Dk.ptr : Option Dk.X → Value
  | some x => .pointer (some ⟨x.blk, 0, none⟩)
  | none => .pointer none
theorem Dk.zero_ptr (w : World) : (zeroValue 87).run Tryz.prog w = .ok (.pointer none) w := by
  have h : (Tryz.prog.info? 87).map (fun i => i.zero) = some (some (.pointer none)) := by kernel_rfl
  cases hi : Tryz.prog.info? 87 with
  | none => rw [hi] at h; cases h
  | some i =>
    rw [hi] at h
    simp at h
    simp [zeroValue, typeInfo, hi, h]
/-- A name, looked up. -/
theorem Dk.Stand.run_look {W : World} {d b : Nat} {m : Dk.M} {L : List Dk.X} (h : Dk.Stand W d b m L) (s : ByteArray) (hs : s.size ≤ maxLen) :
    (Instr.lookup 42 (.map (some b)) (.string s) true).run Tryz.prog W = .ok (.tuple #[Dk.ptr (Dk.get Dk.X.nm s.data.toList L), .bool (Dk.get Dk.X.nm s.data.toList L).isSome]) W := by
  have hkey : keyOf Tryz.prog 9 (.string s) = some (.string s.data.toList) := by
    simp [keyOf, Tryz.underlying9, mapKey, hs]
  obtain ⟨v, ps, hrun, hv⟩ := h.map.look_ok Dk.strKeyed Tryz.underlying42 (Dk.zero_ptr W) Dk.R_nil hkey
  rw [hrun, Dk.dat_has]
  rw [Dk.dat_at] at hv
  cases hg : Dk.get Dk.X.nm s.data.toList L with
  | some x =>
    rw [hg] at hv
    rw [Dk.R_lit hv]
    rfl
  | none =>
    rw [hg] at hv
    obtain ⟨c, rfl⟩ := Dk.R_inv hv
    cases c with
    | none => rfl
    | some a => simp [Dk.R] at hv
/-- What look answers. -/
def Dk.code (m : Dk.M) (nm : List UInt8) : Int :=
  if m.off = true then 45 else if Dk.named nm = true then (if (Dk.get Dk.F.name nm m.files).isSome = true then 0 else 42) else 40
def Dk.found (m : Dk.M) (L : List Dk.X) (nm : List UInt8) : Option Dk.X := if Dk.code m nm = 0 then Dk.get Dk.X.nm nm L else none
theorem Dk.Stand.get {W : World} {d b : Nat} {m : Dk.M} {L : List Dk.X} (h : Dk.Stand W d b m L) (nm : List UInt8) : (Dk.get Dk.X.nm nm L).map (fun x => x.f) = Dk.get Dk.F.name nm m.files := by
  unfold Dk.get
  rw [← h.fs, List.find?_map]; rfl

set_option maxRecDepth 100000 in
theorem Dk.look_any {W : World} {d b : Nat} {m : Dk.M} {L : List Dk.X} (h : Dk.Stand W d b m L) (s : ByteArray) (hs : s.size ≤ 9223372036854775807) :
    Calls Tryz.prog 61 #[.pointer (some ⟨d, 0, none⟩), .string s] W fun e W' => e = .returned (.tuple #[Dk.ptr (Dk.found m L s.data.toList), .int .i64 (Dk.code m s.data.toList)]) ∧ W = W' := by
  obtain ⟨c0, c1, c2, c3, c4, c5, c6, c7⟩ := h.eight
  obtain ⟨e, he⟩ : ∃ e, Dk.code m s.data.toList = e := ⟨_, rfl⟩
  obtain ⟨x, hx⟩ : ∃ x, Dk.found m L s.data.toList = x := ⟨_, rfl⟩
  rw [he, hx]
  have hr := h.run_look s (by unfold maxLen; omega)
  have hg := h.get s.data.toList
  obtain ⟨y, hy⟩ : ∃ y, Dk.get Dk.X.nm s.data.toList L = y := ⟨_, rfl⟩
  rw [hy] at hr hg
  have hcall : ∀ W, Calls Tryz.prog 93 #[.string s] W fun e W' => e = .returned (.bool (Dk.named s.data.toList)) ∧ W = W' := fun W => Dk.isName_any s hs _ rfl W
  unfold Dk.found at hx
  rw [he, hy] at hx
  unfold Dk.code at he
  rw [← hg] at he
  cases ho : m.off with
  | true =>
    rw [ho, if_pos rfl] at he
    subst he
    rw [if_neg (by decide)] at hx
    subst hx
    rw [ho] at c5
    clear hr hg hy hcall
    go_enter Tryz.func61, Tryz.ntmps61
    go_wp2_with fail
    go_ret2
    exact ⟨rfl, rfl⟩
  | false =>
    rw [ho, if_neg (by decide)] at he
    rw [ho] at c5
    cases hq : Dk.named s.data.toList with
    | false =>
      rw [hq] at hcall he
      rw [if_neg (by decide)] at he
      subst he
      rw [if_neg (by decide)] at hx
      subst hx
      clear hr hg hy hq
      go_enter Tryz.func61, Tryz.ntmps61
      go_wp2_with (go_at_call 93; refine (hcall _).mono ?_; rintro e w' ⟨rfl, rfl⟩)
      go_ret2
      exact ⟨rfl, rfl⟩
    | true =>
      rw [hq] at hcall he
      rw [if_pos rfl] at he
      cases y with
      | none =>
        rw [if_neg (by decide)] at he
        subst he
        rw [if_neg (by decide)] at hx
        subst hx
        clear hg hy hq
        go_enter Tryz.func61, Tryz.ntmps61
        go_wp2_with (go_at_call 93; refine (hcall _).mono ?_; rintro e w' ⟨rfl, rfl⟩)
        go_ret2
        exact ⟨rfl, rfl⟩
      | some y =>
        rw [Option.map_some, if_pos (by rfl)] at he
        subst he
        rw [if_pos rfl] at hx
        subst hx
        clear hg hy hq
        go_enter Tryz.func61, Tryz.ntmps61
        go_wp2_with (go_at_call 93; refine (hcall _).mono ?_; rintro e w' ⟨rfl, rfl⟩)
        go_ret2
        exact ⟨rfl, rfl⟩
end Go.Proofs.YtifkhjihgnnpfaaGreatDoor
/- Disks in memory (the program's): what a call may have changed; a new disk, and what one tells of itself. Conditions: each theorem's own hypotheses. -/
namespace Go.Proofs.YtifkhjihgnnpfaaGreatDoor
open Go.RowKit Go.Maps Go.Sort
set_option linter.unusedVariables false

/-- Of what was there, at most these blocks have changed. -/
structure Dk.Only (F : Nat → Prop) (w w' : World) : Prop where
  os : w'.os = w.os
  tape : w'.tape = w.tape
  output : w'.output = w.output
  size : w.heap.size ≤ w'.heap.size
  block : ∀ k, k < w.heap.size → ¬ F k → w'.heap[k]? = w.heap[k]?
theorem Dk.Only.refl (F : Nat → Prop) (w : World) : Dk.Only F w w := ⟨rfl, rfl, rfl, Nat.le_refl _, fun _ _ _ => rfl⟩
theorem Dk.Only.trans {F : Nat → Prop} {a b c : World} (h : Dk.Only F a b) (k : Dk.Only F b c) : Dk.Only F a c :=
  ⟨k.os.trans h.os, k.tape.trans h.tape, k.output.trans h.output, Nat.le_trans h.size k.size, fun i hi hf => (k.block i (Nat.lt_of_lt_of_le hi h.size) hf).trans (h.block i hi hf)⟩
theorem Dk.Only.of {F : Nat → Prop} {w w' : World} (h : Below w.heap.size w w') : Dk.Only F w w' := ⟨h.os, h.tape, h.output, h.size, fun k hk _ => h.block k hk⟩
theorem Dk.Only.wide {F G : Nat → Prop} {w w' : World} (h : Dk.Only F w w') (hi : ∀ k, k < w.heap.size → F k → G k) : Dk.Only G w w' := ⟨h.os, h.tape, h.output, h.size, fun k hk hg => h.block k hk fun hf => hg (hi k hk hf)⟩
theorem Dk.Only.below {F : Nat → Prop} {B : Nat} {w w' : World} (h : Dk.Only F w w') (hB : B ≤ w.heap.size) (hF : ∀ k, F k → B ≤ k) : Below B w w' := ⟨h.os, h.tape, h.output, h.size, fun k hk => h.block k (by omega) fun hf => by have := hF k hf; omega⟩
theorem Dk.Only.alloc {F : Nat → Prop} {a w : World} (h : Dk.Only F a w) (o : Obj) : Dk.Only F a (w.alloc o) := h.trans (.of ((Below.refl _ _).alloc (Nat.le_refl _) o))
theorem Dk.Only.drew {F : Nat → Prop} {a w : World} (h : Dk.Only F a w) : Dk.Only F a w.drew := h.trans (.of (Below.refl _ _).drew)
theorem Dk.Only.setCell {F : Nat → Prop} {a w : World} (h : Dk.Only F a w) {p : Addr} (hp : F p.block ∨ a.heap.size ≤ p.block) (u : Value) : Dk.Only F a (w.setCell p u) :=
  ⟨h.os, h.tape, h.output, by simp only [World.setCell, Array.size_modify]; exact h.size, fun k hk hf => (Below.heap_setCell w p u k (fun e => by subst e; rcases hp with hp | hp; exact hf hp; omega)).trans (h.block k hk hf)⟩
theorem Dk.Only.grown {F : Nat → Prop} {a w w' : World} {row : Option Nat} (h : Dk.Only F a w) (hg : w.grownBy w' row) (hr : ∀ k, row = some k → F k ∨ a.heap.size ≤ k) : Dk.Only F a w' :=
  ⟨hg.os.trans h.os, hg.tape.trans h.tape, hg.output.trans h.output, Nat.le_trans h.size hg.size, fun k hk hf => (hg.block k (Nat.lt_of_lt_of_le hk h.size) (fun e => by rcases hr k e.symm with hp | hp; exact hf hp; omega)).trans (h.block k hk hf)⟩

/-- A disk of the program stands at d; its blocks are these. -/
def Dk.At (W : World) (d : Nat) (m : Dk.M) (F : Nat → Prop) : Prop := ∃ b L, Dk.Stand W d b m L ∧ F = Dk.foot d b L
/-- .. and so it has become, and nothing else has changed. -/
def Dk.Moved (W W' : World) (d : Nat) (F : Nat → Prop) (m' : Dk.M) : Prop := ∃ F', Dk.At W' d m' F' ∧ Dk.Only F W W' ∧ ∀ k, F' k → F k ∨ W.heap.size ≤ k
theorem Dk.At.lt {W : World} {d : Nat} {m : Dk.M} {F : Nat → Prop} (h : Dk.At W d m F) {k : Nat} (hk : F k) : k < W.heap.size := by
  obtain ⟨b, L, hS, rfl⟩ := h
  exact hS.lt hk
theorem Dk.At.self {W : World} {d : Nat} {m : Dk.M} {F : Nat → Prop} (h : Dk.At W d m F) : F d := by
  obtain ⟨b, L, hS, rfl⟩ := h
  exact .inl rfl
theorem Dk.At.keep {W W' : World} {d : Nat} {m : Dk.M} {F : Nat → Prop} (h : Dk.At W d m F) (hk : ∀ k, F k → W'.heap[k]? = W.heap[k]?) : Dk.At W' d m F := by
  obtain ⟨b, L, hS, rfl⟩ := h
  exact ⟨b, L, hS.keep hk, rfl⟩
theorem Dk.At.later {W W' : World} {d : Nat} {m : Dk.M} {F : Nat → Prop} (h : Dk.At W d m F) {B : Nat} (hB : Below B W W') (hs : W.heap.size ≤ B) : Dk.At W' d m F :=
  h.keep fun k hk => hB.block k (Nat.lt_of_lt_of_le (h.lt hk) hs)
theorem Dk.At.apart {W W' : World} {d : Nat} {m : Dk.M} {F G : Nat → Prop} (h : Dk.At W d m F) (ho : Dk.Only G W W') (hG : ∀ k, F k → ¬ G k) : Dk.At W' d m F :=
  h.keep fun k hk => ho.block k (h.lt hk) (hG k hk)
theorem Dk.Moved.trans {A B C : World} {d : Nat} {F F' : Nat → Prop} {m' m'' : Dk.M} (hA : Dk.At B d m' F') (ho : Dk.Only F A B) (hf : ∀ k, F' k → F k ∨ A.heap.size ≤ k) (h : Dk.Moved B C d F' m'') : Dk.Moved A C d F m'' := by
  obtain ⟨G, h1, h2, h3⟩ := h
  refine ⟨G, h1, ⟨h2.os.trans ho.os, h2.tape.trans ho.tape, h2.output.trans ho.output, Nat.le_trans ho.size h2.size, fun k hk hn => ?_⟩, fun k hk => ?_⟩
  · refine (h2.block k (Nat.lt_of_lt_of_le hk ho.size) fun hF => ?_).trans (ho.block k hk hn)
    rcases hf k hF with h | h
    · exact hn h
    · omega
  · rcases h3 k hk with h | h
    · exact hf k h
    · exact .inr (Nat.le_trans ho.size h)

/-- An empty disk. -/
def Dk.fresh (n : Nat) : Dk.M := ⟨[], n, 0, 0, false, 0, false⟩
theorem Dk.fresh_good (n : Nat) (h : n ≤ 1073741824) : Dk.Good (Dk.fresh n) := ⟨List.Pairwise.nil, fun f hf => (List.not_mem_nil hf).elim, by show 0 ≤ 4096; decide, h, Nat.zero_le _, by show 0 ≤ 9223372036854775807; decide⟩

set_option maxRecDepth 100000 in
theorem Dk.new_none (n : Int) (hn : n < 0 ∨ 1073741824 < n) (w : World) :
    Calls Tryz.prog 4 #[.int .i64 n] w fun e w' => e = .returned (.pointer none) ∧ w = w' := by
  by_cases h : n < 0
  · have u1 : decide (n < 0) = true := decide_eq_true h
    go_enter Tryz.func4, Tryz.ntmps4
    go_wp2_with fail
    go_ret
    exact ⟨rfl, rfl⟩
  · have u1 : decide (n < 0) = false := decide_eq_false h
    have u2 : decide (1073741824 < n) = true := decide_eq_true (by omega)
    go_enter Tryz.func4, Tryz.ntmps4
    go_wp2_with fail
    go_ret
    exact ⟨rfl, rfl⟩
set_option maxRecDepth 100000 in
theorem Dk.new_any (n : Nat) (hn : n ≤ 1073741824) (w : World) :
    Calls Tryz.prog 4 #[.int .i64 n] w fun e w' => ∃ d F, e = .returned (.pointer (some ⟨d, 0, none⟩)) ∧ Dk.At w' d (Dk.fresh n) F ∧ Below w.heap.size w w' ∧ ∀ k, F k → w.heap.size ≤ k := by
  have hmm := @run_makeMap Tryz.prog
  have u1 : decide ((n : Int) < 0) = false := decide_eq_false (by omega)
  have u2 : decide (1073741824 < (n : Int)) = false := decide_eq_false (by omega)
  go_enter Tryz.func4, Tryz.ntmps4
  go_wp2_with fail
  go_ret
  refine ⟨_, _, rfl, ⟨w.heap.size, [], ⟨?_, ?_, rfl, fun x hx => (List.not_mem_nil hx).elim, List.Pairwise.nil⟩, rfl⟩, ((Below.refl _ _).alloc (Nat.le_refl _) _).alloc (by simp) _, ?_⟩
  · have := Blk.new (w.alloc (.map #[] 0)) 44 (Dk.cells w.heap.size (Dk.fresh n))
    rw [World.size_alloc] at this
    exact this
  · obtain ⟨es, clock, hb, r⟩ := World.ownsMap_made (H := Unit) w Tryz.prog 9 Dk.R
    exact ⟨es, clock, (Below.heap_alloc _ _ _ (by simp)).trans hb, r⟩
  · rintro k (rfl | rfl | ⟨x, hx, _⟩)
    · simp
    · exact Nat.le_refl _
    · exact (List.not_mem_nil hx).elim

section
variable {W : World} {d : Nat} {m : Dk.M} {F : Nat → Prop}
theorem Dk.used_any (h : Dk.At W d m F) : Calls Tryz.prog 13 #[.pointer (some ⟨d, 0, none⟩)] W fun e W' => e = .returned (.int .i64 (Dk.used m.files)) ∧ W = W' := by
  obtain ⟨b, L, hS, rfl⟩ := h
  obtain ⟨c0, c1, c2, c3, c4, c5, c6, c7⟩ := hS.eight
  go_enter Tryz.func13, Tryz.ntmps13
  go_wp2_with fail
  go_ret
  exact ⟨rfl, rfl⟩
theorem Dk.age_any (h : Dk.At W d m F) : Calls Tryz.prog 81 #[.pointer (some ⟨d, 0, none⟩)] W fun e W' => e = .returned (.int .i64 m.age) ∧ W = W' := by
  obtain ⟨b, L, hS, rfl⟩ := h
  obtain ⟨c0, c1, c2, c3, c4, c5, c6, c7⟩ := hS.eight
  go_enter Tryz.func81, Tryz.ntmps81
  go_wp2_with fail
  go_ret
  exact ⟨rfl, rfl⟩
theorem Dk.writes_any (h : Dk.At W d m F) : Calls Tryz.prog 15 #[.pointer (some ⟨d, 0, none⟩)] W fun e W' => e = .returned (.int .i64 m.writes) ∧ W = W' := by
  obtain ⟨b, L, hS, rfl⟩ := h
  obtain ⟨c0, c1, c2, c3, c4, c5, c6, c7⟩ := hS.eight
  go_enter Tryz.func15, Tryz.ntmps15
  go_wp2_with fail
  go_ret
  exact ⟨rfl, rfl⟩
theorem Dk.down_any (h : Dk.At W d m F) : Calls Tryz.prog 17 #[.pointer (some ⟨d, 0, none⟩)] W fun e W' => e = .returned (.bool m.off) ∧ W = W' := by
  obtain ⟨b, L, hS, rfl⟩ := h
  obtain ⟨c0, c1, c2, c3, c4, c5, c6, c7⟩ := hS.eight
  go_enter Tryz.func17, Tryz.ntmps17
  go_wp2_with fail
  go_ret
  exact ⟨rfl, rfl⟩
end
end Go.Proofs.YtifkhjihgnnpfaaGreatDoor
/- Disks in memory (the program's): sizes, bytes, names, and what is armed. Conditions: each theorem's own hypotheses. -/
namespace Go.Proofs.YtifkhjihgnnpfaaGreatDoor
open Go.RowKit Go.Maps Go.Sort
set_option linter.unusedVariables false

/-- What a look finds. -/
theorem Dk.look_cases {W : World} {d b : Nat} {m : Dk.M} {L : List Dk.X} (h : Dk.Stand W d b m L) (nm : List UInt8) :
    (Dk.code m nm ≠ 0 ∧ Dk.found m L nm = none) ∨
    (Dk.code m nm = 0 ∧ m.off = false ∧ Dk.named nm = true ∧ ∃ x, Dk.found m L nm = some x ∧ Dk.get Dk.X.nm nm L = some x ∧ x ∈ L ∧ x.nm = nm ∧ Dk.get Dk.F.name nm m.files = some x.f) := by
  by_cases hc : Dk.code m nm = 0
  · refine .inr ⟨hc, ?_⟩
    have hg := h.get nm
    unfold Dk.found
    rw [if_pos hc]
    unfold Dk.code at hc
    cases ho : m.off with
    | true => rw [ho, if_pos rfl] at hc; cases hc
    | false =>
      rw [ho, if_neg (by decide)] at hc
      cases hn : Dk.named nm with
      | false => rw [hn, if_neg (by decide)] at hc; cases hc
      | true =>
        rw [hn, if_pos rfl, ← hg] at hc
        cases hx : Dk.get Dk.X.nm nm L with
        | none => rw [hx] at hc; cases hc
        | some x =>
          rw [hx] at hg
          obtain ⟨h1, h2⟩ := Dk.get_mem hx
          exact ⟨rfl, rfl, x, rfl, rfl, h1, h2, hg.symm⟩
  · refine .inl ⟨hc, ?_⟩
    unfold Dk.found
    rw [if_neg hc]
/-- A file's cells. -/
theorem Dk.Stand.two {W : World} {d b : Nat} {m : Dk.M} {L : List Dk.X} (h : Dk.Stand W d b m L) {x : Dk.X} (hx : x ∈ L) :
    W.cell? ⟨x.blk, 0, none⟩ = some x.v ∧ W.cell? ⟨x.blk, 1, none⟩ = some (.int .i64 x.f.sure) := ⟨(h.file x hx).1.cell 0, (h.file x hx).1.cell 1⟩
/-- A slice of bytes is nil or has a row. -/
theorem Dk.Row.form {W : World} {v : Value} {l : List UInt8} (h : Dk.Row W v l) : (v = .slice none 0 0 ∧ l = []) ∨ ∃ g cap, v = .slice (some ⟨g, 0, none⟩) l.length cap ∧ l.length ≤ cap ∧ cap ≤ maxLen := by
  rcases h with h | ⟨g, cap, cur, fz, rfl, _, _, h1, h2, _⟩
  · exact .inl h
  · exact .inr ⟨g, cap, rfl, h1, h2⟩
/-- A part of it as a string. -/
theorem Dk.Row.conv {W : World} {g cap : Nat} {l : List UInt8} {n : Nat} (h : Dk.Row W (.slice (some ⟨g, 0, none⟩) n cap) l) (a k c : Nat) (hk : a + k ≤ l.length) :
    (convert 84 9 (.slice (some ⟨g, a, none⟩) k c)).run Tryz.prog W = .ok (Tx.v ((l.drop a).take k)) W := by
  have hl : ((l.drop a).take k).length = k := by rw [List.length_take, List.length_drop]; omega
  have h2 := run_convert_bytes_back W 84 9 5 ⟨g, a, none⟩ c ((l.drop a).take k) Tryz.underlying84 Tryz.underlying5 Tryz.underlying9 (fun j hj => by
    rw [show (⟨g, a, none⟩ : Addr).add j = ⟨g, a + j, none⟩ from by unfold Addr.add; split <;> simp_all]
    have h3 : l[a + j]? = ((l.drop a).take k)[j]? := by rw [List.getElem?_take, if_pos (by omega), List.getElem?_drop]
    rw [h.cells.2 (a + j) (((l.drop a).take k)[j]) (by rw [h3, List.getElem?_eq_getElem])])
  rw [hl] at h2
  exact h2
theorem Dk.conv_nil (W : World) : (convert 84 9 (.slice none 0 0)).run Tryz.prog W = .ok (Tx.v []) W :=
  run_convert_bytes_nil (w := W) 84 5 Tryz.underlying84 Tryz.underlying5 0 0 9 Tryz.underlying9

/-- A file's bytes. -/
def Dk.data (m : Dk.M) (nm : List UInt8) : List UInt8 := ((Dk.get Dk.F.name nm m.files).map Dk.F.data).getD []
/-- What Size answers. -/
def Dk.sizeV (m : Dk.M) (nm : List UInt8) : Value :=
  if Dk.code m nm = 0 then .tuple #[.int .i64 (Dk.data m nm).length, .int .i64 0] else .tuple #[.int .i64 0, .int .i64 (Dk.code m nm)]
/-- What Read answers. -/
def Dk.readV (m : Dk.M) (nm : List UInt8) (i n : Int) : Value :=
  if Dk.code m nm = 0 then
    if i < 0 ∨ n < 0 ∨ (Dk.data m nm).length < n ∨ (Dk.data m nm).length - n < i then .tuple #[Tx.v [], .int .i64 13]
    else .tuple #[Tx.v (((Dk.data m nm).drop i.toNat).take n.toNat), .int .i64 0]
  else .tuple #[Tx.v [], .int .i64 (Dk.code m nm)]
section
variable {W : World} {d : Nat} {m : Dk.M} {F : Nat → Prop}
set_option maxRecDepth 100000 in
theorem Dk.size_any (h : Dk.At W d m F) (s : ByteArray) (hs : s.size ≤ 9223372036854775807) :
    Calls Tryz.prog 51 #[.pointer (some ⟨d, 0, none⟩), .string s] W fun e W' => e = .returned (Dk.sizeV m s.data.toList) ∧ W = W' := by
  obtain ⟨b, L, hS, rfl⟩ := h
  have hcall := Dk.look_any hS s hs
  unfold Dk.sizeV
  rcases Dk.look_cases hS s.data.toList with ⟨h1, h2⟩ | ⟨h1, h2, h3, x, h4, h5, h6, h7, h8⟩
  · rw [h2] at hcall
    rw [if_neg h1]
    obtain ⟨c, hc⟩ : ∃ c, Dk.code m s.data.toList = c := ⟨_, rfl⟩
    rw [hc] at hcall h1 ⊢
    have u1 : (c != 0) = true := by rw [bne_iff_ne]; exact h1
    clear hc
    go_enter Tryz.func51, Tryz.ntmps51
    go_wp2_with (go_at_call 61; refine hcall.mono ?_; rintro e w' ⟨rfl, rfl⟩)
    go_ret2
    exact ⟨rfl, rfl⟩
  · rw [h4, h1] at hcall
    obtain ⟨q1, q2⟩ := hS.two h6
    obtain ⟨n, hn⟩ : ∃ n, (Dk.data m s.data.toList).length = n := ⟨_, rfl⟩
    have hd : Dk.data m s.data.toList = x.f.data := by unfold Dk.data; rw [h8]; rfl
    rw [if_pos h1, hn]
    rw [hd] at hn
    have hlen : ∃ a c, x.v = .slice a n c := by
      rcases (hS.file x h6).2.form with ⟨e1, e2⟩ | ⟨g, cap, e1, _⟩
      · rw [e2] at hn
        subst hn
        exact ⟨_, _, e1⟩
      · exact ⟨_, _, by rw [e1, hn]⟩
    obtain ⟨a, c, hv⟩ := hlen
    rw [hv] at q1
    unfold Dk.ptr at hcall
    simp only at hcall
    clear h1 h2 h3 h4 h5 h7 h8 hd hn hv q2
    go_enter Tryz.func51, Tryz.ntmps51
    go_wp2_with (go_at_call 61; refine hcall.mono ?_; rintro e w' ⟨rfl, rfl⟩)
    go_ret2
    exact ⟨rfl, rfl⟩
set_option maxRecDepth 100000 in
set_option maxHeartbeats 1000000 in
theorem Dk.read_any (h : Dk.At W d m F) (hG : Dk.Good m) (s : ByteArray) (hs : s.size ≤ 9223372036854775807) (i n : Int) (hi : -9223372036854775808 ≤ i ∧ i < 9223372036854775808) (hn : -9223372036854775808 ≤ n ∧ n < 9223372036854775808) :
    Calls Tryz.prog 86 #[.pointer (some ⟨d, 0, none⟩), .string s, .int .i64 i, .int .i64 n] W fun e W' => e = .returned (Dk.readV m s.data.toList i n) ∧ W = W' := by
  obtain ⟨b, L, hS, rfl⟩ := h
  have hcall := Dk.look_any hS s hs
  unfold Dk.readV
  rcases Dk.look_cases hS s.data.toList with ⟨h1, h2⟩ | ⟨h1, h2, h3, x, h4, h5, h6, h7, h8⟩
  · rw [h2] at hcall
    rw [if_neg h1]
    obtain ⟨c, hc⟩ : ∃ c, Dk.code m s.data.toList = c := ⟨_, rfl⟩
    rw [hc] at hcall h1 ⊢
    have u1 : (c != 0) = true := by rw [bne_iff_ne]; exact h1
    clear hc
    go_enter Tryz.func86, Tryz.ntmps86
    go_wp2_with (go_at_call 61; refine hcall.mono ?_; rintro e w' ⟨rfl, rfl⟩)
    go_ret2
    exact ⟨rfl, rfl⟩
  · rw [h4, h1] at hcall
    obtain ⟨q1, q2⟩ := hS.two h6
    have hx : x.f ∈ m.files := by rw [← hS.fs]; exact List.mem_map_of_mem h6
    obtain ⟨_, hx2, _⟩ := hG.file _ hx
    have hR := (hS.file x h6).2
    obtain ⟨l, hl⟩ : ∃ l, x.f.data = l := ⟨_, rfl⟩
    have hd : Dk.data m s.data.toList = l := by unfold Dk.data; rw [h8]; exact hl
    rw [if_pos h1, hd]
    rw [hl] at hR hx2
    obtain ⟨k, hk⟩ : ∃ k, l.length = k := ⟨_, rfl⟩
    rw [hk]
    unfold Dk.ptr at hcall
    simp only at hcall
    obtain ⟨v, hv⟩ : ∃ v, x.v = v := ⟨_, rfl⟩
    rw [hv] at hR q1
    clear h1 h2 h3 h4 h5 h7 h8 hd hx hl hv q2
    by_cases g1 : i < 0
    · rw [if_pos (.inl g1)]
      have u1 : decide (i < 0) = true := decide_eq_true g1
      go_enter Tryz.func86, Tryz.ntmps86
      go_wp2_with (go_at_call 61; refine hcall.mono ?_; rintro e w' ⟨rfl, rfl⟩)
      go_ret2
      exact ⟨rfl, rfl⟩
    have u1 : decide (i < 0) = false := decide_eq_false g1
    by_cases g2 : n < 0
    · rw [if_pos (.inr (.inl g2))]
      have u2 : decide (n < 0) = true := decide_eq_true g2
      go_enter Tryz.func86, Tryz.ntmps86
      go_wp2_with (go_at_call 61; refine hcall.mono ?_; rintro e w' ⟨rfl, rfl⟩)
      go_ret2
      exact ⟨rfl, rfl⟩
    have u2 : decide (n < 0) = false := decide_eq_false g2
    obtain ⟨i, rfl⟩ := Int.eq_ofNat_of_zero_le (Int.not_lt.1 g1)
    obtain ⟨n, rfl⟩ := Int.eq_ofNat_of_zero_le (Int.not_lt.1 g2)
    have hv : ∃ a c, v = .slice a k c := by
      rcases hR.form with ⟨e1, e2⟩ | ⟨g, cap, e1, _⟩
      · rw [e2] at hk
        subst hk
        exact ⟨_, _, e1⟩
      · exact ⟨_, _, by rw [e1, hk]⟩
    by_cases g3 : (k : Int) < n
    · rw [if_pos (.inr (.inr (.inl g3)))]
      have u3 : decide (k < n) = true := decide_eq_true (by omega)
      obtain ⟨a, c, hv⟩ := hv
      rw [hv] at q1
      go_enter Tryz.func86, Tryz.ntmps86
      go_wp2_with (go_at_call 61; refine hcall.mono ?_; rintro e w' ⟨rfl, rfl⟩)
      go_ret2
      exact ⟨rfl, rfl⟩
    have u3 : decide (k < n) = false := decide_eq_false (by omega)
    obtain ⟨r, hr⟩ : ∃ r, r = k - n := ⟨_, rfl⟩
    have w1 : IntKind.i64.wrap ((k : Int) - (n : Int)) = (r : Int) := (IntWalk.i64_in _ (by omega)).trans (by omega)
    by_cases g4 : (k : Int) - n < i
    · rw [if_pos (.inr (.inr (.inr g4)))]
      have u4 : decide (r < i) = true := decide_eq_true (by omega)
      obtain ⟨a, c, hv⟩ := hv
      rw [hv] at q1
      clear hr g3 g4
      go_enter Tryz.func86, Tryz.ntmps86
      go_wp2_with (go_at_call 61; refine hcall.mono ?_; rintro e w' ⟨rfl, rfl⟩)
      go_ret2
      exact ⟨rfl, rfl⟩
    have u4 : decide (r < i) = false := decide_eq_false (by omega)
    rw [if_neg (by omega)]
    obtain ⟨j, hj⟩ : ∃ j, j = i + n := ⟨_, rfl⟩
    have w2 : IntKind.i64.wrap ((i : Int) + (n : Int)) = (j : Int) := (IntWalk.i64_in _ (by omega)).trans (by omega)
    rw [Int.toNat_natCast, Int.toNat_natCast]
    rcases hR.form with ⟨rfl, rfl⟩ | ⟨g, cap, rfl, hc1, hc2⟩
    · have hk0 : k = 0 := hk.symm
      subst hk0
      obtain rfl : n = 0 := by omega
      obtain rfl : i = 0 := by omega
      obtain rfl : j = 0 := by omega
      have hcv := Dk.conv_nil W
      clear hk hr g1 g2 g3 g4 hj
      go_enter Tryz.func86, Tryz.ntmps86
      go_wp2_with (go_at_call 61; refine hcall.mono ?_; rintro e w' ⟨rfl, rfl⟩)
      go_ret2
      exact ⟨rfl, rfl⟩
    · rw [hk] at q1
      have s1 : (i : Int) ≤ (j : Int) := by omega
      have s2 : (j : Int) ≤ (cap : Int) := by omega
      have s3 : j - i = n := by omega
      have HK := Lib.hid hk
      by_cases hci : cap = i
      · have hcv := hR.conv 0 n 0 (by omega)
        rw [show (l.drop 0).take n = (l.drop i).take n from by rw [show n = 0 from by omega, List.take_zero, List.take_zero]] at hcv
        clear hk hr g1 g2 g3 g4 hj hx2 hc1
        go_enter Tryz.func86, Tryz.ntmps86
        go_wp2_with (go_at_call 61; refine hcall.mono ?_; rintro e w' ⟨rfl, rfl⟩)
        go_ret2
        exact ⟨rfl, rfl⟩
      · have hcv := hR.conv i n (cap - i) (by omega)
        clear hk hr g1 g2 g3 g4 hj hx2 hc1
        go_enter Tryz.func86, Tryz.ntmps86
        go_wp2_with (go_at_call 61; refine hcall.mono ?_; rintro e w' ⟨rfl, rfl⟩)
        go_ret2
        exact ⟨rfl, rfl⟩
end
end Go.Proofs.YtifkhjihgnnpfaaGreatDoor
/- Disks in memory (the program's): names, arming. Conditions: each theorem's own hypotheses. -/
namespace Go.Proofs.YtifkhjihgnnpfaaGreatDoor
open Go.RowKit Go.Maps Go.Sort
set_option linter.unusedVariables false

/-- The names that a disk tells. -/
def Dk.told (m : Dk.M) : List (List UInt8) := if m.off = true then [] else m.files.map Dk.F.name
section
variable {W : World} {d : Nat} {m : Dk.M} {F : Nat → Prop}
/-- names, sorted. -/
theorem Dk.names_of (h : Dk.At W d m F) (hG : Dk.Good m) :
    Calls Tryz.prog 45 #[.pointer (some ⟨d, 0, none⟩)] W fun e W' => ∃ v, e = .returned v ∧
      W'.ownsRow W.heap.size 9 1 v m.files.length ((m.files.map Dk.F.name).map encStr) ∧ Below W.heap.size W W' := by
  obtain ⟨b, L, hS, rfl⟩ := h
  have hlen : L.length = m.files.length := by rw [← hS.fs, List.length_map]
  refine (Dk.names_any d b L.length (Dk.dat L) W hS.eight.1 hS.map (by rw [Dk.dat_size, hlen]; exact hG.many)).mono ?_
  rintro e W' ⟨v, ss, rfl, hp, hr, hB⟩
  rw [Dk.dat_keys, hS.names] at hp
  have hs := Dk.names_sort (by have h := hG.up; unfold Dk.Up at h; exact List.pairwise_map.2 h) hp
  have hl : ss.length = m.files.length := by rw [hp.length_eq, List.length_map]
  rw [hs, hl] at hr
  exact ⟨v, rfl, hr, hB⟩
/-- Behind an arming. -/
def Dk.arm (m : Dk.M) (n : Int) (done : Bool) : Dk.M := if m.off = true then m else { m with left := n.toNat, done := done }
theorem Dk.arm_good (hG : Dk.Good m) (n : Int) (hn : n < 9223372036854775808) (done : Bool) : Dk.Good (Dk.arm m n done) := by
  unfold Dk.arm
  split
  · exact hG
  · exact ⟨hG.up, hG.file, hG.many, hG.cap, hG.used, by show n.toNat ≤ _; omega⟩
/-- A cell of the disk's block is written over. -/
theorem Dk.Stand.set {b : Nat} {L : List Dk.X} (h : Dk.Stand W d b m L) (hf : ∀ k, (k = b ∨ ∃ x ∈ L, x.blk = k ∨ x.v.ownBlock = some k) → k ≠ d) (i : Nat) (u : Value) (m' : Dk.M) (hc : (Dk.cells b m).setIfInBounds i u = Dk.cells b m') (hm : m'.files = m.files) : Dk.Stand (W.setCell ⟨d, i, none⟩ u) d b m' L := by
  have ho : ∀ k, k ≠ d → (W.setCell ⟨d, i, none⟩ u).heap[k]? = W.heap[k]? := fun k hk => Below.heap_setCell W ⟨d, i, none⟩ u k hk
  refine ⟨hc ▸ h.disk.set_ i u, ?_, h.fs.trans hm.symm, fun x hx => ⟨(ho x.blk (hf _ (.inr ⟨x, hx, .inl rfl⟩))).trans (h.file x hx).1, (h.file x hx).2.keep fun k e => ho k (hf _ (.inr ⟨x, hx, .inr e⟩))⟩, h.apart⟩
  obtain ⟨es, clock, hb, r⟩ := h.map
  exact ⟨es, clock, (ho b (hf _ (.inl rfl))).trans hb, r⟩
end
theorem Dk.Row.type {W : World} {v : Value} {l : List UInt8} (h : Dk.Row W v l) {k : Nat} (hk : v.ownBlock = some k) : ∃ cur fz, W.heap[k]? = some (.cells cur 5 fz) := by
  rcases h with ⟨rfl, _⟩ | ⟨g, cap, cur, fz, rfl, hg, _⟩
  · cases hk
  · injection hk with hk
    subst hk
    exact ⟨_, _, hg⟩
/-- The disk's block is none of the others. -/
theorem Dk.Stand.lone {W : World} {d b : Nat} {m : Dk.M} {L : List Dk.X} (h : Dk.Stand W d b m L) : ∀ k, (k = b ∨ ∃ x ∈ L, x.blk = k ∨ x.v.ownBlock = some k) → k ≠ d := by
  have hd := h.disk
  unfold Blk at hd
  rintro k (rfl | ⟨x, hx, e | e⟩) rfl
  · obtain ⟨es, clock, hb, _⟩ := h.map
    rw [hd] at hb; cases hb
  · have h2 := (h.file x hx).1
    unfold Blk at h2
    rw [e, hd] at h2
    injection h2 with h2
    injection h2 with _ h2 _
    cases h2
  · obtain ⟨cur, fz, h2⟩ := (h.file x hx).2.type e
    rw [hd] at h2
    injection h2 with h2
    injection h2 with _ h2 _
    cases h2
section
variable {W : World} {d : Nat} {m : Dk.M} {F : Nat → Prop}
set_option maxRecDepth 100000 in
set_option maxHeartbeats 1000000 in
theorem Dk.arm_any (h : Dk.At W d m F) (n : Int) (hn : -9223372036854775808 ≤ n ∧ n < 9223372036854775808) (done : Bool) :
    Calls Tryz.prog 31 #[.pointer (some ⟨d, 0, none⟩), .int .i64 n, .bool done] W fun e W' => e = .returned (.tuple #[]) ∧ Dk.At W' d (Dk.arm m n done) F ∧ Dk.Only F W W' := by
  obtain ⟨b, L, hS, rfl⟩ := h
  obtain ⟨c0, c1, c2, c3, c4, c5, c6, c7⟩ := hS.eight
  unfold Dk.arm
  cases ho : m.off with
  | true =>
    rw [ho] at c5
    rw [if_pos rfl]
    go_enter Tryz.func31, Tryz.ntmps31
    go_wp2_with fail
    go_end0
    exact ⟨rfl, ⟨b, L, hS, rfl⟩, Dk.Only.refl _ _⟩
  | false =>
    rw [ho] at c5
    rw [if_neg (by decide)]
    have f6 := hS.disk.frozen 6
    have f7 := hS.disk.frozen 7
    obtain ⟨q, hq⟩ : ∃ q, n.toNat = q := ⟨_, rfl⟩
    rw [hq]
    have hmx : ∀ ts t (w : World), (Builtin.max_ ts t #[.int .i64 n, .int .i64 0]).run Tryz.prog w = .ok (.int .i64 q) w := by
      intro ts t w
      rw [run_max_int2]
      congr 2
      split <;> omega
    clear hq hn c0 c1 c2 c3 c4
    go_enter Tryz.func31, Tryz.ntmps31
    go_wp2_with fail
    go_end0
    refine ⟨rfl, ⟨b, L, ?_, rfl⟩, ((Dk.Only.refl _ _).setCell (.inl (.inl rfl)) _).setCell (.inl (.inl rfl)) _⟩
    have h1 := hS.set hS.lone 6 (.int .i64 q) { m with left := q } rfl rfl
    have h2 := h1.set h1.lone 7 (.bool done) { m with left := q, done := done } rfl rfl
    rw [ho] at h2
    exact h2
end
end Go.Proofs.YtifkhjihgnnpfaaGreatDoor
