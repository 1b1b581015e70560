/- Disks in memory (the program's). Conditions: each theorem's own hypotheses. -/
import Derived.Test.YtgbeeghdoilmkaaDkE
import Derived.Test.YtgbeeghdoilmkaaDkC
import Derived.Test.YtgbeeghdoilmkaaMem
namespace Go.Proofs.Ytgbeeghdoilmkaa
open Go.RowKit Go.Maps Go.Sort
set_option linter.unusedVariables false

/-- A disk: what it keeps, and its switches. -/
structure Dk.M where
  files : List Dk.F
  cap : Nat
  age : Int
  writes : Int
  off : Bool
  left : Nat
  done : Bool
def Dk.used (l : List Dk.F) : Nat := (l.map fun f => f.data.length).sum
/-- What always holds of one. -/
structure Dk.Good (m : Dk.M) : Prop where
  up : Dk.Up Dk.F.name m.files
  file : ∀ f ∈ m.files, Dk.named f.name = true ∧ f.data.length ≤ 268435456 ∧ f.sure ≤ f.data.length
  many : m.files.length ≤ 4096
  cap : m.cap ≤ 1073741824
  used : Dk.used m.files ≤ m.cap
  left : m.left ≤ 9223372036854775807
def Dk.cells (b : Nat) (m : Dk.M) : Array Value := #[.map (some b), .int .i64 m.cap, .int .i64 (Dk.used m.files), .int .i64 m.age, .int .i64 m.writes, .bool m.off, .int .i64 m.left, .bool m.done]
/-- The program's disk in memory: its block, its map, its files. -/
structure Dk.Stand (W : World) (d b : Nat) (m : Dk.M) (L : List Dk.X) : Prop where
  disk : Blk W d 77 (Dk.cells b m)
  map : W.ownsMap Try.prog 9 Dk.R b L.length (Dk.dat L)
  fs : L.map (fun x => x.f) = m.files
  file : ∀ x ∈ L, Blk W x.blk 83 #[x.v, .int .i64 x.f.sure] ∧ Dk.Row W x.v x.f.data
  apart : L.Pairwise fun x y => x.blk ≠ y.blk ∧ ∀ k, x.v.ownBlock = some k → y.v.ownBlock ≠ some k
/-- Its blocks. -/
def Dk.foot (d b : Nat) (L : List Dk.X) (k : Nat) : Prop := k = d ∨ k = b ∨ ∃ x ∈ L, x.blk = k ∨ x.v.ownBlock = some k
theorem Dk.Stand.lt {W : World} {d b : Nat} {m : Dk.M} {L : List Dk.X} (h : Dk.Stand W d b m L) {k : Nat} (hk : Dk.foot d b L k) : k < W.heap.size := by
  rcases hk with rfl | rfl | ⟨x, hx, e | e⟩
  · exact h.disk.lt
  · exact h.map.lt
  · exact e ▸ (h.file x hx).1.lt
  · exact (h.file x hx).2.lt k e
theorem Dk.Stand.keep {W W' : World} {d b : Nat} {m : Dk.M} {L : List Dk.X} (h : Dk.Stand W d b m L) (hk : ∀ k, Dk.foot d b L k → W'.heap[k]? = W.heap[k]?) : Dk.Stand W' d b m L := by
  refine ⟨(hk d (.inl rfl)).trans h.disk, ?_, h.fs, fun x hx => ⟨(hk x.blk (.inr (.inr ⟨x, hx, .inl rfl⟩))).trans (h.file x hx).1, (h.file x hx).2.keep fun k e => hk k (.inr (.inr ⟨x, hx, .inr e⟩))⟩, h.apart⟩
  obtain ⟨es, clock, hb, r⟩ := h.map
  exact ⟨es, clock, (hk b (.inr (.inl rfl))).trans hb, r⟩
theorem Dk.Stand.later {W W' : World} {d b : Nat} {m : Dk.M} {L : List Dk.X} (h : Dk.Stand W d b m L) {B : Nat} (hB : Below B W W') (hs : W.heap.size ≤ B) : Dk.Stand W' d b m L :=
  h.keep fun k hk => hB.block k (Nat.lt_of_lt_of_le (h.lt hk) hs)
theorem Dk.Stand.eight {W : World} {d b : Nat} {m : Dk.M} {L : List Dk.X} (h : Dk.Stand W d b m L) :
    W.cell? ⟨d, 0, none⟩ = some (.map (some b)) ∧ W.cell? ⟨d, 1, none⟩ = some (.int .i64 m.cap) ∧ W.cell? ⟨d, 2, none⟩ = some (.int .i64 (Dk.used m.files)) ∧ W.cell? ⟨d, 3, none⟩ = some (.int .i64 m.age) ∧ W.cell? ⟨d, 4, none⟩ = some (.int .i64 m.writes) ∧ W.cell? ⟨d, 5, none⟩ = some (.bool m.off) ∧ W.cell? ⟨d, 6, none⟩ = some (.int .i64 m.left) ∧ W.cell? ⟨d, 7, none⟩ = some (.bool m.done) :=
  ⟨h.disk.cell 0, h.disk.cell 1, h.disk.cell 2, h.disk.cell 3, h.disk.cell 4, h.disk.cell 5, h.disk.cell 6, h.disk.cell 7⟩
theorem Dk.Stand.names {W : World} {d b : Nat} {m : Dk.M} {L : List Dk.X} (h : Dk.Stand W d b m L) : L.map Dk.X.nm = m.files.map Dk.F.name := by
  rw [← h.fs, List.map_map]; rfl
/-- Where a name's file lies. -/
def Dk.ptr : Option Dk.X → Value
  | some x => .pointer (some ⟨x.blk, 0, none⟩)
  | none => .pointer none
theorem Dk.zero_ptr (w : World) : (zeroValue 80).run Try.prog w = .ok (.pointer none) w := by
  have h : (Try.prog.info? 80).map (fun i => i.zero) = some (some (.pointer none)) := by kernel_rfl
  cases hi : Try.prog.info? 80 with
  | none => rw [hi] at h; cases h
  | some i =>
    rw [hi] at h
    simp at h
    simp [zeroValue, typeInfo, hi, h]
/-- A name, looked up. -/
theorem Dk.Stand.run_look {W : World} {d b : Nat} {m : Dk.M} {L : List Dk.X} (h : Dk.Stand W d b m L) (s : ByteArray) (hs : s.size ≤ maxLen) :
    (Instr.lookup 75 (.map (some b)) (.string s) true).run Try.prog W = .ok (.tuple #[Dk.ptr (Dk.get Dk.X.nm s.data.toList L), .bool (Dk.get Dk.X.nm s.data.toList L).isSome]) W := by
  have hkey : keyOf Try.prog 9 (.string s) = some (.string s.data.toList) := by
    simp [keyOf, Try.underlying9, mapKey, hs]
  obtain ⟨v, ps, hrun, hv⟩ := h.map.look_ok Dk.strKeyed Try.underlying75 (Dk.zero_ptr W) Dk.R_nil hkey
  rw [hrun, Dk.dat_has]
  rw [Dk.dat_at] at hv
  cases hg : Dk.get Dk.X.nm s.data.toList L with
  | some x =>
    rw [hg] at hv
    rw [Dk.R_lit hv]
    rfl
  | none =>
    rw [hg] at hv
    obtain ⟨c, rfl⟩ := Dk.R_inv hv
    cases c with
    | none => rfl
    | some a => simp [Dk.R] at hv
/-- What look answers. -/
def Dk.code (m : Dk.M) (nm : List UInt8) : Int :=
  if m.off = true then 45 else if Dk.named nm = true then (if (Dk.get Dk.F.name nm m.files).isSome = true then 0 else 42) else 40
def Dk.found (m : Dk.M) (L : List Dk.X) (nm : List UInt8) : Option Dk.X := if Dk.code m nm = 0 then Dk.get Dk.X.nm nm L else none
theorem Dk.Stand.get {W : World} {d b : Nat} {m : Dk.M} {L : List Dk.X} (h : Dk.Stand W d b m L) (nm : List UInt8) : (Dk.get Dk.X.nm nm L).map (fun x => x.f) = Dk.get Dk.F.name nm m.files := by
  unfold Dk.get
  rw [← h.fs, List.find?_map]; rfl

set_option maxRecDepth 100000 in
theorem Dk.look_any {W : World} {d b : Nat} {m : Dk.M} {L : List Dk.X} (h : Dk.Stand W d b m L) (s : ByteArray) (hs : s.size ≤ 9223372036854775807) :
    Calls Try.prog 47 #[.pointer (some ⟨d, 0, none⟩), .string s] W fun e W' => e = .returned (.tuple #[Dk.ptr (Dk.found m L s.data.toList), .int .i64 (Dk.code m s.data.toList)]) ∧ W = W' := by
  obtain ⟨c0, c1, c2, c3, c4, c5, c6, c7⟩ := h.eight
  obtain ⟨e, he⟩ : ∃ e, Dk.code m s.data.toList = e := ⟨_, rfl⟩
  obtain ⟨x, hx⟩ : ∃ x, Dk.found m L s.data.toList = x := ⟨_, rfl⟩
  rw [he, hx]
  have hr := h.run_look s (by unfold maxLen; omega)
  have hg := h.get s.data.toList
  obtain ⟨y, hy⟩ : ∃ y, Dk.get Dk.X.nm s.data.toList L = y := ⟨_, rfl⟩
  rw [hy] at hr hg
  have hcall : ∀ W, Calls Try.prog 70 #[.string s] W fun e W' => e = .returned (.bool (Dk.named s.data.toList)) ∧ W = W' := fun W => Dk.isName_any s hs _ rfl W
  unfold Dk.found at hx
  rw [he, hy] at hx
  unfold Dk.code at he
  rw [← hg] at he
  cases ho : m.off with
  | true =>
    rw [ho, if_pos rfl] at he
    subst he
    rw [if_neg (by decide)] at hx
    subst hx
    rw [ho] at c5
    clear hr hg hy hcall
    go_enter Try.func47, Try.ntmps47
    go_wp2_with fail
    go_ret2
    exact ⟨rfl, rfl⟩
  | false =>
    rw [ho, if_neg (by decide)] at he
    rw [ho] at c5
    cases hq : Dk.named s.data.toList with
    | false =>
      rw [hq] at hcall he
      rw [if_neg (by decide)] at he
      subst he
      rw [if_neg (by decide)] at hx
      subst hx
      clear hr hg hy hq
      go_enter Try.func47, Try.ntmps47
      go_wp2_with (go_at_call 70; refine (hcall _).mono ?_; rintro e w' ⟨rfl, rfl⟩)
      go_ret2
      exact ⟨rfl, rfl⟩
    | true =>
      rw [hq] at hcall he
      rw [if_pos rfl] at he
      cases y with
      | none =>
        rw [if_neg (by decide)] at he
        subst he
        rw [if_neg (by decide)] at hx
        subst hx
        clear hg hy hq
        go_enter Try.func47, Try.ntmps47
        go_wp2_with (go_at_call 70; refine (hcall _).mono ?_; rintro e w' ⟨rfl, rfl⟩)
        go_ret2
        exact ⟨rfl, rfl⟩
      | some y =>
        rw [Option.map_some, if_pos (by rfl)] at he
        subst he
        rw [if_pos rfl] at hx
        subst hx
        clear hg hy hq
        go_enter Try.func47, Try.ntmps47
        go_wp2_with (go_at_call 70; refine (hcall _).mono ?_; rintro e w' ⟨rfl, rfl⟩)
        go_ret2
        exact ⟨rfl, rfl⟩
end Go.Proofs.Ytgbeeghdoilmkaa
