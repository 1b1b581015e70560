/- Disks: pointers as a map's elements; the contract of names: the map's keys, sorted, a list of the call's own. Conditions: each theorem's own hypotheses. -/
import Derived.Test.YtifkhjihgnnpfaaGreatDoorZDkA
import Derived.Test.YtifkhjihgnnpfaaGreatDoorShelf
import Derived.Sort.KeysCollected
import Derived.Sort.OwnSorted
import Derived.Maps.AppendAt
import Derived.Maps.RangeWalk
import Derived.Maps.OwnSet
import Derived.WalkKit
import Derived.Laws.AppendOwn
import Derived.Lib.FrozenHead
import Derived.Lib.ConvBytes
import Derived.Lib.UnsafeStr
namespace Go.Proofs.YtifkhjihgnnpfaaGreatDoor
open Go.RowKit Go.Maps Go.Sort
set_option linter.unusedVariables false

/-- How a pointer to a whole block reads. -/
def Dk.R : Value → Option (DataW Unit × List MemPlace)
  | .pointer none => some (.nil, [])
  | .pointer (some a) => if a = ⟨a.block, 0, none⟩ then some (.lit (.int .i64 a.block), []) else none
  | _ => none
theorem Dk.R_nil : Dk.R (.pointer none) = some (.nil, []) := rfl
theorem Dk.R_ptr (b : Nat) : Dk.R (.pointer (some ⟨b, 0, none⟩)) = some (.lit (.int .i64 b), []) := by simp [Dk.R]
theorem Dk.R_inv {v : Value} {y : DataW Unit × List MemPlace} (h : Dk.R v = some y) : ∃ c, v = Value.pointer c := by
  cases v <;> simp [Dk.R] at h
  rename_i p
  exact ⟨p, rfl⟩
theorem Dk.R_lit {v : Value} {b : Nat} {ps : List MemPlace} (h : Dk.R v = some (.lit (.int .i64 b), ps)) : v = .pointer (some ⟨b, 0, none⟩) := by
  obtain ⟨c, rfl⟩ := Dk.R_inv h
  cases c with
  | none => simp [Dk.R] at h
  | some a =>
    simp [Dk.R] at h
    obtain ⟨h1, h2, _⟩ := h
    have : a.block = b := by exact_mod_cast h2
    rw [h1, this]
theorem Dk.strKeyed : Keyed Tryz.prog 9 := string_keyed Tryz.underlying9
theorem Dk.strInfo : (Tryz.prog.info? 9).map (fun i => (i.zero, i.size, i.bytes)) = some (some (.string ⟨#[]⟩), 1, 16) := by kernel_rfl

set_option maxRecDepth 100000 in
set_option maxHeartbeats 2000000 in
/-- names: the keys of the disk's map, sorted. -/
theorem Dk.names_any (d b n : Nat) (D0 : DataW Unit) (w : World) (hd : w.cell? ⟨d, 0, none⟩ = some (.map (some b))) (hown : w.ownsMap Tryz.prog 9 Dk.R b n D0) (hmax : Maps.size D0 ≤ 4096) :
    Calls Tryz.prog 45 #[.pointer (some ⟨d, 0, none⟩)] w fun e w' => ∃ (v : Value) (ss : List (List UInt8)), e = .returned v ∧ ss.Perm (strKeys D0) ∧
      w'.ownsRow w.heap.size 9 1 v ss.length ((ss.mergeSort leB).map encStr) ∧ Below w.heap.size w w' := by
  obtain ⟨i0, hi, hz0, hz1, hz2⟩ := info_parts Dk.strInfo
  have hbl := hown.lt
  go_enter Tryz.func45, Tryz.ntmps45
  go_wp2_with (at_range; refine wpList_range_own _ rfl _ 42 rfl 9 87 Dk.strKeyed Tryz.underlying42 Dk.R b n _ rfl hown ?_; intro w0 hrg0 hg0 hs0)
  go_frame
  go_loopw [3] (fun v wr => ∃ (left : Lit → Bool) (cnt : Nat) (ss : List (List UInt8)), wr.ranges Tryz.prog 9 Dk.R b w.heap.size n D0 left cnt ∧ ss.length + cnt ≤ Maps.size D0 ∧
      wr.ownsRow w.heap.size 9 1 v ss.length (ss.map encStr) ∧ Collected D0 left ss ∧ Below w.heap.size w wr)
    (fun _ wr => wr.rangeLeft b w.heap.size)
  case atStart =>
    exact ⟨_, _, [], hrg0, by simp, ⟨by simp, Or.inl ⟨rfl, rfl⟩⟩, Collected.start D0, (Below.refl _ _).grown hg0 (Nat.le_refl _) (fun j hj => by cases hj)⟩
  case round =>
    obtain ⟨left, cnt, ss, hrg, hcs, hrow, hC, hnx⟩ := hrel
    go_wp2_with (at_next; refine wpList_next_ranges _ rfl _ rfl 9 Dk.strKeyed Dk.R encStr Value.pointer (fun key kl hk => by obtain ⟨x, hx, _⟩ := Maps.keyOf_str Tryz.underlying9 hk; exact ⟨x, hx⟩) (fun v y hv => Dk.R_inv hv) b w.heap.size n _ _ _ rfl hrg ?_ ?_)
    · -- nothing is left
      intro hc0 hl0
      have hp := hC.perm hown Dk.strKeyed Tryz.underlying9 hl0
      rcases hrow.2 with ⟨rfl, hn0⟩ | ⟨g, cap, cur, rfl, hbase, hb, h1, h2, h3, h4⟩
      · obtain rfl : ss = [] := List.length_eq_zero_iff.1 hn0
        have hc := Tryz.slices_Sort_string_none none 0 wr
        go_wp2_with (go_at_call 79; refine hc.mono ?_; rintro e w' ⟨rfl, rfl⟩)
        go_ret
        exact ⟨_, [], rfl, hp, ⟨by simp, Or.inl ⟨rfl, rfl⟩⟩, hnx⟩
      · have hH : Holds encStr wr g 0 ss.toArray := holds_of_block hb (by simpa using h4)
        have hgl : g < wr.heap.size := (Array.getElem?_eq_some_iff.1 hb).1
        have hc := Tryz.slices_Sort_string g 0 cap ss wr hH hgl (by omega)
        go_wp2_with (go_at_call 79; refine hc.mono ?_; rintro e w' ⟨rfl, nn, os, rfl⟩)
        go_ret
        exact ⟨_, ss, rfl, hp, ownsRow_sorted (by simp) hbase hb h1 h2 h3, hnx.grown (grownBy_sorted _) hnx.size (fun j hj => by cases hj; exact hbase)⟩
    · -- an entry has come
      intro x c kl yd yp w2 cnt2 hkey hlk hv hat hrg2 hlt hg2 hs2 hen
      obtain ⟨x', ex, rfl, _⟩ := Maps.keyOf_str Tryz.underlying9 hkey
      obtain rfl : x = x' := encStr_inj ex
      have hrow2 := hrow.kept hg2 (Or.inr (row_ne_iter hrow hrg).symm)
      clear hs2
      go_wp2_with (at_builtin; refine wpList_append_own _ rfl _ _ 85 rfl w.heap.size 9 i0 (.string ⟨#[]⟩) 1 16 Tryz.underlying85 hi hz0 hz1 hz2 rfl (by decide) _ _ _ rfl (hrow2.alloc _) ⟨w2.heap.size, 0, none⟩ 1 1 [encStr x] rfl rfl (cell_one_new _ _ _) (by simp [Value.oneCell', encStr]) (by unfold maxLen at *; omega) (by omega) (by have := hnx.size; have := hg2.size; simp; omega) ?_; intro v' w3 hown' hg3 hnil3; go_frame)
      have hrg3 := (hrg2.alloc _).kept hg3 (row_ne_low hrow2 hbl) (row_ne_iter hrow2 hrg2)
      go_roundw
      case rel =>
        refine ⟨_, cnt2, ss ++ [x], hrg3, by simp; omega, by simpa using hown', hC.step hlk hat, ?_⟩
        exact ((hnx.grown hg2 hnx.size (fun j hj => by cases hj; exact Nat.le_refl _)).alloc (by have := hnx.size; have := hg2.size; omega) _).grown hg3 (by have := hnx.size; have := hg2.size; simp; omega) (fun j hj => (hrow2.lt j hj).1)
      case measure => rw [hrg3.left_eq, hrg.left_eq]; exact hlt
end Go.Proofs.YtifkhjihgnnpfaaGreatDoor
/- Disks: lists sorted by name, and the data of a map of files. Plain laws; conditions: each theorem's own hypotheses. -/
namespace Go.Proofs.YtifkhjihgnnpfaaGreatDoor
open Go.RowKit Go.Maps Go.Sort
set_option linter.unusedVariables false

section
variable {α β : Type} (key : α → List UInt8)
/-- Into its place. -/
def Dk.ins (x : α) : List α → List α
  | [] => [x]
  | y :: r => if bytesBefore (key x) (key y) then x :: y :: r else y :: Dk.ins x r
def Dk.del (nm : List UInt8) (l : List α) : List α := l.filter fun y => !(key y == nm)
def Dk.put (x : α) (l : List α) : List α := Dk.ins key x (Dk.del key (key x) l)
def Dk.get (nm : List UInt8) (l : List α) : Option α := l.find? fun y => key y == nm
def Dk.Up (l : List α) : Prop := l.Pairwise fun a b => bytesBefore (key a) (key b) = true

theorem Dk.mem_ins {x y : α} : ∀ {l : List α}, y ∈ Dk.ins key x l ↔ y = x ∨ y ∈ l
  | [] => by simp [Dk.ins]
  | z :: r => by
    unfold Dk.ins
    split
    · simp
    · rw [List.mem_cons, Dk.mem_ins (l := r), List.mem_cons]
      constructor
      · rintro (h | h | h)
        · exact .inr (.inl h)
        · exact .inl h
        · exact .inr (.inr h)
      · rintro (h | h | h)
        · exact .inr (.inl h)
        · exact .inl h
        · exact .inr (.inr h)
theorem Dk.len_ins (x : α) : ∀ l : List α, (Dk.ins key x l).length = l.length + 1
  | [] => rfl
  | z :: r => by
    unfold Dk.ins
    split
    · rfl
    · rw [List.length_cons, Dk.len_ins x r, List.length_cons]
theorem Dk.mem_del {nm : List UInt8} {l : List α} {y : α} : y ∈ Dk.del key nm l ↔ y ∈ l ∧ key y ≠ nm := by
  unfold Dk.del
  rw [List.mem_filter]
  simp
theorem Dk.up_del {l : List α} (h : Dk.Up key l) (nm : List UInt8) : Dk.Up key (Dk.del key nm l) := List.Pairwise.filter _ h
theorem Dk.up_ins (x : α) : ∀ {l : List α}, Dk.Up key l → (∀ y ∈ l, key y ≠ key x) → Dk.Up key (Dk.ins key x l)
  | [], _, _ => List.pairwise_singleton _ _
  | z :: r, h, hne => by
    obtain ⟨h1, h2⟩ := List.pairwise_cons.1 h
    unfold Dk.ins
    split
    · rename_i hb
      refine List.pairwise_cons.2 ⟨fun y hy => ?_, h⟩
      rcases List.mem_cons.1 hy with rfl | hy
      · exact hb
      · exact WideShapes.bytes_trans _ _ _ hb (h1 y hy)
    · rename_i hb
      have hzx : bytesBefore (key z) (key x) = true := by
        rcases WideAt.bytes_total _ _ (hne z (List.mem_cons_self ..)) with h | h
        · exact h
        · exact absurd h hb
      refine List.pairwise_cons.2 ⟨fun y hy => ?_, Dk.up_ins x h2 fun y hy => hne y (List.mem_cons_of_mem _ hy)⟩
      rcases (Dk.mem_ins key).1 hy with rfl | hy
      · exact hzx
      · exact h1 y hy
theorem Dk.up_put {l : List α} (h : Dk.Up key l) (x : α) : Dk.Up key (Dk.put key x l) :=
  Dk.up_ins key x (Dk.up_del key h _) fun y hy => ((Dk.mem_del key).1 hy).2
variable {key}
theorem Dk.map_ins {key' : β → List UInt8} {g : α → β} (hg : ∀ y, key' (g y) = key y) (x : α) : ∀ l : List α, (Dk.ins key x l).map g = Dk.ins key' (g x) (l.map g)
  | [] => rfl
  | z :: r => by
    unfold Dk.ins
    rw [List.map_cons]
    simp only [hg]
    split
    · rfl
    · rw [List.map_cons, Dk.map_ins hg x r]
theorem Dk.map_del {key' : β → List UInt8} {g : α → β} (hg : ∀ y, key' (g y) = key y) (nm : List UInt8) (l : List α) : (Dk.del key nm l).map g = Dk.del key' nm (l.map g) := by
  unfold Dk.del
  rw [List.filter_map]
  exact congrArg (List.map g) (List.filter_congr fun y _ => by simp [hg])
theorem Dk.map_put {key' : β → List UInt8} {g : α → β} (hg : ∀ y, key' (g y) = key y) (x : α) (l : List α) : (Dk.put key x l).map g = Dk.put key' (g x) (l.map g) := by
  unfold Dk.put
  rw [Dk.map_ins hg, Dk.map_del hg, hg]
theorem Dk.get_mem {nm : List UInt8} {l : List α} {x : α} (h : Dk.get key nm l = some x) : x ∈ l ∧ key x = nm := by
  have h2 := List.find?_some h
  exact ⟨List.mem_of_find?_eq_some h, by simpa using h2⟩
theorem Dk.get_none {nm : List UInt8} {l : List α} (h : Dk.get key nm l = none) : ∀ x ∈ l, key x ≠ nm := fun x hx => by
  have h2 := List.find?_eq_none.1 h x hx
  simpa using h2
theorem Dk.del_none {nm : List UInt8} {l : List α} (h : ∀ x ∈ l, key x ≠ nm) : Dk.del key nm l = l := List.filter_eq_self.2 fun x hx => by simp [h x hx]
/-- The names of a sorted list are the sorting of whatever holds just these. -/
theorem Dk.names_sort {ns ss : List (List UInt8)} (h : ns.Pairwise fun a b => bytesBefore a b = true) (hp : ss.Perm ns) : ss.mergeSort leB = ns := by
  have tr : ∀ a b c : List UInt8, leB a b = true → leB b c = true → leB a c = true := fun a b c h1 h2 => by simp only [leB, decide_eq_true_eq] at *; exact List.le_trans h1 h2
  have to : ∀ a b : List UInt8, (leB a b || leB b a) = true := fun a b => by simp only [leB, Bool.or_eq_true, decide_eq_true_eq]; exact List.le_total a b
  have hb : ∀ a b : List UInt8, bytesBefore a b = true → leB a b = true := by
    intro a
    induction a with
    | nil => intro b _; simp only [leB, decide_eq_true_eq]; exact List.nil_le b
    | cons x r ih =>
      intro b h
      cases b with
      | nil => simp [bytesBefore] at h
      | cons y s =>
        simp only [bytesBefore, Bool.or_eq_true, Bool.and_eq_true, decide_eq_true_eq, beq_iff_eq] at h
        simp only [leB, decide_eq_true_eq]
        rcases h with h | ⟨rfl, h⟩
        · exact List.cons_le_cons_iff.2 (.inl h)
        · have := ih s h
          simp only [leB, decide_eq_true_eq] at this
          exact List.cons_le_cons_iff.2 (.inr ⟨rfl, this⟩)
  refine List.Perm.eq_of_pairwise (le := fun a b => leB a b = true) (fun a b _ _ h1 h2 => ?_) (List.pairwise_mergeSort tr to ss) (h.imp fun {a b} h => hb a b h) ((List.mergeSort_perm ss leB).trans hp)
  simp only [leB, decide_eq_true_eq] at h1 h2
  exact List.le_antisymm h1 h2
end

/-- A file: its name, its bytes, how many are durable. -/
structure Dk.F where
  name : List UInt8
  data : List UInt8
  sure : Nat
/-- .. in memory: its block, the slice of its bytes. -/
structure Dk.X where
  f : Dk.F
  blk : Nat
  v : Value
abbrev Dk.X.nm (x : Dk.X) : List UInt8 := x.f.name
/-- How the map of these reads. -/
def Dk.dat (l : List Dk.X) : DataW Unit := .map (l.map fun x => (.string x.nm, .lit (.int .i64 x.blk)))
theorem Dk.dat_ins (x : Dk.X) : ∀ l : List Dk.X, (Dk.ins Dk.X.nm x l).map (fun x => ((Lit.string x.nm, DataW.lit (.int .i64 x.blk)) : Lit × DataW Unit)) = DataW.insert (.string x.nm, .lit (.int .i64 x.blk)) (l.map fun x => (.string x.nm, .lit (.int .i64 x.blk)))
  | [] => rfl
  | z :: r => by
    unfold Dk.ins
    rw [List.map_cons]
    unfold DataW.insert
    by_cases h : bytesBefore x.nm z.nm = true
    · rw [if_pos h, if_pos (show (Lit.string x.nm).before (.string z.nm) = true from h)]; rfl
    · rw [if_neg h, if_neg (show ¬ (Lit.string x.nm).before (.string z.nm) = true from h), List.map_cons, Dk.dat_ins x r]
theorem Dk.dat_del (nm : List UInt8) (l : List Dk.X) : (Dk.dat l).del (.string nm) = Dk.dat (Dk.del Dk.X.nm nm l) := by
  unfold Dk.dat
  rw [DataW.del_eq]
  unfold ChangeMaps.delKey Dk.del
  rw [List.filter_map]
  exact congrArg DataW.map (congrArg (List.map _) (List.filter_congr fun y _ => rfl))
theorem Dk.dat_put (x : Dk.X) (l : List Dk.X) : (Dk.dat l).put (.string x.nm) (.lit (.int .i64 x.blk)) = Dk.dat (Dk.put Dk.X.nm x l) := by
  unfold Dk.dat
  rw [DataW.put_eq]
  unfold ChangeMaps.putKey Dk.put
  rw [Dk.dat_ins]
  refine congrArg DataW.map (congrArg (DataW.insert _) ?_)
  unfold Dk.del
  rw [List.filter_map]
  exact congrArg (List.map _) (List.filter_congr fun y _ => rfl)
theorem Dk.dat_has (nm : List UInt8) (l : List Dk.X) : Maps.has (Dk.dat l) (.string nm) = (Dk.get Dk.X.nm nm l).isSome := by
  unfold Dk.dat
  rw [has_eq]
  unfold Dk.get
  induction l with
  | nil => rfl
  | cons z r ih =>
    rw [List.map_cons, List.any_cons, List.find?_cons]
    show ((z.nm == nm) || _) = _
    rw [ih]
    cases z.nm == nm <;> rfl
theorem Dk.dat_at (nm : List UInt8) (l : List Dk.X) (z : DataW Unit) : (Dk.dat l).atKey (.string nm) z = match Dk.get Dk.X.nm nm l with | some x => .lit (.int .i64 x.blk) | none => z := by
  have h : (l.map fun x => ((Lit.string x.nm, DataW.lit (.int .i64 x.blk)) : Lit × DataW Unit)).find? (fun p => p.1.sameKey (.string nm)) = (Dk.get Dk.X.nm nm l).map fun x => (Lit.string x.nm, DataW.lit (.int .i64 x.blk)) := by
    rw [List.find?_map]
    rfl
  unfold Dk.dat DataW.atKey
  simp only [h]
  cases Dk.get Dk.X.nm nm l <;> rfl
theorem Dk.dat_size (l : List Dk.X) : Maps.size (Dk.dat l) = l.length := by
  unfold Dk.dat Maps.size
  simp
theorem Dk.dat_keys (l : List Dk.X) : strKeys (Dk.dat l) = l.map Dk.X.nm := by
  unfold Dk.dat strKeys
  simp [strOf, Function.comp_def]
end Go.Proofs.YtifkhjihgnnpfaaGreatDoor
/- Disks: a slice of bytes of which nothing is frozen that is there: made of a string, grown by a string. Conditions: each theorem's own hypotheses. -/
namespace Go.Proofs.YtifkhjihgnnpfaaGreatDoor
open Go.RowKit Go.Maps Go.Sort
set_option linter.unusedVariables false

/-- A slice that holds these bytes; of its row nothing is frozen that is there. -/
def Dk.Row (W : World) (v : Value) (l : List UInt8) : Prop :=
  (v = .slice none 0 0 ∧ l = []) ∨
  ∃ g cap cur fz, v = .slice (some ⟨g, 0, none⟩) l.length cap ∧ W.heap[g]? = some (.cells cur 5 fz) ∧ (fz.2 = 0 ∨ cur.size ≤ fz.1) ∧ l.length ≤ cap ∧ cap ≤ maxLen ∧ cur.size = cap ∧ cur.toList.take l.length = Lib.byteCells l
theorem Dk.Row.lt {W : World} {v : Value} {l : List UInt8} (h : Dk.Row W v l) : ∀ k, v.ownBlock = some k → k < W.heap.size := by
  intro k hk
  rcases h with ⟨rfl, _⟩ | ⟨g, cap, cur, fz, rfl, hg, _⟩
  · cases hk
  · injection hk with hk
    subst hk
    exact (Array.getElem?_eq_some_iff.1 hg).1
theorem Dk.Row.keep {W W' : World} {v : Value} {l : List UInt8} (h : Dk.Row W v l) (hk : ∀ k, v.ownBlock = some k → W'.heap[k]? = W.heap[k]?) : Dk.Row W' v l := by
  rcases h with h | ⟨g, cap, cur, fz, rfl, hg, r⟩
  · exact .inl h
  · exact .inr ⟨g, cap, cur, fz, rfl, (hk g rfl).trans hg, r⟩
theorem Dk.Row.cells {W : World} {l : List UInt8} {g n cap : Nat} (h : Dk.Row W (.slice (some ⟨g, 0, none⟩) n cap) l) : n = l.length ∧ ∀ j c, l[j]? = some c → W.cell? ⟨g, j, none⟩ = some (.int .u8 c.toNat) := by
  rcases h with ⟨h, _⟩ | ⟨g', cap', cur, fz, h, hg, hf, h1, h2, h3, h4⟩
  · cases h
  · injection h with e1 e2 e3
    injection e1 with e1
    injection e1 with e1
    subst e1 e2 e3
    refine ⟨rfl, fun j c hc => ?_⟩
    rw [cell_of_row W g j cur _ fz hg]
    have hl : j < l.length := (List.getElem?_eq_some_iff.1 hc).1
    have h5 : (cur.toList.take l.length)[j]? = (Lib.byteCells l)[j]? := by rw [h4]
    rw [List.getElem?_take, if_pos hl] at h5
    unfold Lib.byteCells at h5
    rw [List.getElem?_map, hc] at h5
    simpa using h5
theorem Dk.cells_append (l : List UInt8) (s : ByteArray) : Lib.byteCells l ++ Lib.strCells s = Lib.byteCells (l ++ s.data.toList) := by
  unfold Lib.byteCells Lib.strCells
  simp

/-- A slice made of a string. -/
theorem Dk.Row.made (w : World) (s : ByteArray) (hs : s.size ≤ maxLen) : Dk.Row (Lib.bytesWorld w 5 s) (.slice (some ⟨w.heap.size, 0, none⟩) s.size (grownCap w s.size 0 5)) s.data.toList := by
  have hge := grownCap_ge w s.size 0 5
  have hsz : (Lib.bytesCells w 5 s).size = grownCap w s.size 0 5 := by
    have : s.data.size = s.size := rfl
    simp [Lib.bytesCells]
    omega
  refine .inr ⟨_, _, _, _, ?_, Lib.bytesWorld_at_new w _ s, .inr (Nat.le_refl _), ?_, grownCap_le_maxLen w s.size 0 _ hs, hsz, ?_⟩
  · rw [← Tx.size]
  · rw [← Tx.size]; exact hge
  · simp only [Lib.bytesCells, Array.toList_append, Array.toList_map]
    rw [List.take_append_of_le_length (by simp)]
    rw [List.take_of_length_le (by simp)]
    rfl
/-- Stores into a row of which nothing is frozen that is there. -/
theorem Dk.run_stores (P : Program) (g o : Nat) (t : TypeId) (fz : Nat × Nat) : ∀ (vs : List Value) (i : Nat) (cur : Array Value) (w : World), w.heap[g]? = some (.cells cur t fz) → (fz.2 = 0 ∨ cur.size ≤ fz.1) → o + i + vs.length ≤ cur.size → (∀ v ∈ vs, v.oneCell' = true) →
    (storeCells ⟨g, o, none⟩ vs i).run P w = .ok () (w.setRow g (cur.toList.take (o + i) ++ vs ++ cur.toList.drop (o + i + vs.length)).toArray)
  | [], i, cur, w, hg, _, _, _ => by
    simp only [storeCells, List.append_nil, List.length_nil, Nat.add_zero, List.take_append_drop, Array.toArray_toList]
    rw [setRow_self w g cur t fz hg]
    rfl
  | v :: rest, i, cur, w, hg, hfz, hl, h1 => by
    have hi : o + i < cur.size := by simp at hl; omega
    have hadd : (⟨g, o, none⟩ : Addr).add i = ⟨g, o + i, none⟩ := by unfold Addr.add; split <;> simp_all
    have hcell : w.cell? ⟨g, o + i, none⟩ = some cur[o + i] := by simp [World.cell?, hg, hi]
    have hfro : w.frozen? ⟨g, o + i, none⟩ = false := by
      obtain ⟨lo, hi'⟩ := fz
      simp only [World.frozen?, hg, Bool.and_eq_false_iff, decide_eq_false_iff_not]
      simp only at hfz
      omega
    have hst : (store ((⟨g, o, none⟩ : Addr).add i) v).run P w = .ok () (w.setRow g (cur.setIfInBounds (o + i) v)) := by
      rw [hadd, run_store P w _ v _ (h1 v (by simp)), hcell]
      simp [hfro, setCell_eq_setRow w g (o + i) cur t fz v hg]
    have ih := Dk.run_stores P g o t fz rest (i + 1) (cur.setIfInBounds (o + i) v) (w.setRow g (cur.setIfInBounds (o + i) v)) (setRow_heap w g cur _ t _ hg) (by simpa using hfz) (by simp at hl ⊢; omega) (fun x hx => h1 x (by simp [hx]))
    simp only [storeCells, Sem.run_bind, hst, Result.andThen_ok, ih, setRow_setRow]
    congr 3
    have e := list_seg_step cur.toList (o + i) v rest (by simp at hl ⊢; omega)
    simpa [Array.toList_setIfInBounds, Nat.add_assoc] using e
theorem Dk.run_room {P : Program} (w : World) (t u ty e : TypeId) (i : TypeInfo) (ht : P.underlying t = some (.slice e)) (hu : P.underlying u = some .string) (hi : P.info? e = some i) (hs1 : i.size = 1)
    (g sLen sCap : Nat) (cur : Array Value) (fz : Nat × Nat) (hg : w.heap[g]? = some (.cells cur e fz)) (hfz : fz.2 = 0 ∨ cur.size ≤ fz.1) (s : ByteArray)
    (hroom : sLen + s.size ≤ sCap) (hfit : sLen + s.size ≤ cur.size) :
    (Builtin.append_ #[t, u] ty #[.slice (some ⟨g, 0, none⟩) sLen sCap, .string s]).run P w =
      .ok (.slice (some ⟨g, 0, none⟩) (sLen + s.size) sCap) (w.setRow g (cur.toList.take sLen ++ Lib.strCells s ++ cur.toList.drop (sLen + s.size)).toArray) := by
  have hf := Lib.run_firstCells_string (P := P) w 1 s
  have hst := Dk.run_stores P g sLen e fz (Lib.strCells s) 0 cur w hg hfz (by simpa [Lib.strCells_length] using hfit) (Lib.strCells_oneCell s)
  simp only [Nat.add_zero, Lib.strCells_length] at hst
  simp [Builtin.append_, run_underlying ht, run_underlying hu, sizeOf, typeInfo, hi, hs1, Builtin.lenOf, hroom, hf, Addr.add_lit, hst]
theorem Dk.u8Info : (Tryz.prog.info? 5).map (fun i => (i.zero, i.size, i.bytes)) = some (some (.int .u8 0), 1, 1) := by kernel_rfl
/-- A string put behind such a slice: the row's own, or a new one. -/
theorem Dk.Row.append (w : World) (ty : TypeId) {v : Value} {l : List UInt8} (h : Dk.Row w v l) (s : ByteArray) (hl : l.length + s.size ≤ 140737488355328) :
    ∃ v' w', (Builtin.append_ #[84, 9] ty #[v, .string s]).run Tryz.prog w = .ok v' w' ∧ Dk.Row w' v' (l ++ s.data.toList) ∧ w.grownBy w' v.ownBlock ∧ (∀ k, v'.ownBlock = some k → v.ownBlock = some k ∨ w.heap.size ≤ k) := by
  obtain ⟨i, hi, hz0, hz1, hz2⟩ := info_parts Dk.u8Info
  rcases h with ⟨rfl, rfl⟩ | ⟨g, cap, cur, fz, rfl, hg, hfz, hnc, hcm, hcs, htake⟩
  · rw [List.length_nil, Nat.zero_add] at hl
    obtain ⟨v', w', h1, h2, h3, _⟩ := Lib.run_append_own_string (P := Tryz.prog) w w.heap.size 84 9 ty 5 i Tryz.underlying84 Tryz.underlying9 hi hz0 hz1 hz2 (.slice none 0 0) 0 [] ⟨rfl, .inl ⟨rfl, rfl⟩⟩ s (by unfold maxLen; omega) (by omega) (Nat.le_refl _)
    refine ⟨v', w', h1, ?_, h3, fun k hk => .inr (World.ownsRow.lt h2 k hk).1⟩
    rw [List.nil_append]
    rcases h2.2 with ⟨e1, e2⟩ | ⟨g, cap, cur, e1, _, hg, q1, q2, q3, q4⟩
    · refine .inl ⟨e1, List.length_eq_zero_iff.1 (by rw [← Tx.size]; omega)⟩
    · rw [Nat.zero_add] at e1 q1 q4
      rw [Nat.mul_one] at q3 q4
      refine .inr ⟨g, cap, cur, (0, 0), by rw [e1, ← Tx.size], hg, .inl rfl, by rw [← Tx.size]; exact q1, q2, q3, ?_⟩
      rw [← Tx.size, q4]
      rfl
  · have hlen : (l ++ s.data.toList).length = l.length + s.size := by rw [List.length_append, ← Tx.size]
    have hxl : (Lib.byteCells l).length = l.length := by unfold Lib.byteCells; exact List.length_map ..
    by_cases hroom : l.length + s.size ≤ cap
    · have hr := Dk.run_room (P := Tryz.prog) w 84 9 ty 5 i Tryz.underlying84 Tryz.underlying9 hi hz1 g l.length cap cur fz hg hfz s hroom (by omega)
      have hsz : (cur.toList.take l.length ++ Lib.strCells s ++ cur.toList.drop (l.length + s.size)).length = cur.size := by
        have hcl : cur.toList.length = cur.size := Array.length_toList ..
        rw [List.length_append, List.length_append, List.length_take, List.length_drop, hcl, Lib.strCells_length]
        omega
      refine ⟨_, _, hr, .inr ⟨g, cap, _, fz, by rw [hlen], setRow_heap w g cur _ _ _ hg, ?_, by omega, hcm, ?_, ?_⟩, ⟨rfl, rfl, rfl, by simp, fun k _ hk => setRow_other w g k _ (fun e => hk (by simp [Value.ownBlock, e]))⟩, fun k hk => .inl hk⟩
      · rw [List.size_toArray, hsz]; exact hfz
      · rw [List.size_toArray, hsz]; exact hcs
      · rw [htake, Dk.cells_append]
        exact List.take_left' (by unfold Lib.byteCells; rw [List.length_map])
    · have holds : ∀ j u, (Lib.byteCells l)[j]? = some u → w.cell? ((⟨g, 0, none⟩ : Addr).add j) = some u := by
        intro j u hu
        have hadd : (⟨g, 0, none⟩ : Addr).add j = ⟨g, j, none⟩ := by unfold Addr.add; split <;> simp_all
        rw [hadd, cell_of_row w g j cur _ fz hg]
        rw [← htake, List.getElem?_take] at hu
        split at hu
        · simpa using hu
        · cases hu
      have hr := Lib.run_append_grow_string (P := Tryz.prog) w 84 9 ty 5 i (.int .u8 0) Tryz.underlying84 Tryz.underlying9 hi hz0 ⟨g, 0, none⟩ l.length cap (Lib.byteCells l) (by rw [hz1, Nat.mul_one]; exact hxl) holds s (by omega) (by omega) (by rw [hz2]; exact growslice_fits (by omega) (by omega))
      have hge := grownCap_ge w (l.length + s.size) cap 5
      have hcm2 : grownCap w (l.length + s.size) cap 5 ≤ maxLen := grownCap_le_maxLen w (l.length + s.size) cap 5 (by unfold maxLen; omega)
      refine ⟨_, _, hr, .inr ⟨w.heap.size, _, _, (0, 0), by rw [hlen], heap_alloc_new w.drew _, .inl rfl, by rw [hlen]; exact hge, hcm2, ?_, ?_⟩, ⟨rfl, rfl, rfl, by simp, fun k hk _ => Below.heap_alloc w.drew _ k hk⟩, fun k hk => .inr (by injection hk with hk; exact Nat.le_of_eq hk)⟩
      · have hz1' : (Value.int IntKind.u8 0).cells.size = 1 := rfl
        simp only [Array.size_append, List.size_toArray, size_zeroCells, hz1', hxl, Lib.strCells_length]
        omega
      · simp only [Array.toList_append]
        rw [Dk.cells_append]
        exact List.take_left' (by unfold Lib.byteCells; rw [List.length_map])
end Go.Proofs.YtifkhjihgnnpfaaGreatDoor
