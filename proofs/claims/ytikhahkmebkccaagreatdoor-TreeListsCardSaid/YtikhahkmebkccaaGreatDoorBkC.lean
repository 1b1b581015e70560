/- A tree in memory; a new one; what it tells of itself. Conditions: each theorem's own hypotheses. -/
import Derived.Test.YtikhahkmebkccaaGreatDoorBkB
namespace Go.Proofs.YtikhahkmebkccaaGreatDoor
open Go.RowKit Go.Maps Go.Sort
set_option linter.unusedVariables false

/-- A node in memory: its block, its map's. -/
structure Bk.X where
  blk : Nat
  mb : Nat
def Bk.adr (L : List Bk.X) (o : Option Nat) : Option Nat := o.bind fun i => L[i]?.map fun x => x.blk
def Bk.kid (l : List Bk.N) (L : List Bk.X) (i : Nat) (e : Int) : Option Nat := if 0 ≤ e then Bk.adr L (Bk.child l i e.toNat) else none
def Bk.nodeCells (n : Bk.N) (d mb : Nat) : Array Value := #[Tx.v n.code, .bool (!n.live), .int .i64 d, .map (some mb)]
/-- How many nodes were looked at, as the counter has it. -/
def Bk.w64 (n : Nat) : Int := IntKind.i64.wrap (n : Int)
theorem Bk.wrap_if (z : Int) : IntKind.i64.wrap z = if 9223372036854775808 ≤ z % 18446744073709551616 then z % 18446744073709551616 - 18446744073709551616 else z % 18446744073709551616 := by
  have e1 : ((2 : Int) ^ IntKind.i64.bits) = 18446744073709551616 := rfl
  have e2 : ((2 : Int) ^ (IntKind.i64.bits - 1)) = 9223372036854775808 := rfl
  have e3 : IntKind.i64.signed = true := rfl
  unfold IntKind.wrap
  simp only [e1, e2, e3, Bool.true_and, ge_iff_le, decide_eq_true_eq]
theorem Bk.w64_succ (n : Nat) : IntKind.i64.wrap (Bk.w64 n + 1) = Bk.w64 (n + 1) := by
  unfold Bk.w64
  rw [Bk.wrap_if (n : Int)]
  by_cases h1 : 9223372036854775808 ≤ (n : Int) % 18446744073709551616
  · rw [if_pos h1, Bk.wrap_if, Bk.wrap_if]
    split <;> split <;> omega
  · rw [if_neg h1, Bk.wrap_if, Bk.wrap_if]
    split <;> split <;> omega
def Bk.treeCells (T : Bk.T) (L : List Bk.X) (bm : Nat) : Array Value := #[.int .i64 T.w, Bk.ptr (Bk.adr L (some 0)), .map (some bm), .int .i64 (Bk.live T.l : Nat), .int .i64 (Bk.depth (Bk.os T.l) : Nat), .int .i64 (Bk.w64 T.seen)]
/-- No block serves twice. -/
structure Bk.Apart (t bm : Nat) (L : List Bk.X) : Prop where
  tm : t ≠ bm
  tx : ∀ x ∈ L, x.blk ≠ t ∧ x.mb ≠ t ∧ x.blk ≠ bm ∧ x.mb ≠ bm
  xx : ∀ (i j : Nat) (x y : Bk.X), L[i]? = some x → L[j]? = some y → (x.blk = y.blk → i = j) ∧ (x.mb = y.mb → i = j) ∧ x.blk ≠ y.mb
structure Bk.Stand (W : World) (t bm : Nat) (T : Bk.T) (L : List Bk.X) : Prop where
  len : L.length = T.l.length
  tree : Blk W t 44 (Bk.treeCells T L bm)
  map : Bk.SMap W bm T.l.length fun c => Bk.adr L (Bk.find T.l c)
  node : ∀ (i : Nat) (x : Bk.X) (n : Bk.N), L[i]? = some x → T.l[i]? = some n → Blk W x.blk 66 (Bk.nodeCells n ((Bk.deeps (Bk.os T.l)).getD i 0) x.mb) ∧ Bk.IMap W x.mb T.l.length (Bk.kid T.l L i)
  apart : Bk.Apart t bm L
/-- Its blocks. -/
def Bk.foot (t bm : Nat) (L : List Bk.X) (k : Nat) : Prop := k = t ∨ k = bm ∨ ∃ x ∈ L, x.blk = k ∨ x.mb = k
section
variable {W W' : World} {t bm : Nat} {T : Bk.T} {L : List Bk.X}
theorem Bk.Stand.at_ (h : Bk.Stand W t bm T L) {i : Nat} {x : Bk.X} (hx : L[i]? = some x) : ∃ n, T.l[i]? = some n := by
  have hi := (List.getElem?_eq_some_iff.1 hx).1
  exact ⟨_, List.getElem?_eq_getElem (by have := h.len; omega)⟩
theorem Bk.Stand.at' (h : Bk.Stand W t bm T L) {i : Nat} {n : Bk.N} (hn : T.l[i]? = some n) : ∃ x, L[i]? = some x := by
  have hi := (List.getElem?_eq_some_iff.1 hn).1
  exact ⟨_, List.getElem?_eq_getElem (by have := h.len; omega)⟩
theorem Bk.Stand.lt (h : Bk.Stand W t bm T L) {k : Nat} (hk : Bk.foot t bm L k) : k < W.heap.size := by
  rcases hk with rfl | rfl | ⟨x, hx, e⟩
  · exact h.tree.lt
  · exact h.map.lt
  · obtain ⟨i, hi⟩ := List.mem_iff_getElem?.1 hx
    obtain ⟨n, hn⟩ := h.at_ hi
    obtain ⟨h1, h2⟩ := h.node i x n hi hn
    rcases e with rfl | rfl
    · exact h1.lt
    · exact h2.lt
theorem Bk.Stand.keep (h : Bk.Stand W t bm T L) (hk : ∀ k, Bk.foot t bm L k → W'.heap[k]? = W.heap[k]?) : Bk.Stand W' t bm T L :=
  ⟨h.len, (hk t (.inl rfl)).trans h.tree, h.map.keep (hk bm (.inr (.inl rfl))), fun i x n hx hn => ⟨(hk x.blk (.inr (.inr ⟨x, List.mem_of_getElem? hx, .inl rfl⟩))).trans (h.node i x n hx hn).1, (h.node i x n hx hn).2.keep (hk x.mb (.inr (.inr ⟨x, List.mem_of_getElem? hx, .inr rfl⟩)))⟩, h.apart⟩
theorem Bk.Stand.later (h : Bk.Stand W t bm T L) {B : Nat} (hB : Below B W W') (hs : W.heap.size ≤ B) : Bk.Stand W' t bm T L :=
  h.keep fun k hk => hB.block k (Nat.lt_of_lt_of_le (h.lt hk) hs)
theorem Bk.Stand.dn (h : Bk.Stand W t bm T L) (hd : Bk.Dn W W') : Bk.Stand W' t bm T L := by
  obtain ⟨n, rfl⟩ := hd
  exact h.keep fun k _ => rfl
theorem Bk.Stand.six (h : Bk.Stand W t bm T L) :
    W.cell? ⟨t, 0, none⟩ = some (.int .i64 T.w) ∧ W.cell? ⟨t, 1, none⟩ = some (Bk.ptr (Bk.adr L (some 0))) ∧ W.cell? ⟨t, 2, none⟩ = some (.map (some bm)) ∧ W.cell? ⟨t, 3, none⟩ = some (.int .i64 (Bk.live T.l : Nat)) ∧ W.cell? ⟨t, 4, none⟩ = some (.int .i64 (Bk.depth (Bk.os T.l) : Nat)) ∧ W.cell? ⟨t, 5, none⟩ = some (.int .i64 (Bk.w64 T.seen)) :=
  ⟨h.tree.cell 0, h.tree.cell 1, h.tree.cell 2, h.tree.cell 3, h.tree.cell 4, h.tree.cell 5⟩
theorem Bk.Stand.four (h : Bk.Stand W t bm T L) {i : Nat} {x : Bk.X} {n : Bk.N} (hx : L[i]? = some x) (hn : T.l[i]? = some n) :
    W.cell? ⟨x.blk, 0, none⟩ = some (Tx.v n.code) ∧ W.cell? ⟨x.blk, 1, none⟩ = some (.bool (!n.live)) ∧ W.cell? ⟨x.blk, 2, none⟩ = some (.int .i64 ((Bk.deeps (Bk.os T.l)).getD i 0 : Nat)) ∧ W.cell? ⟨x.blk, 3, none⟩ = some (.map (some x.mb)) :=
  ⟨(h.node i x n hx hn).1.cell 0, (h.node i x n hx hn).1.cell 1, (h.node i x n hx hn).1.cell 2, (h.node i x n hx hn).1.cell 3⟩
end
theorem Bk.wf_nat (e : Nat) (h : e ≤ 9223372036854775807) : (Lit.int .i64 (e : Int)).wf = true := by
  simp [Lit.wf, IntKind.min, IntKind.max, IntKind.bits, IntKind.signed]; omega
theorem Bk.key_int (e : Nat) (h : e ≤ 9223372036854775807) : keyOf Tryz.prog 3 (.int .i64 e) = some (.int .i64 e) := keyOf_int_mk Tryz.underlying3 (Bk.wf_nat e h)
theorem Bk.key_str (c : ByteArray) (h : c.size ≤ 9223372036854775807) : keyOf Tryz.prog 9 (.string c) = some (.string c.data.toList) := by
  have : c.size ≤ maxLen := h
  simp [keyOf, Tryz.underlying9, mapKey, this]

/-- A tree stands at t; its blocks are these. -/
def Bk.At (W : World) (t : Nat) (T : Bk.T) (F : Nat → Prop) : Prop := ∃ bm L, Bk.Stand W t bm T L ∧ F = Bk.foot t bm L
/-- .. and so it has become, and nothing else has changed. -/
def Bk.Moved (W W' : World) (t : Nat) (F : Nat → Prop) (T' : Bk.T) : Prop := ∃ F', Bk.At W' t T' F' ∧ Bk.Only F W W' ∧ ∀ k, F' k → F k ∨ W.heap.size ≤ k
section
variable {W W' : World} {t : Nat} {T : Bk.T} {F : Nat → Prop}
theorem Bk.At.lt (h : Bk.At W t T F) {k : Nat} (hk : F k) : k < W.heap.size := by
  obtain ⟨b, L, hS, rfl⟩ := h
  exact hS.lt hk
theorem Bk.At.self (h : Bk.At W t T F) : F t := by
  obtain ⟨b, L, hS, rfl⟩ := h
  exact .inl rfl
theorem Bk.At.keep (h : Bk.At W t T F) (hk : ∀ k, F k → W'.heap[k]? = W.heap[k]?) : Bk.At W' t T F := by
  obtain ⟨b, L, hS, rfl⟩ := h
  exact ⟨b, L, hS.keep hk, rfl⟩
theorem Bk.At.later (h : Bk.At W t T F) {B : Nat} (hB : Below B W W') (hs : W.heap.size ≤ B) : Bk.At W' t T F :=
  h.keep fun k hk => hB.block k (Nat.lt_of_lt_of_le (h.lt hk) hs)
theorem Bk.At.apart {G : Nat → Prop} (h : Bk.At W t T F) (ho : Bk.Only G W W') (hG : ∀ k, F k → ¬ G k) : Bk.At W' t T F :=
  h.keep fun k hk => ho.block k (h.lt hk) (hG k hk)

set_option maxRecDepth 100000 in
theorem Bk.new_none (w : Int) (hw : Bt.wide w = false) (W : World) :
    Calls Tryz.prog 6 #[.int .i64 w] W fun e W' => e = .returned (.pointer none) ∧ W = W' := by
  by_cases h1 : w < 64
  · have u1 : decide (w < 64) = true := decide_eq_true h1
    clear hw
    go_enter Tryz.func6, Tryz.ntmps6
    go_wp2_with fail
    go_ret
    exact ⟨rfl, rfl⟩
  · have u1 : decide (w < 64) = false := decide_eq_false h1
    by_cases h2 : 1024 < w
    · have u2 : decide (1024 < w) = true := decide_eq_true h2
      clear hw
      go_enter Tryz.func6, Tryz.ntmps6
      go_wp2_with fail
      go_ret
      exact ⟨rfl, rfl⟩
    · have u2 : decide (1024 < w) = false := decide_eq_false h2
      have u3 : (w % 64 != 0) = true := by unfold Bt.wide at hw; simp at hw ⊢; omega
      have u4 : (w % 64 == 0) = false := by unfold Bt.wide at hw; simp at hw ⊢; omega
      clear hw
      go_enter Tryz.func6, Tryz.ntmps6
      go_wp2_with fail
      go_ret
      exact ⟨rfl, rfl⟩
set_option maxRecDepth 100000 in
theorem Bk.new_any (w : Nat) (hw : Bt.wide w = true) (W : World) :
    Calls Tryz.prog 6 #[.int .i64 w] W fun e W' => ∃ t F, e = .returned (.pointer (some ⟨t, 0, none⟩)) ∧ Bk.At W' t ⟨w, [], 0⟩ F ∧ Below W.heap.size W W' ∧ ∀ k, F k → W.heap.size ≤ k := by
  have hmm := @run_makeMap Tryz.prog
  obtain ⟨h1, h2, h3⟩ := Bt.wide_in hw
  have u1 : decide ((w : Int) < 64) = false := decide_eq_false (by omega)
  have u2 : decide (1024 < (w : Int)) = false := decide_eq_false (by omega)
  have u3 : ((w : Int) % 64 != 0) = false := by simp; omega
  have u4 : ((w : Int) % 64 == 0) = true := by simp; omega
  clear hw h3
  go_enter Tryz.func6, Tryz.ntmps6
  go_wp2_with fail
  go_ret
  refine ⟨_, _, rfl, ⟨W.heap.size, [], ⟨rfl, ?_, ?_, fun i x n hx _ => by simp at hx, ⟨?_, fun x hx => (List.not_mem_nil hx).elim, fun i j x y hx _ => by simp at hx⟩⟩, rfl⟩, ((Below.refl _ _).alloc (Nat.le_refl _) _).alloc (by simp) _, ?_⟩
  · have := Blk.new (W.alloc (.map #[] 0)) 44 (Bk.treeCells ⟨w, [], 0⟩ [] W.heap.size)
    rw [World.size_alloc] at this
    exact this
  · exact (Bk.MapAt.made W 9 (fun c => .string c) (fun z => z = 0) rfl).keep (Below.heap_alloc _ _ _ (by simp))
  · simp
  · rintro k (rfl | rfl | ⟨x, hx, _⟩)
    · simp
    · exact Nat.le_refl _
    · exact (List.not_mem_nil hx).elim
theorem Bk.len_any (h : Bk.At W t T F) : Calls Tryz.prog 19 #[.pointer (some ⟨t, 0, none⟩)] W fun e W' => e = .returned (.int .i64 (Bk.live T.l : Nat)) ∧ W = W' := by
  obtain ⟨b, L, hS, rfl⟩ := h
  obtain ⟨c0, c1, c2, c3, c4, c5⟩ := hS.six
  go_enter Tryz.func19, Tryz.ntmps19
  go_wp2_with fail
  go_ret
  exact ⟨rfl, rfl⟩
theorem Bk.depth_any (h : Bk.At W t T F) : Calls Tryz.prog 21 #[.pointer (some ⟨t, 0, none⟩)] W fun e W' => e = .returned (.int .i64 (Bk.depth (Bk.os T.l) : Nat)) ∧ W = W' := by
  obtain ⟨b, L, hS, rfl⟩ := h
  obtain ⟨c0, c1, c2, c3, c4, c5⟩ := hS.six
  go_enter Tryz.func21, Tryz.ntmps21
  go_wp2_with fail
  go_ret
  exact ⟨rfl, rfl⟩
theorem Bk.looked_any (h : Bk.At W t T F) : Calls Tryz.prog 17 #[.pointer (some ⟨t, 0, none⟩)] W fun e W' => e = .returned (.int .i64 (Bk.w64 T.seen)) ∧ W = W' := by
  obtain ⟨b, L, hS, rfl⟩ := h
  obtain ⟨c0, c1, c2, c3, c4, c5⟩ := hS.six
  go_enter Tryz.func17, Tryz.ntmps17
  go_wp2_with fail
  go_ret
  exact ⟨rfl, rfl⟩
theorem Bk.nodes_any (h : Bk.At W t T F) : Calls Tryz.prog 20 #[.pointer (some ⟨t, 0, none⟩)] W fun e W' => e = .returned (.int .i64 (T.l.length : Nat)) ∧ W = W' := by
  obtain ⟨b, L, hS, rfl⟩ := h
  obtain ⟨c0, c1, c2, c3, c4, c5⟩ := hS.six
  obtain ⟨D, hD, hf, hz⟩ := hS.map
  rw [← hz]
  clear hz
  have hl := fun ty => hD.len (t := 41) (e := 42) Tryz.underlying41 ty
  clear hf
  go_enter Tryz.func20, Tryz.ntmps20
  go_wp2_with fail
  go_ret
  exact ⟨rfl, rfl⟩
end
end Go.Proofs.YtikhahkmebkccaaGreatDoor
