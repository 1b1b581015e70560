/- Sets of hits and piles in memory; contract of best.newPile. Conditions: each theorem's own hypotheses. -/
import Derived.Test.YtlfeibaghfcpaaaDoorHpE
import Derived.Test.YtlfeibaghfcpaaaDoorPh
namespace Go.Proofs.YtlfeibaghfcpaaaDoor
open Go.RowKit Go.Maps
set_option linter.unusedVariables false
set_option linter.unusedSimpArgs false

/-- A set of hits. (c: no more entries than that.) -/
def Hp.Set (W : World) (mb c : Nat) (l : List Pb.H) : Prop :=
  ∃ n, ∃ D : DataW Unit, W.ownsMap Tryd.prog 50 unitElem mb n D ∧ n ≤ c ∧ ∀ h, Hp.Ok h → Maps.has D (Hp.key h) = decide (h ∈ l)
theorem Hp.Set.made (W : World) : Hp.Set (W.alloc (.map #[] 0)) W.heap.size 0 [] :=
  ⟨0, _, World.ownsMap_made W _ _ _, Nat.le_refl _, fun h _ => by simp; rfl⟩
theorem Hp.Set.congr {W : World} {mb c : Nat} {l l' : List Pb.H} (h : Hp.Set W mb c l) (hl : ∀ x, x ∈ l ↔ x ∈ l') : Hp.Set W mb c l' := by
  obtain ⟨n, D, h1, h2, h3⟩ := h
  exact ⟨n, D, h1, h2, fun x hx => by rw [h3 x hx]; simp only [hl]⟩
theorem Hp.Set.more {W : World} {mb c c' : Nat} {l : List Pb.H} (h : Hp.Set W mb c l) (hc : c ≤ c') : Hp.Set W mb c' l := by
  obtain ⟨n, D, h1, h2, h3⟩ := h
  exact ⟨n, D, h1, Nat.le_trans h2 hc, h3⟩
theorem Hp.Set.same {W W' : World} {mb c : Nat} {l : List Pb.H} (h : Hp.Set W mb c l) (hm : W'.heap[mb]? = W.heap[mb]?) : Hp.Set W' mb c l := by
  obtain ⟨n, D, ⟨es, clock, hb, r⟩, h2, h3⟩ := h
  exact ⟨n, D, ⟨es, clock, hm.trans hb, r⟩, h2, h3⟩
theorem Hp.Set.lt {W : World} {mb c : Nat} {l : List Pb.H} (h : Hp.Set W mb c l) : mb < W.heap.size := by
  obtain ⟨n, D, h1, _⟩ := h
  exact h1.lt
theorem Hp.Set.isMap {W : World} {mb c : Nat} {l : List Pb.H} (h : Hp.Set W mb c l) : ∃ es clock, W.heap[mb]? = some (.map es clock) := by
  obtain ⟨n, D, ⟨es, clock, hb, _⟩, _⟩ := h
  exact ⟨es, clock, hb⟩
theorem Hp.zeroUnit (W : World) : (zeroValue 79).run Tryd.prog W = .ok (.agg #[]) W := by kernel_rfl
theorem Hp.Set.look {W : World} {mb c : Nat} {l : List Pb.H} (hS : Hp.Set W mb c l) (h : Pb.H) (ok : Hp.Ok h) :
    (Instr.lookup 66 (.map (some mb)) (.agg (Hp.enc h).toArray) true).run Tryd.prog W = .ok (.tuple #[.agg #[], .bool (decide (h ∈ l))]) W := by
  obtain ⟨n, D, h1, h2, h3⟩ := hS
  obtain ⟨v, ps, hr, hv⟩ := h1.look_ok Hp.hitKey Tryd.underlying66 (Hp.zeroUnit W) unitElem_mk (Hp.keyOf_hit h ok)
  obtain ⟨rfl, _⟩ := unitElem_inv hv
  rw [hr, h3 h ok]
theorem Hp.Set.put {W : World} {mb c : Nat} {l : List Pb.H} (hS : Hp.Set W mb c l) (h : Pb.H) (ok : Hp.Ok h) (hc : c < maxLen) :
    ∃ W1, (Instr.mapUpdate 66 (.map (some mb)) (.agg (Hp.enc h).toArray) (.agg #[])).run Tryd.prog W = .ok () W1 ∧ Hp.Set W1 mb (c + 1) (h :: l) ∧ W.grownBy W1 (some mb) ∧ W1.heap.size = W.heap.size := by
  obtain ⟨n, D, h1, h2, h3⟩ := hS
  obtain ⟨W1, r1, r2, r3⟩ := h1.store Hp.hitKey Tryd.underlying66 (Nat.lt_of_le_of_lt h2 hc) (Hp.keyOf_hit h ok) unitElem_mk
  refine ⟨W1, r1, ⟨n + 1, _, r2, by omega, fun x hx => ?_⟩, r3.grown, ?_⟩
  · by_cases e : x = h
    · subst e
      rw [has_put_same h1.isMap (Hp.hitKey.key (Hp.keyOf_hit x ok))]
      simp
    · rw [has_put_other (fun e2 => e (Hp.key_inj hx ok e2)), h3 x hx]
      simp [e]
  · obtain ⟨es, clock, es', clock', hb, rfl⟩ := r3
    simp [ChangeMaps.setBlock]
theorem Hp.Set.del {W : World} {mb c : Nat} {l : List Pb.H} (hS : Hp.Set W mb c l) (h : Pb.H) (ok : Hp.Ok h) (ty : TypeId) :
    ∃ W1, (Builtin.delete_ #[66, 50] ty #[.map (some mb), .agg (Hp.enc h).toArray]).run Tryd.prog W = .ok (.tuple #[]) W1 ∧ (∀ l', (∀ x, x ∈ l' ↔ x ∈ l ∧ x ≠ h) → Hp.Set W1 mb c l') ∧ W.grownBy W1 (some mb) ∧ W1.heap.size = W.heap.size := by
  obtain ⟨n, D, h1, h2, h3⟩ := hS
  obtain ⟨W1, r1, r2, r3⟩ := h1.drop Hp.hitKey Tryd.underlying66 (Hp.keyOf_hit h ok) ty
  refine ⟨W1, r1, fun l' hl' => ⟨n, _, r2, h2, fun x hx => ?_⟩, r3.grown, ?_⟩
  · by_cases e : x = h
    · subst e
      rw [has_del_same]
      simp [hl']
    · rw [has_del_other (fun e2 => e (Hp.key_inj hx ok e2)), h3 x hx]
      simp [hl', e]
  · obtain ⟨es, clock, es', clock', hb, rfl⟩ := r3
    simp [ChangeMaps.setBlock]

/-- The function by which a pile is a heap. -/
def Hp.less : Value := .func (.func 39) #[] #[]
/-- What is a pile's own. -/
def Hp.foot (b mb : Nat) (A : Option Addr) (k : Nat) : Prop := k = b ∨ k = mb ∨ ∃ a, A = some a ∧ a.block = k
/-- A pile in memory. -/
structure Hp.At (W : World) (b c : Nat) (l : List Pb.H) (A : Option Addr) (cap mb : Nat) : Prop where
  blk : Blk W b 68 #[.slice A l.length cap, Hp.less, .map (some mb)]
  row : W.ownsRow 0 50 3 (.slice A l.length cap) l.length (Hp.cs l)
  has : Hp.Set W mb c l
theorem Hp.At.b_mb {W : World} {b c : Nat} {l : List Pb.H} {A : Option Addr} {cap mb : Nat} (h : Hp.At W b c l A cap mb) : b ≠ mb := by
  rintro rfl
  obtain ⟨es, clock, hb⟩ := h.has.isMap
  have := (show W.heap[b]? = _ from h.blk).symm.trans hb
  cases this
theorem Hp.At.row_cells {W : World} {b c : Nat} {l : List Pb.H} {A : Option Addr} {cap mb : Nat} (h : Hp.At W b c l A cap mb) {a : Addr} (ha : A = some a) : ∃ cur, W.heap[a.block]? = some (.cells cur 50 (0, 0)) := by
  rcases h.row.2 with ⟨e, _⟩ | ⟨g, cap', cur, e, _, hg, _⟩
  · rw [ha] at e; cases e
  · rw [ha] at e
    injection e with e1 e2 e3
    injection e1 with e1
    exact ⟨cur, by rw [e1]; exact hg⟩
theorem Hp.At.b_row {W : World} {b c : Nat} {l : List Pb.H} {A : Option Addr} {cap mb : Nat} (h : Hp.At W b c l A cap mb) {a : Addr} (ha : A = some a) : b ≠ a.block := by
  rintro rfl
  obtain ⟨cur, hc⟩ := h.row_cells ha
  have := (show W.heap[a.block]? = _ from h.blk).symm.trans hc
  simp at this
theorem Hp.At.mb_row {W : World} {b c : Nat} {l : List Pb.H} {A : Option Addr} {cap mb : Nat} (h : Hp.At W b c l A cap mb) {a : Addr} (ha : A = some a) : mb ≠ a.block := by
  rintro rfl
  obtain ⟨cur, hc⟩ := h.row_cells ha
  obtain ⟨es, clock, hb⟩ := h.has.isMap
  have := hb.symm.trans hc
  cases this
theorem Hp.At.lt {W : World} {b c : Nat} {l : List Pb.H} {A : Option Addr} {cap mb : Nat} (h : Hp.At W b c l A cap mb) {k : Nat} (hk : Hp.foot b mb A k) : k < W.heap.size := by
  rcases hk with rfl | rfl | ⟨a, ha, rfl⟩
  · exact h.blk.lt
  · exact h.has.lt
  · obtain ⟨cur, hc⟩ := h.row_cells ha
    exact (Array.getElem?_eq_some_iff.1 hc).1
/-- A pile is as it was where its blocks are. -/
theorem Hp.At.same {W W' : World} {b c : Nat} {l : List Pb.H} {A : Option Addr} {cap mb : Nat} (h : Hp.At W b c l A cap mb) (hk : ∀ k, Hp.foot b mb A k → W'.heap[k]? = W.heap[k]?) : Hp.At W' b c l A cap mb where
  blk := (hk b (.inl rfl)).trans h.blk
  row := by
    rcases h.row.2 with ⟨e1, e2⟩ | ⟨g, cap', cur, e1, e2, e3, r⟩
    · exact ⟨h.row.1, .inl ⟨e1, e2⟩⟩
    · refine ⟨h.row.1, .inr ⟨g, cap', cur, e1, e2, (hk g (.inr (.inr ⟨⟨g, 0, none⟩, ?_, rfl⟩))).trans e3, r⟩⟩
      injection e1
  has := h.has.same (hk mb (.inr (.inl rfl)))
theorem Hp.At.more {W : World} {b c c' : Nat} {l : List Pb.H} {A : Option Addr} {cap mb : Nat} (h : Hp.At W b c l A cap mb) (hc : c ≤ c') : Hp.At W b c' l A cap mb := ⟨h.blk, h.row, h.has.more hc⟩
theorem Hp.newPile_any (W : World) : Calls Tryd.prog 30 #[] W fun e W' => e = .returned (.pointer (some ⟨W.heap.size + 1, 0, none⟩)) ∧ Hp.At W' (W.heap.size + 1) 0 [] none 0 W.heap.size ∧ Below W.heap.size W W' ∧ W'.heap.size = W.heap.size + 2 := by
  have hmm := @run_makeMap Tryd.prog
  go_enter Tryd.func30, Tryd.ntmps30
  go_wp2_with fail
  go_ret
  have b1 := Blk.new (W.alloc (.map #[] 0)) 68 #[.slice none 0 0, Hp.less, .map (some W.heap.size)]
  rw [World.size_alloc] at b1
  refine ⟨rfl, ⟨b1, ⟨rfl, .inl ⟨rfl, rfl⟩⟩, (Hp.Set.made W).same ?_⟩, ((Below.refl _ _).alloc (Nat.le_refl _) _).alloc (by simp) _, by simp⟩
  exact Below.heap_alloc _ _ _ (by simp)
end Go.Proofs.YtlfeibaghfcpaaaDoor
