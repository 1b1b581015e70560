/- Disks: Open, the program's. Conditions: each theorem's own hypotheses. -/
import Derived.Test.YtknemjnlcghafaaDoorDkN
import Derived.Maps.Own
namespace Go.Proofs.YtknemjnlcghafaaDoor
open Go.RowKit Go.Maps Go.Sort
set_option linter.unusedVariables false

theorem Dk.less_eq : ∀ a b : List UInt8, Op.bytesLess a b = bytesBefore a b
  | [], [] => rfl
  | [], _ :: _ => rfl
  | _ :: _, [] => rfl
  | a :: x, b :: y => by
    show (_ || (_ && Op.bytesLess x y)) = (_ || (_ && bytesBefore x y))
    rw [Dk.less_eq x y]
/-- How a test 'a <= b' of texts comes out: by its two parts. -/
theorem Dk.leq_cases (a b : ByteArray) :
    (bytesBefore b.data.toList a.data.toList = true ∧ Op.bytesLess a.toList b.toList = false ∧ (a.toList == b.toList) = false) ∨
    (bytesBefore b.data.toList a.data.toList = false ∧ Op.bytesLess a.toList b.toList = false ∧ (a.toList == b.toList) = true) ∨
    (bytesBefore b.data.toList a.data.toList = false ∧ Op.bytesLess a.toList b.toList = true ∧ (a.toList == b.toList) = false) := by
  rw [Dk.less_eq, ByteArray.toList_eq, ByteArray.toList_eq]
  by_cases h : a.data.toList = b.data.toList
  · rw [h, WideAt.bytes_irrefl]
    exact .inr (.inl ⟨rfl, rfl, by simp⟩)
  · have hne : (a.data.toList == b.data.toList) = false := by simpa using h
    rcases WideAt.bytes_total _ _ h with h1 | h1
    · refine .inr (.inr ⟨?_, h1, hne⟩)
      cases h2 : bytesBefore b.data.toList a.data.toList with
      | false => rfl
      | true =>
        have := WideShapes.bytes_trans _ _ _ h1 h2
        rw [WideAt.bytes_irrefl] at this
        cases this
    · refine .inl ⟨h1, ?_, hne⟩
      cases h2 : bytesBefore a.data.toList b.data.toList with
      | false => rfl
      | true =>
        have := WideShapes.bytes_trans _ _ _ h1 h2
        rw [WideAt.bytes_irrefl] at this
        cases this
theorem Dk.run_leq {P : Program} (a b : ByteArray) (t : TypeId) (q : Bool) (hq : bytesBefore b.data.toList a.data.toList = q) (W : World) : (binOp .leq t (.string a) (.string b)).run P W = .ok (.bool (!q)) W := by
  subst hq
  have h : binOp .leq t (.string a) (.string b) = pure (.bool (Op.bytesLess a.toList b.toList || a.toList == b.toList)) := by simp [binOp, Op.stringOp]
  rw [h]
  rcases Dk.leq_cases a b with ⟨h1, h2, h3⟩ | ⟨h1, h2, h3⟩ | ⟨h1, h2, h3⟩ <;> rw [h1, h2, h3] <;> rfl
/-- len of the map. -/
theorem Dk.Stand.run_len {W : World} {d b : Nat} {m : Dk.M} {L : List Dk.X} (h : Dk.Stand W d b m L) (ty : TypeId) :
    (Builtin.len_ #[69] ty #[.map (some b)]).run Tryd.prog W = .ok (.int .i64 (m.files.length : Int)) W := by
  rw [h.map.len Tryd.underlying69 ty, Dk.dat_size, ← h.fs, List.length_map]
/-- The map is where it was. -/
theorem Dk.map_keep {W W' : World} {b n : Nat} {D : DataW Unit} (h : W.ownsMap Tryd.prog 9 Dk.R b n D) (hk : W'.heap[b]? = W.heap[b]?) : W'.ownsMap Tryd.prog 9 Dk.R b n D := by
  obtain ⟨es, clock, hb, r⟩ := h
  exact ⟨es, clock, hk.trans hb, r⟩
/-- A text made into bytes. -/
theorem Dk.conv_bytes (w : World) (s : ByteArray) (hs : s.size ≤ maxLen) : ∃ g cap w', (convert 9 57 (.string s)).run Tryd.prog w = .ok (.slice (some ⟨g, 0, none⟩) s.size cap) w' ∧ Dk.Row w' (.slice (some ⟨g, 0, none⟩) s.size cap) s.data.toList ∧ Hid (g = w.heap.size) ∧ Below w.heap.size w w' ∧ Hid (w'.heap.size = w.heap.size + 1) := by
  refine ⟨_, _, _, Lib.run_convert_string_bytes w 9 57 5 s Tryd.underlying9 Tryd.underlying57 Tryd.underlying5, Dk.Row.made w s hs, rfl, ⟨rfl, rfl, rfl, ?_, fun k hk => Lib.bytesWorld_at_old w _ s k hk⟩, Lib.bytesWorld_size w _ s⟩
  rw [Lib.bytesWorld_size]; omega
/-- The loop of an opening. -/
structure Dk.OpSt (W wr : World) (d b c : Nat) (R : Option (List Dk.F)) (zb lb : ByteArray) (fu : Nat) (acc : List Dk.F) (L : List Dk.X) : Prop where
  text : Dk.scan fu acc zb.data.toList = R
  len : zb.size < fu
  small : zb.size ≤ 9223372036854775807
  last : lb.data.toList = Dk.lastN acc
  fine : Dk.Fine acc
  st : Dk.Stand wr d b { Dk.fresh c with files := acc } L
  foot : ∀ k, Dk.foot d b L k → W.heap.size ≤ k
  below : Below W.heap.size W wr
/-- A file's cells in memory. -/
def Dk.fcells (v : Value) (n : Nat) : Array Value := #[v, .int .i64 n]
theorem Dk.OpSt.step {W w3 w5 w6 : World} {d b c : Nat} {R : Option (List Dk.F)} {zb lb nb db rb : ByteArray} {fu : Nat} {acc : List Dk.F} {L : List Dk.X} (h : Dk.OpSt W w3 d b c R zb lb fu acc L) {nm data : List UInt8} {g5 cap5 : Nat}
    (hn : Dk.named nm = true) (hd : data.length ≤ 268435456) (hnb : nb.data.toList = nm) (hdb : db.data.toList = data) (hst : Dk.scan (fu - 1) (acc ++ [⟨nm, data, data.length⟩]) rb.data.toList = R) (hlen : rb.size < fu - 1) (hsm : rb.size ≤ 9223372036854775807)
    (hb : bytesBefore (Dk.lastN acc) nm = true) (hm : acc.length ≠ 4096)
    (hrow : Dk.Row w5 (.slice (some ⟨g5, 0, none⟩) db.size cap5) db.data.toList) (hg : g5 = w3.heap.size) (hB5 : Below w3.heap.size w3 w5) (hs5 : w5.heap.size = w3.heap.size + 1)
    (hown : w6.ownsMap Tryd.prog 9 Dk.R b (L.length + 1) ((Dk.dat L).put (.string nm) (.lit (.int .i64 w5.heap.size))))
    (hg6 : (w5.alloc (.cells (Dk.fcells (.slice (some ⟨g5, 0, none⟩) db.size cap5) db.size) 78)).grownBy w6 (some b)) :
    Dk.OpSt W (w6.setCell ⟨d, 2, none⟩ (.int .i64 (Dk.used (acc ++ [⟨nm, data, data.length⟩]) : Nat))) d b c R rb nb (fu - 1) (acc ++ [⟨nm, data, data.length⟩]) (Dk.ins Dk.X.nm ⟨⟨nm, data, data.length⟩, w5.heap.size, .slice (some ⟨g5, 0, none⟩) db.size cap5⟩ L) := by
  have hS := h.st
  have hd3 := hS.disk.lt
  have hb3 := hS.map.lt
  have hdb2 : d ≠ b := fun e => hS.lone b (.inl rfl) e.symm
  have hsz : (w5.alloc (.cells (Dk.fcells (.slice (some ⟨g5, 0, none⟩) db.size cap5) db.size) 78)).heap.size = w3.heap.size + 2 := by rw [World.size_alloc, hs5]
  have h6 := hg6.size
  rw [hsz] at h6
  have hds : db.size = data.length := by rw [Tx.size, hdb]
  have hold : ∀ k, k < w3.heap.size → k ≠ b → w6.heap[k]? = w3.heap[k]? := fun k hk hkb =>
    (hg6.block k (by rw [hsz]; omega) (fun e => hkb (Option.some.inj e))).trans ((Below.heap_alloc w5 _ k (by rw [hs5]; omega)).trans (hB5.block k hk))
  have hnew : ∀ k, k < w3.heap.size + 2 → k ≠ b → w6.heap[k]? = (w5.alloc (.cells (Dk.fcells (.slice (some ⟨g5, 0, none⟩) db.size cap5) db.size) 78)).heap[k]? := fun k hk hkb => hg6.block k (by rw [hsz]; exact hk) (fun e => hkb (Option.some.inj e))
  have hset : ∀ k, k ≠ d → (w6.setCell ⟨d, 2, none⟩ (.int .i64 (Dk.used (acc ++ [⟨nm, data, data.length⟩]) : Nat))).heap[k]? = w6.heap[k]? := fun k hk => Below.heap_setCell w6 ⟨d, 2, none⟩ _ k hk
  obtain ⟨hup1, hup2⟩ := Dk.up_snoc h.fine.up (⟨nm, data, data.length⟩ : Dk.F) hb
  have hno : ∀ y ∈ L, y.nm ≠ nm := by
    intro y hy e
    have hm : y.f ∈ acc := by
      have := hS.fs
      show y.f ∈ ({ Dk.fresh c with files := acc } : Dk.M).files
      rw [← this]
      exact List.mem_map_of_mem hy
    have := hup1 y.f hm
    rw [show y.f.name = nm from e, WideAt.bytes_irrefl] at this
    cases this
  refine ⟨hst, hlen, hsm, by rw [Dk.lastN_snoc]; exact hnb, h.fine.snoc hn hd hb hm, ?_, ?_, ?_⟩
  · refine hS.insert _ ?_ ?_ (Dk.get_none_iff.2 hno) ?_ ?_ ?_ ?_ ?_ ?_
    · have h1 : Blk w6 d 71 (Dk.cells b { Dk.fresh c with files := acc }) := (hold d hd3 hdb2).trans hS.disk
      exact h1.set_ 2 _
    · exact Dk.map_keep hown (hset b (fun e => hdb2 e.symm))
    · exact (Dk.ins_last hup1).symm
    · show Blk _ w5.heap.size _ _
      refine (hset w5.heap.size (by omega)).trans ((hnew w5.heap.size (by omega) (by omega)).trans ?_)
      rw [← hds]
      exact Blk.new w5 _ _
    · have hrow2 : Dk.Row w5 (.slice (some ⟨g5, 0, none⟩) db.size cap5) data := hdb ▸ hrow
      refine hrow2.keep fun k hk => ?_
      have hk2 : g5 = k := Option.some.inj hk
      exact (hset k (by omega)).trans ((hnew k (by omega) (by omega)).trans (Below.heap_alloc w5 _ k (by omega)))
    · show w3.heap.size ≤ w5.heap.size
      omega
    · intro k hk
      have hk2 : g5 = k := Option.some.inj hk
      omega
    · exact fun k h1 h2 h3 => (hset k h2).trans (hold k h1 h3)
  · have hfoot := h.foot
    have hsB := h.below.size
    rintro k (rfl | rfl | ⟨x, hx, hx2⟩)
    · exact hfoot _ (.inl rfl)
    · exact hfoot _ (.inr (.inl rfl))
    · rcases (Dk.mem_ins Dk.X.nm).1 hx with rfl | hx
      · rcases hx2 with e | e
        · have e2 : w5.heap.size = k := e
          rw [← e2, hs5]
          omega
        · have hk2 : g5 = k := Option.some.inj e
          omega
      · exact hfoot _ (.inr (.inr ⟨x, hx, hx2⟩))
  · have hsB := h.below.size
    have hbW := h.foot b (.inr (.inl rfl))
    have hdW := h.foot d (.inl rfl)
    refine h.below.trans ⟨?_, ?_, ?_, ?_, fun k hk => ?_⟩
    · exact hg6.os.trans hB5.os
    · exact hg6.tape.trans hB5.tape
    · exact hg6.output.trans hB5.output
    · show w3.heap.size ≤ (w6.setCell _ _).heap.size
      simp only [World.setCell, Array.size_modify]; omega
    · exact (hset k (by omega)).trans (hold k (by omega) (by omega))
def Dk.lenOf : Value → Nat | .string b => b.size | _ => 0
/-- How an opening ends. -/
def Dk.openV (d : Nat) : Except Int Dk.M → Value
  | .error e => .tuple #[.pointer none, .int .i64 e]
  | .ok _ => .tuple #[.pointer (some ⟨d, 0, none⟩), .int .i64 0]
end Go.Proofs.YtknemjnlcghafaaDoor
