/- Disks: the cuts of a crash, as a map. Conditions: each theorem's own hypotheses. -/
import Derived.Test.YtgbeeghdoilmkaaDkAA
namespace Go.Proofs.Ytgbeeghdoilmkaa
open Go.RowKit Go.Maps Go.Sort
set_option linter.unusedVariables false

/-- What a crash leaves of a file: so many bytes, the last one turned. -/
structure Dk.Cut where
  name : List UInt8
  keep : Int
  spoil : UInt8
def Dk.cutZ : Dk.Cut := ⟨[], 0, 0⟩
/-- The first of a name. -/
def Dk.cutOf (l : List Dk.Cut) (nm : List UInt8) : Dk.Cut := (l.find? fun c => c.name == nm).getD Dk.cutZ
def Dk.cutAny (l : List Dk.Cut) (nm : List UInt8) : Bool := l.any fun c => c.name == nm
def Dk.cutV (c : Dk.Cut) : Value := .agg #[Tx.v c.name, .int .i64 c.keep, .int .u8 c.spoil.toNat]
def Dk.cutD (c : Dk.Cut) : DataW Unit := .agg [.lit (.string c.name), .lit (.int .i64 c.keep), .lit (.int .u8 c.spoil.toNat)]
theorem Dk.cutOf_snoc (l : List Dk.Cut) (c : Dk.Cut) (nm : List UInt8) : Dk.cutOf (l ++ [c]) nm = if Dk.cutAny l nm = true then Dk.cutOf l nm else if c.name = nm then c else Dk.cutOf l nm := by
  unfold Dk.cutOf Dk.cutAny
  rw [List.find?_append]
  cases h : l.find? (fun c => c.name == nm) with
  | some x =>
    have : l.any (fun c => c.name == nm) = true := by
      rw [List.any_eq_true]
      exact ⟨x, List.mem_of_find?_eq_some h, by simpa using List.find?_some h⟩
    rw [if_pos this]; rfl
  | none =>
    have : ¬ l.any (fun c => c.name == nm) = true := by
      rw [List.any_eq_true]
      rintro ⟨x, hx, hb⟩
      have := List.find?_eq_none.1 h x hx
      exact this hb
    rw [if_neg this, List.find?_singleton]
    by_cases e : c.name = nm
    · rw [if_pos (by simpa using e), if_pos e]; rfl
    · rw [if_neg (by simpa using e), if_neg e]; rfl
theorem Dk.cutAny_snoc (l : List Dk.Cut) (c : Dk.Cut) (nm : List UInt8) : Dk.cutAny (l ++ [c]) nm = (Dk.cutAny l nm || (c.name == nm)) := by
  unfold Dk.cutAny
  rw [List.any_append]
  simp
/-- How a cut in a map reads. -/
def Dk.Rcs : List Value → Option (DataW Unit × List MemPlace)
  | [.string a, .int ka k, .int ks s] => if ka = .i64 ∧ ks = .u8 then some (.agg [.lit (.string a.data.toList), .lit (.int .i64 k), .lit (.int .u8 s)], []) else none
  | _ => none
def Dk.Rc : Value → Option (DataW Unit × List MemPlace)
  | .agg cs => Dk.Rcs cs.toList
  | _ => none
theorem Dk.Rc_mk (a : ByteArray) (k s : Int) : Dk.Rc (.agg #[.string a, .int .i64 k, .int .u8 s]) = some (.agg [.lit (.string a.data.toList), .lit (.int .i64 k), .lit (.int .u8 s)], []) := rfl
theorem Dk.Rc_inv {v : Value} {y : DataW Unit × List MemPlace} (h : Dk.Rc v = some y) : ∃ (a : ByteArray) (k s : Int), v = .agg #[.string a, .int .i64 k, .int .u8 s] := by
  cases v with
  | agg cs =>
    obtain ⟨l⟩ := cs
    change Dk.Rcs l = some y at h
    unfold Dk.Rcs at h
    split at h
    · split at h
      · rename_i hk
        obtain ⟨rfl, rfl⟩ := hk
        exact ⟨_, _, _, rfl⟩
      · cases h
    · cases h
  | _ => cases h
theorem Dk.Rc_lit {v : Value} {c : Dk.Cut} {ps : List MemPlace} (h : Dk.Rc v = some (Dk.cutD c, ps)) : ∃ a : ByteArray, v = .agg #[.string a, .int .i64 c.keep, .int .u8 c.spoil.toNat] := by
  obtain ⟨a, k, s, rfl⟩ := Dk.Rc_inv h
  rw [Dk.Rc_mk] at h
  unfold Dk.cutD at h
  injection h with h
  injection h with h _
  injection h with h
  injection h with _ h
  injection h with h1 h
  injection h with h2 _
  injection h1 with h1
  injection h1 with _ h1
  injection h2 with h2
  injection h2 with _ h2
  exact ⟨a, by rw [h1, h2]⟩
theorem Dk.zero_cut (w : World) : (zeroValue 61).run Try.prog w = .ok (.agg #[.string ⟨#[]⟩, .int .i64 0, .int .u8 0]) w := by
  have h : (Try.prog.info? 61).map (fun i => i.zero) = some (some (.agg #[.string ⟨#[]⟩, .int .i64 0, .int .u8 0])) := by kernel_rfl
  cases hi : Try.prog.info? 61 with
  | none => rw [hi] at h; cases h
  | some i =>
    rw [hi] at h
    simp at h
    simp [zeroValue, typeInfo, hi, h]
/-- A list of cuts in memory. -/
def Dk.Cts (W : World) (v : Value) (l : List Dk.Cut) : Prop :=
  ((∃ a c, v = .slice a 0 c) ∧ l = []) ∨ ∃ g off c, v = .slice (some ⟨g, off, none⟩) l.length c ∧ g < W.heap.size ∧
    ∀ k x, l[k]? = some x → W.cell? ⟨g, off + k * 3, none⟩ = some (Tx.v x.name) ∧ W.cell? ⟨g, off + k * 3 + 1, none⟩ = some (.int .i64 x.keep) ∧ W.cell? ⟨g, off + k * 3 + 2, none⟩ = some (.int .u8 x.spoil.toNat)
theorem Dk.Cts.keep {W W' : World} {v : Value} {l : List Dk.Cut} (h : Dk.Cts W v l) (hs : W.heap.size ≤ W'.heap.size) (hk : ∀ k, k < W.heap.size → W'.heap[k]? = W.heap[k]?) : Dk.Cts W' v l := by
  rcases h with h | ⟨g, off, c, rfl, hg, h⟩
  · exact .inl h
  · refine .inr ⟨g, off, c, rfl, Nat.lt_of_lt_of_le hg hs, fun k x hx => ?_⟩
    obtain ⟨h1, h2, h3⟩ := h k x hx
    have e := hk g hg
    exact ⟨(World.cell?_of_block e).trans h1, (World.cell?_of_block e).trans h2, (World.cell?_of_block e).trans h3⟩
theorem Dk.Cts.form {W : World} {v : Value} {l : List Dk.Cut} (h : Dk.Cts W v l) : ∃ a c, v = .slice a l.length c := by
  rcases h with ⟨⟨a, c, h1⟩, h2⟩ | ⟨g, off, c, h1, _⟩
  · exact ⟨a, c, by rw [h1, h2]; rfl⟩
  · exact ⟨_, _, h1⟩
/-- The map of the first cuts. -/
structure Dk.Left (W : World) (b n : Nat) (l : List Dk.Cut) (D : DataW Unit) : Prop where
  own : W.ownsMap Try.prog 9 Dk.Rc b n D
  isMap : IsMap D
  has : ∀ nm, Maps.has D (.string nm) = Dk.cutAny l nm
  at_ : ∀ nm, D.atKey (.string nm) (Dk.cutD Dk.cutZ) = Dk.cutD (if Dk.cutAny l nm = true then Dk.cutOf l nm else Dk.cutZ)
theorem Dk.cutOf_none {l : List Dk.Cut} {nm : List UInt8} (h : Dk.cutAny l nm = false) : Dk.cutOf l nm = Dk.cutZ := by
  unfold Dk.cutOf Dk.cutAny at *
  cases hf : l.find? (fun c => c.name == nm) with
  | none => rfl
  | some x =>
    have : l.any (fun c => c.name == nm) = true := by
      rw [List.any_eq_true]
      exact ⟨x, List.mem_of_find?_eq_some hf, by simpa using List.find?_some hf⟩
    rw [this] at h; cases h
theorem Dk.Left.val {W : World} {b n : Nat} {l : List Dk.Cut} {D : DataW Unit} (h : Dk.Left W b n l D) (nm : List UInt8) : D.atKey (.string nm) (Dk.cutD Dk.cutZ) = Dk.cutD (Dk.cutOf l nm) := by
  rw [h.at_ nm]
  cases ha : Dk.cutAny l nm with
  | true => rfl
  | false => rw [if_neg (by decide), Dk.cutOf_none ha]
theorem Dk.Left.keep {W W' : World} {b n : Nat} {l : List Dk.Cut} {D : DataW Unit} (h : Dk.Left W b n l D) (hk : W'.heap[b]? = W.heap[b]?) : Dk.Left W' b n l D := by
  refine ⟨?_, h.isMap, h.has, h.at_⟩
  obtain ⟨es, clock, hb, r⟩ := h.own
  exact ⟨es, clock, hk.trans hb, r⟩
/-- A name that is there already. -/
theorem Dk.Left.skip {W : World} {b n : Nat} {l : List Dk.Cut} {D : DataW Unit} (h : Dk.Left W b n l D) {c : Dk.Cut} (hc : Dk.cutAny l c.name = true) : Dk.Left W b n (l ++ [c]) D := by
  have ha : ∀ nm, Dk.cutAny (l ++ [c]) nm = Dk.cutAny l nm := fun nm => by
    rw [Dk.cutAny_snoc]
    by_cases e : c.name = nm
    · rw [← e, hc]; rfl
    · have : (c.name == nm) = false := by simpa using e
      rw [this, Bool.or_false]
  refine ⟨h.own, h.isMap, fun nm => by rw [ha]; exact h.has nm, fun nm => ?_⟩
  rw [ha, h.at_ nm, Dk.cutOf_snoc]
  cases hb : Dk.cutAny l nm with
  | true => rfl
  | false => rfl
/-- A new one. -/
theorem Dk.Left.more {W W' : World} {b n m : Nat} {l : List Dk.Cut} {D : DataW Unit} (h : Dk.Left W b n l D) {c : Dk.Cut} (hc : Dk.cutAny l c.name = false) (ho : W'.ownsMap Try.prog 9 Dk.Rc b m (D.put (.string c.name) (Dk.cutD c))) : Dk.Left W' b m (l ++ [c]) (D.put (.string c.name) (Dk.cutD c)) := by
  refine ⟨ho, h.isMap.put _ _, fun nm => ?_, fun nm => ?_⟩
  · rw [Dk.cutAny_snoc]
    by_cases e : c.name = nm
    · subst e
      rw [has_put_same h.isMap (by exact trivial)]
      simp
    · have : (c.name == nm) = false := by simpa using e
      rw [this, Bool.or_false, has_put_other (fun e2 => e (by injection e2 with e2; exact e2.symm)), h.has]
  · by_cases e : c.name = nm
    · subst e
      rw [atKey_put_same h.isMap (by exact trivial), Dk.cutAny_snoc]
      rw [if_pos (by simp), Dk.cutOf_snoc, if_neg (by rw [hc]; decide), if_pos rfl]
    · have hb : (c.name == nm) = false := by simpa using e
      rw [atKey_put_other (fun e2 => e (by injection e2 with e2; exact e2.symm)), h.at_ nm, Dk.cutAny_snoc, hb, Bool.or_false]
      cases ha : Dk.cutAny l nm with
      | true => rw [if_pos rfl, if_pos rfl, Dk.cutOf_snoc, if_pos ha]
      | false => rfl
theorem Dk.Left.start (W : World) : Dk.Left (W.alloc (.map #[] 0)) W.heap.size 0 [] (.map []) :=
  ⟨World.ownsMap_made (H := Unit) W Try.prog 9 Dk.Rc, isMap_empty, fun nm => rfl, fun nm => rfl⟩
/-- A name, looked up. -/
theorem Dk.Left.run_ok {W : World} {b n : Nat} {l : List Dk.Cut} {D : DataW Unit} (h : Dk.Left W b n l D) (s : ByteArray) (hs : s.size ≤ maxLen) :
    ∃ (a : ByteArray) (k q : Int), (Instr.lookup 91 (.map (some b)) (.string s) true).run Try.prog W = .ok (.tuple #[.agg #[.string a, .int .i64 k, .int .u8 q], .bool (Dk.cutAny l s.data.toList)]) W := by
  have hkey : keyOf Try.prog 9 (.string s) = some (.string s.data.toList) := by
    simp [keyOf, Try.underlying9, mapKey, hs]
  obtain ⟨v, ps, hrun, hv⟩ := h.own.look_ok Dk.strKeyed Try.underlying91 (Dk.zero_cut W) (Dk.Rc_mk _ _ _) hkey
  obtain ⟨a, k, q, rfl⟩ := Dk.Rc_inv hv
  rw [h.has] at hrun
  exact ⟨a, k, q, hrun⟩
theorem Dk.Left.run_at {W : World} {b n : Nat} {l : List Dk.Cut} {D : DataW Unit} (h : Dk.Left W b n l D) (s : ByteArray) (hs : s.size ≤ maxLen) :
    ∃ a : ByteArray, (Instr.lookup 91 (.map (some b)) (.string s) false).run Try.prog W = .ok (.agg #[.string a, .int .i64 (Dk.cutOf l s.data.toList).keep, .int .u8 (Dk.cutOf l s.data.toList).spoil.toNat]) W := by
  have hkey : keyOf Try.prog 9 (.string s) = some (.string s.data.toList) := by
    simp [keyOf, Try.underlying9, mapKey, hs]
  obtain ⟨v, ps, hrun, hv⟩ := h.own.lookup Dk.strKeyed Try.underlying91 (Dk.zero_cut W) (show Dk.Rc (.agg #[.string ⟨#[]⟩, .int .i64 0, .int .u8 0]) = some (Dk.cutD Dk.cutZ, []) from rfl) hkey
  rw [h.val] at hv
  obtain ⟨a, rfl⟩ := Dk.Rc_lit hv
  exact ⟨a, hrun⟩
end Go.Proofs.Ytgbeeghdoilmkaa
