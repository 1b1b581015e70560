/- Disks: the cuts of a crash, as a map. Conditions: each theorem's own hypotheses. -/
import Derived.Test.YtifkhjihgnnpfaaGreatDoorZDkAA
import Derived.Laws.BitsAllLaws
namespace Go.Proofs.YtifkhjihgnnpfaaGreatDoor
open Go.RowKit Go.Maps Go.Sort
set_option linter.unusedVariables false

/-- What a crash leaves of a file: so many bytes, the last one turned. -/
structure Dk.Cut where
  name : List UInt8
  keep : Int
  spoil : UInt8
def Dk.cutZ : Dk.Cut := ⟨[], 0, 0⟩
/-- The first of a name. -/
def Dk.cutOf (l : List Dk.Cut) (nm : List UInt8) : Dk.Cut := (l.find? fun c => c.name == nm).getD Dk.cutZ
def Dk.cutAny (l : List Dk.Cut) (nm : List UInt8) : Bool := l.any fun c => c.name == nm
def Dk.cutV (c : Dk.Cut) : Value := .agg #[Tx.v c.name, .int .i64 c.keep, .int .u8 c.spoil.toNat]
def Dk.cutD (c : Dk.Cut) : DataW Unit := .agg [.lit (.string c.name), .lit (.int .i64 c.keep), .lit (.int .u8 c.spoil.toNat)]
theorem Dk.cutOf_snoc (l : List Dk.Cut) (c : Dk.Cut) (nm : List UInt8) : Dk.cutOf (l ++ [c]) nm = if Dk.cutAny l nm = true then Dk.cutOf l nm else if c.name = nm then c else Dk.cutOf l nm := by
  unfold Dk.cutOf Dk.cutAny
  rw [List.find?_append]
  cases h : l.find? (fun c => c.name == nm) with
  | some x =>
    have : l.any (fun c => c.name == nm) = true := by
      rw [List.any_eq_true]
      exact ⟨x, List.mem_of_find?_eq_some h, by simpa using List.find?_some h⟩
    rw [if_pos this]; rfl
  | none =>
    have : ¬ l.any (fun c => c.name == nm) = true := by
      rw [List.any_eq_true]
      rintro ⟨x, hx, hb⟩
      have := List.find?_eq_none.1 h x hx
      exact this hb
    rw [if_neg this, List.find?_singleton]
    by_cases e : c.name = nm
    · rw [if_pos (by simpa using e), if_pos e]; rfl
    · rw [if_neg (by simpa using e), if_neg e]; rfl
theorem Dk.cutAny_snoc (l : List Dk.Cut) (c : Dk.Cut) (nm : List UInt8) : Dk.cutAny (l ++ [c]) nm = (Dk.cutAny l nm || (c.name == nm)) := by
  unfold Dk.cutAny
  rw [List.any_append]
  simp
/-- How a cut in a map reads. -/
def Dk.Rcs : List Value → Option (DataW Unit × List MemPlace)
  | [.string a, .int ka k, .int ks s] => if ka = .i64 ∧ ks = .u8 then some (.agg [.lit (.string a.data.toList), .lit (.int .i64 k), .lit (.int .u8 s)], []) else none
  | _ => none
def Dk.Rc : Value → Option (DataW Unit × List MemPlace)
  | .agg cs => Dk.Rcs cs.toList
  | _ => none
theorem Dk.Rc_mk (a : ByteArray) (k s : Int) : Dk.Rc (.agg #[.string a, .int .i64 k, .int .u8 s]) = some (.agg [.lit (.string a.data.toList), .lit (.int .i64 k), .lit (.int .u8 s)], []) := rfl
theorem Dk.Rc_inv {v : Value} {y : DataW Unit × List MemPlace} (h : Dk.Rc v = some y) : ∃ (a : ByteArray) (k s : Int), v = .agg #[.string a, .int .i64 k, .int .u8 s] := by
  cases v with
  | agg cs =>
    obtain ⟨l⟩ := cs
    change Dk.Rcs l = some y at h
    unfold Dk.Rcs at h
    split at h
    · split at h
      · rename_i hk
        obtain ⟨rfl, rfl⟩ := hk
        exact ⟨_, _, _, rfl⟩
      · cases h
    · cases h
  | _ => cases h
theorem Dk.Rc_lit {v : Value} {c : Dk.Cut} {ps : List MemPlace} (h : Dk.Rc v = some (Dk.cutD c, ps)) : ∃ a : ByteArray, v = .agg #[.string a, .int .i64 c.keep, .int .u8 c.spoil.toNat] := by
  obtain ⟨a, k, s, rfl⟩ := Dk.Rc_inv h
  rw [Dk.Rc_mk] at h
  unfold Dk.cutD at h
  injection h with h
  injection h with h _
  injection h with h
  injection h with _ h
  injection h with h1 h
  injection h with h2 _
  injection h1 with h1
  injection h1 with _ h1
  injection h2 with h2
  injection h2 with _ h2
  exact ⟨a, by rw [h1, h2]⟩
theorem Dk.zero_cut (w : World) : (zeroValue 113).run Tryz.prog w = .ok (.agg #[.string ⟨#[]⟩, .int .i64 0, .int .u8 0]) w := by
  have h : (Tryz.prog.info? 113).map (fun i => i.zero) = some (some (.agg #[.string ⟨#[]⟩, .int .i64 0, .int .u8 0])) := by kernel_rfl
  cases hi : Tryz.prog.info? 113 with
  | none => rw [hi] at h; cases h
  | some i =>
    rw [hi] at h
    simp at h
    simp [zeroValue, typeInfo, hi, h]
/-- A list of cuts in memory. -/
def Dk.Cts (W : World) (v : Value) (l : List Dk.Cut) : Prop :=
  ((∃ a c, v = .slice a 0 c) ∧ l = []) ∨ ∃ g off c, v = .slice (some ⟨g, off, none⟩) l.length c ∧ g < W.heap.size ∧
    ∀ k x, l[k]? = some x → W.cell? ⟨g, off + k * 3, none⟩ = some (Tx.v x.name) ∧ W.cell? ⟨g, off + k * 3 + 1, none⟩ = some (.int .i64 x.keep) ∧ W.cell? ⟨g, off + k * 3 + 2, none⟩ = some (.int .u8 x.spoil.toNat)
theorem Dk.Cts.keep {W W' : World} {v : Value} {l : List Dk.Cut} (h : Dk.Cts W v l) (hs : W.heap.size ≤ W'.heap.size) (hk : ∀ k, k < W.heap.size → W'.heap[k]? = W.heap[k]?) : Dk.Cts W' v l := by
  rcases h with h | ⟨g, off, c, rfl, hg, h⟩
  · exact .inl h
  · refine .inr ⟨g, off, c, rfl, Nat.lt_of_lt_of_le hg hs, fun k x hx => ?_⟩
    obtain ⟨h1, h2, h3⟩ := h k x hx
    have e := hk g hg
    exact ⟨(World.cell?_of_block e).trans h1, (World.cell?_of_block e).trans h2, (World.cell?_of_block e).trans h3⟩
theorem Dk.Cts.form {W : World} {v : Value} {l : List Dk.Cut} (h : Dk.Cts W v l) : ∃ a c, v = .slice a l.length c := by
  rcases h with ⟨⟨a, c, h1⟩, h2⟩ | ⟨g, off, c, h1, _⟩
  · exact ⟨a, c, by rw [h1, h2]; rfl⟩
  · exact ⟨_, _, h1⟩
/-- The map of the first cuts. -/
structure Dk.Left (W : World) (b n : Nat) (l : List Dk.Cut) (D : DataW Unit) : Prop where
  own : W.ownsMap Tryz.prog 9 Dk.Rc b n D
  isMap : IsMap D
  has : ∀ nm, Maps.has D (.string nm) = Dk.cutAny l nm
  at_ : ∀ nm, D.atKey (.string nm) (Dk.cutD Dk.cutZ) = Dk.cutD (if Dk.cutAny l nm = true then Dk.cutOf l nm else Dk.cutZ)
theorem Dk.cutOf_none {l : List Dk.Cut} {nm : List UInt8} (h : Dk.cutAny l nm = false) : Dk.cutOf l nm = Dk.cutZ := by
  unfold Dk.cutOf Dk.cutAny at *
  cases hf : l.find? (fun c => c.name == nm) with
  | none => rfl
  | some x =>
    have : l.any (fun c => c.name == nm) = true := by
      rw [List.any_eq_true]
      exact ⟨x, List.mem_of_find?_eq_some hf, by simpa using List.find?_some hf⟩
    rw [this] at h; cases h
theorem Dk.Left.val {W : World} {b n : Nat} {l : List Dk.Cut} {D : DataW Unit} (h : Dk.Left W b n l D) (nm : List UInt8) : D.atKey (.string nm) (Dk.cutD Dk.cutZ) = Dk.cutD (Dk.cutOf l nm) := by
  rw [h.at_ nm]
  cases ha : Dk.cutAny l nm with
  | true => rfl
  | false => rw [if_neg (by decide), Dk.cutOf_none ha]
theorem Dk.Left.keep {W W' : World} {b n : Nat} {l : List Dk.Cut} {D : DataW Unit} (h : Dk.Left W b n l D) (hk : W'.heap[b]? = W.heap[b]?) : Dk.Left W' b n l D := by
  refine ⟨?_, h.isMap, h.has, h.at_⟩
  obtain ⟨es, clock, hb, r⟩ := h.own
  exact ⟨es, clock, hk.trans hb, r⟩
/-- A name that is there already. -/
theorem Dk.Left.skip {W : World} {b n : Nat} {l : List Dk.Cut} {D : DataW Unit} (h : Dk.Left W b n l D) {c : Dk.Cut} (hc : Dk.cutAny l c.name = true) : Dk.Left W b n (l ++ [c]) D := by
  have ha : ∀ nm, Dk.cutAny (l ++ [c]) nm = Dk.cutAny l nm := fun nm => by
    rw [Dk.cutAny_snoc]
    by_cases e : c.name = nm
    · rw [← e, hc]; rfl
    · have : (c.name == nm) = false := by simpa using e
      rw [this, Bool.or_false]
  refine ⟨h.own, h.isMap, fun nm => by rw [ha]; exact h.has nm, fun nm => ?_⟩
  rw [ha, h.at_ nm, Dk.cutOf_snoc]
  cases hb : Dk.cutAny l nm with
  | true => rfl
  | false => rfl
/-- A new one. -/
theorem Dk.Left.more {W W' : World} {b n m : Nat} {l : List Dk.Cut} {D : DataW Unit} (h : Dk.Left W b n l D) {c : Dk.Cut} (hc : Dk.cutAny l c.name = false) (ho : W'.ownsMap Tryz.prog 9 Dk.Rc b m (D.put (.string c.name) (Dk.cutD c))) : Dk.Left W' b m (l ++ [c]) (D.put (.string c.name) (Dk.cutD c)) := by
  refine ⟨ho, h.isMap.put _ _, fun nm => ?_, fun nm => ?_⟩
  · rw [Dk.cutAny_snoc]
    by_cases e : c.name = nm
    · subst e
      rw [has_put_same h.isMap (by exact trivial)]
      simp
    · have : (c.name == nm) = false := by simpa using e
      rw [this, Bool.or_false, has_put_other (fun e2 => e (by injection e2 with e2; exact e2.symm)), h.has]
  · by_cases e : c.name = nm
    · subst e
      rw [atKey_put_same h.isMap (by exact trivial), Dk.cutAny_snoc]
      rw [if_pos (by simp), Dk.cutOf_snoc, if_neg (by rw [hc]; decide), if_pos rfl]
    · have hb : (c.name == nm) = false := by simpa using e
      rw [atKey_put_other (fun e2 => e (by injection e2 with e2; exact e2.symm)), h.at_ nm, Dk.cutAny_snoc, hb, Bool.or_false]
      cases ha : Dk.cutAny l nm with
      | true => rw [if_pos rfl, if_pos rfl, Dk.cutOf_snoc, if_pos ha]
      | false => rfl
theorem Dk.Left.start (W : World) : Dk.Left (W.alloc (.map #[] 0)) W.heap.size 0 [] (.map []) :=
  ⟨World.ownsMap_made (H := Unit) W Tryz.prog 9 Dk.Rc, isMap_empty, fun nm => rfl, fun nm => rfl⟩
/-- A name, looked up. -/
theorem Dk.Left.run_ok {W : World} {b n : Nat} {l : List Dk.Cut} {D : DataW Unit} (h : Dk.Left W b n l D) (s : ByteArray) (hs : s.size ≤ maxLen) :
    ∃ (a : ByteArray) (k q : Int), (Instr.lookup 111 (.map (some b)) (.string s) true).run Tryz.prog W = .ok (.tuple #[.agg #[.string a, .int .i64 k, .int .u8 q], .bool (Dk.cutAny l s.data.toList)]) W := by
  have hkey : keyOf Tryz.prog 9 (.string s) = some (.string s.data.toList) := by
    simp [keyOf, Tryz.underlying9, mapKey, hs]
  obtain ⟨v, ps, hrun, hv⟩ := h.own.look_ok Dk.strKeyed Tryz.underlying111 (Dk.zero_cut W) (Dk.Rc_mk _ _ _) hkey
  obtain ⟨a, k, q, rfl⟩ := Dk.Rc_inv hv
  rw [h.has] at hrun
  exact ⟨a, k, q, hrun⟩
theorem Dk.Left.run_at {W : World} {b n : Nat} {l : List Dk.Cut} {D : DataW Unit} (h : Dk.Left W b n l D) (s : ByteArray) (hs : s.size ≤ maxLen) :
    ∃ a : ByteArray, (Instr.lookup 111 (.map (some b)) (.string s) false).run Tryz.prog W = .ok (.agg #[.string a, .int .i64 (Dk.cutOf l s.data.toList).keep, .int .u8 (Dk.cutOf l s.data.toList).spoil.toNat]) W := by
  have hkey : keyOf Tryz.prog 9 (.string s) = some (.string s.data.toList) := by
    simp [keyOf, Tryz.underlying9, mapKey, hs]
  obtain ⟨v, ps, hrun, hv⟩ := h.own.lookup Dk.strKeyed Tryz.underlying111 (Dk.zero_cut W) (show Dk.Rc (.agg #[.string ⟨#[]⟩, .int .i64 0, .int .u8 0]) = some (Dk.cutD Dk.cutZ, []) from rfl) hkey
  rw [h.val] at hv
  obtain ⟨a, rfl⟩ := Dk.Rc_lit hv
  exact ⟨a, hrun⟩
end Go.Proofs.YtifkhjihgnnpfaaGreatDoor
/- Disks: what a crash leaves, plain; the files of a disk without its block. Conditions: each theorem's own hypotheses. -/
namespace Go.Proofs.YtifkhjihgnnpfaaGreatDoor
open Go.RowKit Go.Maps Go.Sort
set_option linter.unusedVariables false

/-- The last byte turned. -/
def Dk.turn (l : List UInt8) (s : UInt8) : List UInt8 := l.set (l.length - 1) (l.getD (l.length - 1) 0 ^^^ s)
/-- How many unsynced bytes stay. -/
def Dk.kept (c : Dk.Cut) (f : Dk.F) : Nat := min (max c.keep 0).toNat (f.data.length - f.sure)
/-- What a crash leaves of a file. -/
def Dk.leave (c : Dk.Cut) (f : Dk.F) : Dk.F :=
  ⟨f.name, if 0 < Dk.kept c f then Dk.turn (f.data.take (f.sure + Dk.kept c f)) c.spoil else f.data.take (f.sure + Dk.kept c f), f.sure + Dk.kept c f⟩
def Dk.left (l : List Dk.Cut) (f : Dk.F) : Dk.F := Dk.leave (Dk.cutOf l f.name) f
def Dk.crash (m : Dk.M) (l : List Dk.Cut) : Dk.M := { m with files := m.files.map (Dk.left l), off := false, left := 0, done := false, age := IntKind.i64.wrap (m.age + 1) }
theorem Dk.kept_le (c : Dk.Cut) (f : Dk.F) (h : f.sure ≤ f.data.length) : f.sure + Dk.kept c f ≤ f.data.length := by unfold Dk.kept; omega
theorem Dk.leave_len (c : Dk.Cut) (f : Dk.F) (h : f.sure ≤ f.data.length) : (Dk.leave c f).data.length = f.sure + Dk.kept c f := by
  have := Dk.kept_le c f h
  unfold Dk.leave
  split
  · unfold Dk.turn
    show (List.set _ _ _).length = _
    rw [List.length_set, List.length_take]; omega
  · show (List.take _ _).length = _
    rw [List.length_take]; omega
theorem Dk.left_le (l : List Dk.Cut) (fs : List Dk.F) (h : ∀ f ∈ fs, f.sure ≤ f.data.length) : Dk.used (fs.map (Dk.left l)) ≤ Dk.used fs := by
  induction fs with
  | nil => exact Nat.le_refl _
  | cons f r ih =>
    have h1 := ih fun g hg => h g (List.mem_cons_of_mem _ hg)
    have h2 := h f (List.mem_cons_self ..)
    have h3 : (Dk.left l f).data.length ≤ f.data.length := by
      unfold Dk.left
      rw [Dk.leave_len _ _ h2]
      exact Dk.kept_le _ _ h2
    rw [List.map_cons, Dk.used_cons, Dk.used_cons]
    omega
theorem Dk.crash_good {m : Dk.M} (hG : Dk.Good m) (l : List Dk.Cut) : Dk.Good (Dk.crash m l) := by
  have hle := Dk.left_le l m.files fun f hf => (hG.file f hf).2.2
  refine ⟨?_, fun f hf => ?_, by show (m.files.map _).length ≤ _; rw [List.length_map]; exact hG.many, hG.cap, Nat.le_trans hle hG.used, by show 0 ≤ _; omega⟩
  · have hu := hG.up
    unfold Dk.Up at hu ⊢
    exact List.pairwise_map.2 hu
  · obtain ⟨g, hg, rfl⟩ := List.mem_map.1 hf
    obtain ⟨h1, h2, h3⟩ := hG.file g hg
    have hl := Dk.leave_len (Dk.cutOf l g.name) g h3
    have hk := Dk.kept_le (Dk.cutOf l g.name) g h3
    refine ⟨h1, by show (Dk.leave _ g).data.length ≤ _; omega, ?_⟩
    show (Dk.leave _ g).sure ≤ (Dk.leave _ g).data.length
    rw [hl]
    exact Nat.le_refl _
/-- A disk's map and files. -/
structure Dk.Body (W : World) (b : Nat) (L : List Dk.X) : Prop where
  map : W.ownsMap Tryz.prog 9 Dk.R b L.length (Dk.dat L)
  file : ∀ x ∈ L, Blk W x.blk 89 #[x.v, .int .i64 x.f.sure] ∧ Dk.Row W x.v x.f.data
  apart : L.Pairwise Dk.Apart
theorem Dk.Stand.body {W : World} {d b : Nat} {m : Dk.M} {L : List Dk.X} (h : Dk.Stand W d b m L) : Dk.Body W b L := ⟨h.map, h.file, h.apart⟩
theorem Dk.Body.keep {W W' : World} {b : Nat} {L : List Dk.X} (h : Dk.Body W b L) (hk : ∀ k, (k = b ∨ ∃ x ∈ L, x.blk = k ∨ x.v.ownBlock = some k) → W'.heap[k]? = W.heap[k]?) : Dk.Body W' b L :=
  ⟨Dk.map_keep h.map (hk b (.inl rfl)), fun x hx => ⟨(hk x.blk (.inr ⟨x, hx, .inl rfl⟩)).trans (h.file x hx).1, (h.file x hx).2.keep fun k e => hk k (.inr ⟨x, hx, .inr e⟩)⟩, h.apart⟩
theorem Dk.Body.alter {W W' : World} {b : Nat} {L : List Dk.X} (h : Dk.Body W b L) (hU : Dk.Up Dk.X.nm L) {x : Dk.X} (hx : x ∈ L) (f' : Dk.F) (v' : Value) (hf : f'.name = x.nm)
    (h1 : Blk W' x.blk 89 #[v', .int .i64 f'.sure]) (h2 : Dk.Row W' v' f'.data)
    (hv : ∀ k, v'.ownBlock = some k → x.v.ownBlock = some k ∨ W.heap.size ≤ k) (hk : ∀ k, k < W.heap.size → k ≠ x.blk → x.v.ownBlock ≠ some k → (k = b ∨ ∃ x ∈ L, x.blk = k ∨ x.v.ownBlock = some k) → W'.heap[k]? = W.heap[k]?) :
    Dk.Body W' b (L.map (Dk.alt x.nm f' v')) := by
  have hxx : ∀ y ∈ L, y.nm = x.nm → y = x := fun y hy e => Dk.key_inj hU hy hx e
  have hap : ∀ y ∈ L, y ≠ x → Dk.Apart y x := fun y hy hne => Dk.pair_mem (fun h => Dk.Apart.symm h) h.apart hy hx hne
  refine ⟨?_, ?_, ?_⟩
  · rw [List.length_map]
    have hdat : Dk.dat (L.map (Dk.alt x.nm f' v')) = Dk.dat L := by
      unfold Dk.dat
      rw [List.map_map]
      refine congrArg _ (List.map_congr_left fun y hy => ?_)
      show ((Lit.string (Dk.alt x.nm f' v' y).nm, DataW.lit (.int .i64 (Dk.alt x.nm f' v' y).blk)) : Lit × DataW Unit) = _
      unfold Dk.alt
      split
      · rename_i e
        show ((Lit.string f'.name, DataW.lit (.int .i64 y.blk)) : Lit × DataW Unit) = _
        rw [hf, e]
      · rfl
    rw [hdat]
    refine Dk.map_keep h.map (hk b h.map.lt (fun e => ?_) (fun e => ?_) (.inl rfl))
    · obtain ⟨es, clock, hmb, _⟩ := h.map
      have h1 := (h.file x hx).1
      unfold Blk at h1
      rw [← e, hmb] at h1; cases h1
    · obtain ⟨es, clock, hmb, _⟩ := h.map
      obtain ⟨cur, fz, h1⟩ := (h.file x hx).2.type e
      rw [hmb] at h1; cases h1
  · intro z hz
    obtain ⟨y, hy, rfl⟩ := List.mem_map.1 hz
    unfold Dk.alt
    by_cases e : y.nm = x.nm
    · rw [if_pos e]
      have := hxx y hy e
      subst this
      exact ⟨h1, h2⟩
    · rw [if_neg e]
      have hne : y ≠ x := fun e2 => e (by rw [e2])
      have ha := hap y hy hne
      obtain ⟨q1, q2⟩ := h.file y hy
      have hyr : ∀ k, y.v.ownBlock = some k → k ≠ x.blk := fun k hk2 e2 => by
        obtain ⟨cur, fz, h3⟩ := q2.type hk2
        have h4 := (h.file x hx).1
        unfold Blk at h4
        rw [e2, h4] at h3
        injection h3 with h3
        injection h3 with _ h3 _
        cases h3
      have hxr : x.v.ownBlock ≠ some y.blk := fun e2 => by
        obtain ⟨cur, fz, h3⟩ := (h.file x hx).2.type e2
        unfold Blk at q1
        rw [q1] at h3
        injection h3 with h3
        injection h3 with _ h3 _
        cases h3
      refine ⟨(hk y.blk q1.lt ha.1 hxr (.inr ⟨y, hy, .inl rfl⟩)).trans q1, q2.keep fun k e2 => hk k (q2.lt k e2) (hyr k e2) (fun e3 => ha.2 k e2 e3) (.inr ⟨y, hy, .inr e2⟩)⟩
  · refine List.pairwise_map.2 ?_
    have hnm : L.Pairwise fun a b => a.nm ≠ b.nm := hU.imp fun {a b} hb e => by
      rw [e, WideAt.bytes_irrefl] at hb
      cases hb
    refine (List.Pairwise.and h.apart hnm).imp_of_mem fun {y z} hy hz ⟨ha, hne⟩ => ?_
    have hvk : ∀ w ∈ L, w ≠ x → ∀ k, v'.ownBlock = some k → w.v.ownBlock ≠ some k := fun w hw hwx k e1 e2 => by
      rcases hv k e1 with e3 | e3
      · exact (hap w hw hwx).2 k e2 e3
      · have := (h.file w hw).2.lt k e2
        omega
    show Dk.Apart _ _
    unfold Dk.alt
    by_cases e : y.nm = x.nm
    · have e2 : z.nm ≠ x.nm := fun e2 => hne (e.trans e2.symm)
      rw [if_pos e, if_neg e2]
      exact ⟨ha.1, fun k => hvk z hz (fun e3 => e2 (by rw [e3])) k⟩
    · rw [if_neg e]
      by_cases e2 : z.nm = x.nm
      · rw [if_pos e2]
        exact ⟨ha.1, fun k e3 e4 => hvk y hy (fun e5 => e (by rw [e5])) k e4 e3⟩
      · rw [if_neg e2]
        exact ha
/-- A slice of another length. -/
def Dk.short (v : Value) (n : Nat) : Value := match v with | .slice a _ c => .slice a n c | v => v
/-- A file behind the crash. -/
def Dk.cr (l : List Dk.Cut) (x : Dk.X) : Dk.X := ⟨Dk.left l x.f, x.blk, Dk.short x.v (x.f.sure + Dk.kept (Dk.cutOf l x.nm) x.f)⟩
/-- The files amid the crash. -/
def Dk.amid (l : List Dk.Cut) (lf : Lit → Bool) (x : Dk.X) : Dk.X := if lf (.string x.nm) = true then x else Dk.cr l x
theorem Dk.amid_nm (l : List Dk.Cut) (lf : Lit → Bool) (x : Dk.X) : (Dk.amid l lf x).nm = x.nm := by
  unfold Dk.amid
  split <;> rfl
theorem Dk.amid_step {l : List Dk.Cut} {lf : Lit → Bool} {L : List Dk.X} (hU : Dk.Up Dk.X.nm L) {x : Dk.X} (hx : x ∈ L) (hl : lf (.string x.nm) = true) :
    (L.map (Dk.amid l lf)).map (Dk.alt x.nm (Dk.cr l x).f (Dk.cr l x).v) = L.map (Dk.amid l fun z => lf z && !z.sameKey (.string x.nm)) := by
  rw [List.map_map]
  refine List.map_congr_left fun y hy => ?_
  show Dk.alt x.nm _ _ (Dk.amid l lf y) = Dk.amid l _ y
  unfold Dk.alt
  rw [Dk.amid_nm]
  by_cases e : y.nm = x.nm
  · have := Dk.key_inj hU hy hx e
    subst this
    rw [if_pos rfl]
    have h1 : Dk.amid l lf y = y := by unfold Dk.amid; rw [if_pos hl]
    rw [h1]
    unfold Dk.amid
    rw [if_neg (by simp [Lit.sameKey])]
    rfl
  · rw [if_neg e]
    unfold Dk.amid
    have : (Lit.string y.nm).sameKey (.string x.nm) = false := by
      show (y.nm == x.nm) = false
      simpa using e
    simp [this]
/-- How many bytes the files have that are done. -/
def Dk.sumOf (l : List Dk.Cut) (lf : Lit → Bool) (L : List Dk.X) : Nat := (L.map fun x => if lf (.string x.nm) = true then 0 else (Dk.left l x.f).data.length).sum
theorem Dk.sumOf_none (l : List Dk.Cut) {lf : Lit → Bool} (h : ∀ k, lf k = false) (L : List Dk.X) : Dk.sumOf l lf L = Dk.used ((L.map fun x => x.f).map (Dk.left l)) := by
  unfold Dk.sumOf Dk.used
  rw [List.map_map, List.map_map]
  refine congrArg List.sum (List.map_congr_left fun x _ => ?_)
  rw [h]
  rfl
theorem Dk.sumOf_all (l : List Dk.Cut) {lf : Lit → Bool} {L : List Dk.X} (h : ∀ x ∈ L, lf (.string x.nm) = true) : Dk.sumOf l lf L = 0 := by
  unfold Dk.sumOf
  induction L with
  | nil => rfl
  | cons x r ih =>
    rw [List.map_cons, List.sum_cons, if_pos (h x (List.mem_cons_self ..)), ih fun y hy => h y (List.mem_cons_of_mem _ hy)]
theorem Dk.sumOf_step {l : List Dk.Cut} {lf : Lit → Bool} : ∀ {L : List Dk.X}, Dk.Up Dk.X.nm L → ∀ {x : Dk.X}, x ∈ L → lf (.string x.nm) = true →
    Dk.sumOf l (fun z => lf z && !z.sameKey (.string x.nm)) L = Dk.sumOf l lf L + (Dk.left l x.f).data.length
  | [], _, x, hx, _ => by cases hx
  | y :: r, hU, x, hx, hl => by
    obtain ⟨h1, h2⟩ := List.pairwise_cons.1 hU
    have same : ∀ z ∈ r, z.nm ≠ x.nm → (if (lf (.string z.nm) && !(Lit.string z.nm).sameKey (.string x.nm)) = true then 0 else (Dk.left l z.f).data.length) = (if lf (.string z.nm) = true then 0 else (Dk.left l z.f).data.length) := fun z _ hne => by
      have : (Lit.string z.nm).sameKey (.string x.nm) = false := by
        show (z.nm == x.nm) = false
        simpa using hne
      rw [this]
      simp
    rcases List.mem_cons.1 hx with rfl | hx2
    · have hr : ∀ z ∈ r, z.nm ≠ x.nm := fun z hz e => by
        have := h1 z hz
        rw [e, WideAt.bytes_irrefl] at this
        cases this
      unfold Dk.sumOf
      rw [List.map_cons, List.sum_cons, List.map_cons, List.sum_cons, List.map_congr_left fun z hz => same z hz (hr z hz), if_pos hl]
      rw [if_neg (by simp [Lit.sameKey])]
      omega
    · have hne : y.nm ≠ x.nm := fun e => by
        have := h1 x hx2
        rw [e, WideAt.bytes_irrefl] at this
        cases this
      have ih := Dk.sumOf_step (l := l) (lf := lf) h2 hx2 hl
      unfold Dk.sumOf at ih ⊢
      rw [List.map_cons, List.sum_cons, List.map_cons, List.sum_cons, ih]
      have : (Lit.string y.nm).sameKey (.string x.nm) = false := by
        show (y.nm == x.nm) = false
        simpa using hne
      simp [this]
      omega
end Go.Proofs.YtifkhjihgnnpfaaGreatDoor
/- Disks: small laws for a crash. Conditions: each theorem's own hypotheses. -/
namespace Go.Proofs.YtifkhjihgnnpfaaGreatDoor
open Go.RowKit Go.Maps Go.Sort
set_option linter.unusedVariables false

theorem Dk.sumOf_le (l : List Dk.Cut) (lf : Lit → Bool) (L : List Dk.X) (h : ∀ x ∈ L, x.f.sure ≤ x.f.data.length) : Dk.sumOf l lf L ≤ Dk.used (L.map fun x => x.f) := by
  induction L with
  | nil => exact Nat.le_refl _
  | cons x r ih =>
    have h1 := ih fun y hy => h y (List.mem_cons_of_mem _ hy)
    have h2 := h x (List.mem_cons_self ..)
    have h3 : (Dk.left l x.f).data.length ≤ x.f.data.length := by
      unfold Dk.left
      rw [Dk.leave_len _ _ h2]
      exact Dk.kept_le _ _ h2
    unfold Dk.sumOf at h1 ⊢
    rw [List.map_cons, List.sum_cons, List.map_cons, Dk.used_cons]
    have h4 : (if lf (.string x.nm) = true then 0 else (Dk.left l x.f).data.length) ≤ x.f.data.length := by split <;> omega
    omega
theorem Dk.xor_u8 (a c : UInt8) : bits .xor .u8 (a.toNat : Int) (c.toNat : Int) = ((a ^^^ c).toNat : Int) := by
  rw [UInt8.toNat_xor]
  exact u8_xor_nat _ _ a.toNat_lt c.toNat_lt
end Go.Proofs.YtifkhjihgnnpfaaGreatDoor
