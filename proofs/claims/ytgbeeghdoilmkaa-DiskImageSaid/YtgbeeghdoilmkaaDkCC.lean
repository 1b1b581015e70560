/- Disks: what a crash leaves, plain; the files of a disk without its block. Conditions: each theorem's own hypotheses. -/
import Derived.Test.YtgbeeghdoilmkaaDkBB
namespace Go.Proofs.Ytgbeeghdoilmkaa
open Go.RowKit Go.Maps Go.Sort
set_option linter.unusedVariables false

/-- The last byte turned. -/
def Dk.turn (l : List UInt8) (s : UInt8) : List UInt8 := l.set (l.length - 1) (l.getD (l.length - 1) 0 ^^^ s)
/-- How many unsynced bytes stay. -/
def Dk.kept (c : Dk.Cut) (f : Dk.F) : Nat := min (max c.keep 0).toNat (f.data.length - f.sure)
/-- What a crash leaves of a file. -/
def Dk.leave (c : Dk.Cut) (f : Dk.F) : Dk.F :=
  ⟨f.name, if 0 < Dk.kept c f then Dk.turn (f.data.take (f.sure + Dk.kept c f)) c.spoil else f.data.take (f.sure + Dk.kept c f), f.sure + Dk.kept c f⟩
def Dk.left (l : List Dk.Cut) (f : Dk.F) : Dk.F := Dk.leave (Dk.cutOf l f.name) f
def Dk.crash (m : Dk.M) (l : List Dk.Cut) : Dk.M := { m with files := m.files.map (Dk.left l), off := false, left := 0, done := false, age := IntKind.i64.wrap (m.age + 1) }
theorem Dk.kept_le (c : Dk.Cut) (f : Dk.F) (h : f.sure ≤ f.data.length) : f.sure + Dk.kept c f ≤ f.data.length := by unfold Dk.kept; omega
theorem Dk.leave_len (c : Dk.Cut) (f : Dk.F) (h : f.sure ≤ f.data.length) : (Dk.leave c f).data.length = f.sure + Dk.kept c f := by
  have := Dk.kept_le c f h
  unfold Dk.leave
  split
  · unfold Dk.turn
    show (List.set _ _ _).length = _
    rw [List.length_set, List.length_take]; omega
  · show (List.take _ _).length = _
    rw [List.length_take]; omega
theorem Dk.left_le (l : List Dk.Cut) (fs : List Dk.F) (h : ∀ f ∈ fs, f.sure ≤ f.data.length) : Dk.used (fs.map (Dk.left l)) ≤ Dk.used fs := by
  induction fs with
  | nil => exact Nat.le_refl _
  | cons f r ih =>
    have h1 := ih fun g hg => h g (List.mem_cons_of_mem _ hg)
    have h2 := h f (List.mem_cons_self ..)
    have h3 : (Dk.left l f).data.length ≤ f.data.length := by
      unfold Dk.left
      rw [Dk.leave_len _ _ h2]
      exact Dk.kept_le _ _ h2
    rw [List.map_cons, Dk.used_cons, Dk.used_cons]
    omega
theorem Dk.crash_good {m : Dk.M} (hG : Dk.Good m) (l : List Dk.Cut) : Dk.Good (Dk.crash m l) := by
  have hle := Dk.left_le l m.files fun f hf => (hG.file f hf).2.2
  refine ⟨?_, fun f hf => ?_, by show (m.files.map _).length ≤ _; rw [List.length_map]; exact hG.many, hG.cap, Nat.le_trans hle hG.used, by show 0 ≤ _; omega⟩
  · have hu := hG.up
    unfold Dk.Up at hu ⊢
    exact List.pairwise_map.2 hu
  · obtain ⟨g, hg, rfl⟩ := List.mem_map.1 hf
    obtain ⟨h1, h2, h3⟩ := hG.file g hg
    have hl := Dk.leave_len (Dk.cutOf l g.name) g h3
    have hk := Dk.kept_le (Dk.cutOf l g.name) g h3
    refine ⟨h1, by show (Dk.leave _ g).data.length ≤ _; omega, ?_⟩
    show (Dk.leave _ g).sure ≤ (Dk.leave _ g).data.length
    rw [hl]
    exact Nat.le_refl _
/-- A disk's map and files. -/
structure Dk.Body (W : World) (b : Nat) (L : List Dk.X) : Prop where
  map : W.ownsMap Try.prog 9 Dk.R b L.length (Dk.dat L)
  file : ∀ x ∈ L, Blk W x.blk 83 #[x.v, .int .i64 x.f.sure] ∧ Dk.Row W x.v x.f.data
  apart : L.Pairwise Dk.Apart
theorem Dk.Stand.body {W : World} {d b : Nat} {m : Dk.M} {L : List Dk.X} (h : Dk.Stand W d b m L) : Dk.Body W b L := ⟨h.map, h.file, h.apart⟩
theorem Dk.Body.keep {W W' : World} {b : Nat} {L : List Dk.X} (h : Dk.Body W b L) (hk : ∀ k, (k = b ∨ ∃ x ∈ L, x.blk = k ∨ x.v.ownBlock = some k) → W'.heap[k]? = W.heap[k]?) : Dk.Body W' b L :=
  ⟨Dk.map_keep h.map (hk b (.inl rfl)), fun x hx => ⟨(hk x.blk (.inr ⟨x, hx, .inl rfl⟩)).trans (h.file x hx).1, (h.file x hx).2.keep fun k e => hk k (.inr ⟨x, hx, .inr e⟩)⟩, h.apart⟩
theorem Dk.Body.alter {W W' : World} {b : Nat} {L : List Dk.X} (h : Dk.Body W b L) (hU : Dk.Up Dk.X.nm L) {x : Dk.X} (hx : x ∈ L) (f' : Dk.F) (v' : Value) (hf : f'.name = x.nm)
    (h1 : Blk W' x.blk 83 #[v', .int .i64 f'.sure]) (h2 : Dk.Row W' v' f'.data)
    (hv : ∀ k, v'.ownBlock = some k → x.v.ownBlock = some k ∨ W.heap.size ≤ k) (hk : ∀ k, k < W.heap.size → k ≠ x.blk → x.v.ownBlock ≠ some k → (k = b ∨ ∃ x ∈ L, x.blk = k ∨ x.v.ownBlock = some k) → W'.heap[k]? = W.heap[k]?) :
    Dk.Body W' b (L.map (Dk.alt x.nm f' v')) := by
  have hxx : ∀ y ∈ L, y.nm = x.nm → y = x := fun y hy e => Dk.key_inj hU hy hx e
  have hap : ∀ y ∈ L, y ≠ x → Dk.Apart y x := fun y hy hne => Dk.pair_mem (fun h => Dk.Apart.symm h) h.apart hy hx hne
  refine ⟨?_, ?_, ?_⟩
  · rw [List.length_map]
    have hdat : Dk.dat (L.map (Dk.alt x.nm f' v')) = Dk.dat L := by
      unfold Dk.dat
      rw [List.map_map]
      refine congrArg _ (List.map_congr_left fun y hy => ?_)
      show ((Lit.string (Dk.alt x.nm f' v' y).nm, DataW.lit (.int .i64 (Dk.alt x.nm f' v' y).blk)) : Lit × DataW Unit) = _
      unfold Dk.alt
      split
      · rename_i e
        show ((Lit.string f'.name, DataW.lit (.int .i64 y.blk)) : Lit × DataW Unit) = _
        rw [hf, e]
      · rfl
    rw [hdat]
    refine Dk.map_keep h.map (hk b h.map.lt (fun e => ?_) (fun e => ?_) (.inl rfl))
    · obtain ⟨es, clock, hmb, _⟩ := h.map
      have h1 := (h.file x hx).1
      unfold Blk at h1
      rw [← e, hmb] at h1; cases h1
    · obtain ⟨es, clock, hmb, _⟩ := h.map
      obtain ⟨cur, fz, h1⟩ := (h.file x hx).2.type e
      rw [hmb] at h1; cases h1
  · intro z hz
    obtain ⟨y, hy, rfl⟩ := List.mem_map.1 hz
    unfold Dk.alt
    by_cases e : y.nm = x.nm
    · rw [if_pos e]
      have := hxx y hy e
      subst this
      exact ⟨h1, h2⟩
    · rw [if_neg e]
      have hne : y ≠ x := fun e2 => e (by rw [e2])
      have ha := hap y hy hne
      obtain ⟨q1, q2⟩ := h.file y hy
      have hyr : ∀ k, y.v.ownBlock = some k → k ≠ x.blk := fun k hk2 e2 => by
        obtain ⟨cur, fz, h3⟩ := q2.type hk2
        have h4 := (h.file x hx).1
        unfold Blk at h4
        rw [e2, h4] at h3
        injection h3 with h3
        injection h3 with _ h3 _
        cases h3
      have hxr : x.v.ownBlock ≠ some y.blk := fun e2 => by
        obtain ⟨cur, fz, h3⟩ := (h.file x hx).2.type e2
        unfold Blk at q1
        rw [q1] at h3
        injection h3 with h3
        injection h3 with _ h3 _
        cases h3
      refine ⟨(hk y.blk q1.lt ha.1 hxr (.inr ⟨y, hy, .inl rfl⟩)).trans q1, q2.keep fun k e2 => hk k (q2.lt k e2) (hyr k e2) (fun e3 => ha.2 k e2 e3) (.inr ⟨y, hy, .inr e2⟩)⟩
  · refine List.pairwise_map.2 ?_
    have hnm : L.Pairwise fun a b => a.nm ≠ b.nm := hU.imp fun {a b} hb e => by
      rw [e, WideAt.bytes_irrefl] at hb
      cases hb
    refine (List.Pairwise.and h.apart hnm).imp_of_mem fun {y z} hy hz ⟨ha, hne⟩ => ?_
    have hvk : ∀ w ∈ L, w ≠ x → ∀ k, v'.ownBlock = some k → w.v.ownBlock ≠ some k := fun w hw hwx k e1 e2 => by
      rcases hv k e1 with e3 | e3
      · exact (hap w hw hwx).2 k e2 e3
      · have := (h.file w hw).2.lt k e2
        omega
    show Dk.Apart _ _
    unfold Dk.alt
    by_cases e : y.nm = x.nm
    · have e2 : z.nm ≠ x.nm := fun e2 => hne (e.trans e2.symm)
      rw [if_pos e, if_neg e2]
      exact ⟨ha.1, fun k => hvk z hz (fun e3 => e2 (by rw [e3])) k⟩
    · rw [if_neg e]
      by_cases e2 : z.nm = x.nm
      · rw [if_pos e2]
        exact ⟨ha.1, fun k e3 e4 => hvk y hy (fun e5 => e (by rw [e5])) k e4 e3⟩
      · rw [if_neg e2]
        exact ha
/-- A slice of another length. -/
def Dk.short (v : Value) (n : Nat) : Value := match v with | .slice a _ c => .slice a n c | v => v
/-- A file behind the crash. -/
def Dk.cr (l : List Dk.Cut) (x : Dk.X) : Dk.X := ⟨Dk.left l x.f, x.blk, Dk.short x.v (x.f.sure + Dk.kept (Dk.cutOf l x.nm) x.f)⟩
/-- The files amid the crash. -/
def Dk.amid (l : List Dk.Cut) (lf : Lit → Bool) (x : Dk.X) : Dk.X := if lf (.string x.nm) = true then x else Dk.cr l x
theorem Dk.amid_nm (l : List Dk.Cut) (lf : Lit → Bool) (x : Dk.X) : (Dk.amid l lf x).nm = x.nm := by
  unfold Dk.amid
  split <;> rfl
theorem Dk.amid_step {l : List Dk.Cut} {lf : Lit → Bool} {L : List Dk.X} (hU : Dk.Up Dk.X.nm L) {x : Dk.X} (hx : x ∈ L) (hl : lf (.string x.nm) = true) :
    (L.map (Dk.amid l lf)).map (Dk.alt x.nm (Dk.cr l x).f (Dk.cr l x).v) = L.map (Dk.amid l fun z => lf z && !z.sameKey (.string x.nm)) := by
  rw [List.map_map]
  refine List.map_congr_left fun y hy => ?_
  show Dk.alt x.nm _ _ (Dk.amid l lf y) = Dk.amid l _ y
  unfold Dk.alt
  rw [Dk.amid_nm]
  by_cases e : y.nm = x.nm
  · have := Dk.key_inj hU hy hx e
    subst this
    rw [if_pos rfl]
    have h1 : Dk.amid l lf y = y := by unfold Dk.amid; rw [if_pos hl]
    rw [h1]
    unfold Dk.amid
    rw [if_neg (by simp [Lit.sameKey])]
    rfl
  · rw [if_neg e]
    unfold Dk.amid
    have : (Lit.string y.nm).sameKey (.string x.nm) = false := by
      show (y.nm == x.nm) = false
      simpa using e
    simp [this]
/-- How many bytes the files have that are done. -/
def Dk.sumOf (l : List Dk.Cut) (lf : Lit → Bool) (L : List Dk.X) : Nat := (L.map fun x => if lf (.string x.nm) = true then 0 else (Dk.left l x.f).data.length).sum
theorem Dk.sumOf_none (l : List Dk.Cut) {lf : Lit → Bool} (h : ∀ k, lf k = false) (L : List Dk.X) : Dk.sumOf l lf L = Dk.used ((L.map fun x => x.f).map (Dk.left l)) := by
  unfold Dk.sumOf Dk.used
  rw [List.map_map, List.map_map]
  refine congrArg List.sum (List.map_congr_left fun x _ => ?_)
  rw [h]
  rfl
theorem Dk.sumOf_all (l : List Dk.Cut) {lf : Lit → Bool} {L : List Dk.X} (h : ∀ x ∈ L, lf (.string x.nm) = true) : Dk.sumOf l lf L = 0 := by
  unfold Dk.sumOf
  induction L with
  | nil => rfl
  | cons x r ih =>
    rw [List.map_cons, List.sum_cons, if_pos (h x (List.mem_cons_self ..)), ih fun y hy => h y (List.mem_cons_of_mem _ hy)]
theorem Dk.sumOf_step {l : List Dk.Cut} {lf : Lit → Bool} : ∀ {L : List Dk.X}, Dk.Up Dk.X.nm L → ∀ {x : Dk.X}, x ∈ L → lf (.string x.nm) = true →
    Dk.sumOf l (fun z => lf z && !z.sameKey (.string x.nm)) L = Dk.sumOf l lf L + (Dk.left l x.f).data.length
  | [], _, x, hx, _ => by cases hx
  | y :: r, hU, x, hx, hl => by
    obtain ⟨h1, h2⟩ := List.pairwise_cons.1 hU
    have same : ∀ z ∈ r, z.nm ≠ x.nm → (if (lf (.string z.nm) && !(Lit.string z.nm).sameKey (.string x.nm)) = true then 0 else (Dk.left l z.f).data.length) = (if lf (.string z.nm) = true then 0 else (Dk.left l z.f).data.length) := fun z _ hne => by
      have : (Lit.string z.nm).sameKey (.string x.nm) = false := by
        show (z.nm == x.nm) = false
        simpa using hne
      rw [this]
      simp
    rcases List.mem_cons.1 hx with rfl | hx2
    · have hr : ∀ z ∈ r, z.nm ≠ x.nm := fun z hz e => by
        have := h1 z hz
        rw [e, WideAt.bytes_irrefl] at this
        cases this
      unfold Dk.sumOf
      rw [List.map_cons, List.sum_cons, List.map_cons, List.sum_cons, List.map_congr_left fun z hz => same z hz (hr z hz), if_pos hl]
      rw [if_neg (by simp [Lit.sameKey])]
      omega
    · have hne : y.nm ≠ x.nm := fun e => by
        have := h1 x hx2
        rw [e, WideAt.bytes_irrefl] at this
        cases this
      have ih := Dk.sumOf_step (l := l) (lf := lf) h2 hx2 hl
      unfold Dk.sumOf at ih ⊢
      rw [List.map_cons, List.sum_cons, List.map_cons, List.sum_cons, ih]
      have : (Lit.string y.nm).sameKey (.string x.nm) = false := by
        show (y.nm == x.nm) = false
        simpa using hne
      simp [this]
      omega
end Go.Proofs.Ytgbeeghdoilmkaa
