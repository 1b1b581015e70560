/- Disks: a file written over in its place. Conditions: each theorem's own hypotheses. -/
import Derived.Test.YtgbeeghdoilmkaaDkQ
namespace Go.Proofs.Ytgbeeghdoilmkaa
open Go.RowKit Go.Maps Go.Sort
set_option linter.unusedVariables false

section
variable {α : Type} {key : α → List UInt8}
theorem Dk.key_inj {l : List α} (h : Dk.Up key l) {x y : α} (hx : x ∈ l) (hy : y ∈ l) (e : key x = key y) : x = y := by
  induction l with
  | nil => cases hx
  | cons z r ih =>
    obtain ⟨h1, h2⟩ := List.pairwise_cons.1 h
    have no : ∀ w ∈ r, key z ≠ key w := fun w hw e => by
      have := h1 w hw
      rw [e, WideAt.bytes_irrefl] at this
      cases this
    rcases List.mem_cons.1 hx with e1 | hx2
    · rcases List.mem_cons.1 hy with e2 | hy2
      · exact e1.trans e2.symm
      · exact absurd (e1 ▸ e) (no y hy2)
    · rcases List.mem_cons.1 hy with e2 | hy2
      · exact absurd (e2 ▸ e.symm) (no x hx2)
      · exact ih h2 hx2 hy2
/-- Whatever is found stands in front of the others. -/
theorem Dk.perm_get {nm : List UInt8} : ∀ {l : List α}, Dk.Up key l → ∀ {x : α}, Dk.get key nm l = some x → l.Perm (x :: Dk.del key nm l)
  | [], _, x, h => by cases h
  | z :: r, hu, x, h => by
    obtain ⟨h1, h2⟩ := List.pairwise_cons.1 hu
    unfold Dk.get at h
    rw [List.find?_cons] at h
    by_cases e : key z = nm
    · have e2 : (key z == nm) = true := by simpa using e
      rw [e2] at h
      injection h with h
      subst h
      have hd : Dk.del key nm (z :: r) = r := by
        unfold Dk.del
        rw [List.filter_cons, e2]
        refine List.filter_eq_self.2 fun y hy => ?_
        have hb := h1 y hy
        have : key y ≠ nm := fun e3 => by rw [e, e3, WideAt.bytes_irrefl] at hb; cases hb
        simp [this]
      rw [hd]
    · have e2 : (key z == nm) = false := by simpa using e
      rw [e2] at h
      have hd : Dk.del key nm (z :: r) = z :: Dk.del key nm r := by
        unfold Dk.del
        rw [List.filter_cons, e2]; rfl
      rw [hd]
      exact ((Dk.perm_get h2 h).cons z).trans (List.Perm.swap _ _ _)
end
/-- A file in the place of the one of its name. -/
def Dk.upd (nm : List UInt8) (f : Dk.F) (l : List Dk.F) : List Dk.F := l.map fun g => if g.name = nm then f else g
def Dk.alt (nm : List UInt8) (f : Dk.F) (v : Value) (y : Dk.X) : Dk.X := if y.nm = nm then ⟨f, y.blk, v⟩ else y
theorem Dk.upd_perm {nm : List UInt8} (f' : Dk.F) : ∀ {l : List Dk.F}, Dk.Up Dk.F.name l → ∀ {f : Dk.F}, Dk.get Dk.F.name nm l = some f → (Dk.upd nm f' l).Perm (f' :: Dk.del Dk.F.name nm l)
  | [], _, x, h => by cases h
  | z :: r, hu, x, h => by
    obtain ⟨h1, h2⟩ := List.pairwise_cons.1 hu
    unfold Dk.get at h
    rw [List.find?_cons] at h
    by_cases e : z.name = nm
    · have e2 : (z.name == nm) = true := by simpa using e
      have hne : ∀ y ∈ r, y.name ≠ nm := fun y hy e3 => by
        have hb := h1 y hy
        rw [e, e3, WideAt.bytes_irrefl] at hb
        cases hb
      have hd : Dk.del Dk.F.name nm (z :: r) = r := by
        unfold Dk.del
        rw [List.filter_cons, e2]
        exact List.filter_eq_self.2 fun y hy => by simp [hne y hy]
      have hu2 : Dk.upd nm f' (z :: r) = f' :: r := by
        unfold Dk.upd
        rw [List.map_cons, if_pos e]
        refine congrArg _ ?_
        have : ∀ y ∈ r, (if y.name = nm then f' else y) = y := fun y hy => if_neg (hne y hy)
        rw [List.map_congr_left this, List.map_id']
      rw [hd, hu2]
    · have e2 : (z.name == nm) = false := by simpa using e
      rw [e2] at h
      have hd : Dk.del Dk.F.name nm (z :: r) = z :: Dk.del Dk.F.name nm r := by
        unfold Dk.del
        rw [List.filter_cons, e2]; rfl
      have hu2 : Dk.upd nm f' (z :: r) = z :: Dk.upd nm f' r := by
        unfold Dk.upd
        rw [List.map_cons, if_neg e]
      rw [hd, hu2]
      exact ((Dk.upd_perm f' h2 h).cons z).trans (List.Perm.swap _ _ _)
theorem Dk.used_upd {nm : List UInt8} (f' : Dk.F) {l : List Dk.F} (h : Dk.Up Dk.F.name l) {f : Dk.F} (hf : Dk.get Dk.F.name nm l = some f) : Dk.used (Dk.upd nm f' l) + f.data.length = Dk.used l + f'.data.length := by
  rw [Dk.used_perm (Dk.upd_perm f' h hf), Dk.used_perm (Dk.perm_get h hf), Dk.used_cons, Dk.used_cons]
  omega
theorem Dk.upd_names {nm : List UInt8} {f : Dk.F} (hf : f.name = nm) (l : List Dk.F) : (Dk.upd nm f l).map Dk.F.name = l.map Dk.F.name := by
  unfold Dk.upd
  rw [List.map_map]
  refine List.map_congr_left fun g _ => ?_
  show (if g.name = nm then f else g).name = g.name
  split
  · rename_i e; rw [hf, e]
  · rfl
theorem Dk.upd_up {nm : List UInt8} {f : Dk.F} (hf : f.name = nm) {l : List Dk.F} (h : Dk.Up Dk.F.name l) : Dk.Up Dk.F.name (Dk.upd nm f l) := by
  unfold Dk.Up at h ⊢
  have h2 := List.pairwise_map (f := Dk.F.name) (R := fun a b => bytesBefore a b = true) (l := l)
  have h3 := h2.2 h
  rw [← Dk.upd_names hf l] at h3
  exact List.pairwise_map.1 h3
theorem Dk.mem_upd {nm : List UInt8} {f g : Dk.F} {l : List Dk.F} (h : g ∈ Dk.upd nm f l) : g = f ∨ g ∈ l := by
  unfold Dk.upd at h
  obtain ⟨y, hy, rfl⟩ := List.mem_map.1 h
  split
  · exact .inl rfl
  · exact .inr hy
theorem Dk.upd_good {m : Dk.M} (hG : Dk.Good m) {nm : List UInt8} {f : Dk.F} (hf : f.name = nm) (hn : Dk.named nm = true) (h1 : f.data.length ≤ 268435456) (h2 : f.sure ≤ f.data.length) (last : Bool) (hu : Dk.used (Dk.upd nm f m.files) ≤ m.cap) : Dk.Good (Dk.acc m last (Dk.upd nm f m.files)).1 := by
  refine Dk.acc_good hG last _ (Dk.upd_up hf hG.up) (fun g hg => ?_) (by unfold Dk.upd; rw [List.length_map]; exact hG.many) hu
  rcases Dk.mem_upd hg with rfl | hg
  · rw [hf]; exact ⟨hn, h1, h2⟩
  · exact hG.file g hg
theorem Dk.Stand.up {W : World} {d b : Nat} {m : Dk.M} {L : List Dk.X} (h : Dk.Stand W d b m L) (hu : Dk.Up Dk.F.name m.files) : Dk.Up Dk.X.nm L := by
  unfold Dk.Up at hu ⊢
  rw [← h.fs, List.pairwise_map] at hu
  exact hu
theorem Dk.pair_mem {α : Type} {R : α → α → Prop} (hs : ∀ {a b}, R a b → R b a) : ∀ {l : List α}, l.Pairwise R → ∀ {x y : α}, x ∈ l → y ∈ l → x ≠ y → R x y
  | [], _, x, _, h, _, _ => by cases h
  | z :: r, h, x, y, hx, hy, hne => by
    obtain ⟨h1, h2⟩ := List.pairwise_cons.1 h
    rcases List.mem_cons.1 hx with e1 | hx2
    · rcases List.mem_cons.1 hy with e2 | hy2
      · exact absurd (e1.trans e2.symm) hne
      · rw [e1]; exact h1 y hy2
    · rcases List.mem_cons.1 hy with e2 | hy2
      · rw [e2]; exact hs (h1 x hx2)
      · exact Dk.pair_mem hs h2 hx2 hy2 hne
/-- A file's cells written over. -/
theorem Dk.Stand.alter {W W' : World} {d b : Nat} {m m' : Dk.M} {L : List Dk.X} (h : Dk.Stand W d b m L) (hu : Dk.Up Dk.F.name m.files) {x : Dk.X} (hx : x ∈ L) (f' : Dk.F) (v' : Value) (hf : f'.name = x.nm)
    (hd : Blk W' d 77 (Dk.cells b m')) (hm : m'.files = Dk.upd x.nm f' m.files) (h1 : Blk W' x.blk 83 #[v', .int .i64 f'.sure]) (h2 : Dk.Row W' v' f'.data)
    (hv : ∀ k, v'.ownBlock = some k → x.v.ownBlock = some k ∨ W.heap.size ≤ k) (hk : ∀ k, k < W.heap.size → k ≠ d → k ≠ x.blk → x.v.ownBlock ≠ some k → W'.heap[k]? = W.heap[k]?) :
    Dk.Stand W' d b m' (L.map (Dk.alt x.nm f' v')) := by
  have hU := h.up hu
  have hlone := h.lone
  have hxx : ∀ y ∈ L, y.nm = x.nm → y = x := fun y hy e => Dk.key_inj hU hy hx e
  have hap : ∀ y ∈ L, y ≠ x → Dk.Apart y x := by
    have hp := h.apart
    intro y hy hne
    exact Dk.pair_mem (fun h => Dk.Apart.symm h) hp hy hx hne
  refine ⟨hd, ?_, ?_, ?_, ?_⟩
  · rw [List.length_map]
    have hdat : Dk.dat (L.map (Dk.alt x.nm f' v')) = Dk.dat L := by
      unfold Dk.dat
      rw [List.map_map]
      refine congrArg _ (List.map_congr_left fun y hy => ?_)
      show ((Lit.string (Dk.alt x.nm f' v' y).nm, DataW.lit (.int .i64 (Dk.alt x.nm f' v' y).blk)) : Lit × DataW Unit) = _
      unfold Dk.alt
      split
      · rename_i e
        show ((Lit.string f'.name, DataW.lit (.int .i64 y.blk)) : Lit × DataW Unit) = _
        rw [hf, e]
      · rfl
    rw [hdat]
    refine Dk.map_keep h.map (hk b h.map.lt (hlone b (.inl rfl)) (fun e => ?_) (fun e => ?_))
    · obtain ⟨es, clock, hmb, _⟩ := h.map
      have h1 := (h.file x hx).1
      unfold Blk at h1
      rw [← e, hmb] at h1; cases h1
    · obtain ⟨es, clock, hmb, _⟩ := h.map
      obtain ⟨cur, fz, h1⟩ := (h.file x hx).2.type e
      rw [hmb] at h1; cases h1
  · rw [hm, ← h.fs, List.map_map]
    unfold Dk.upd
    rw [List.map_map]
    refine List.map_congr_left fun y hy => ?_
    show (Dk.alt x.nm f' v' y).f = if y.nm = x.nm then f' else y.f
    unfold Dk.alt
    split <;> rfl
  · intro z hz
    obtain ⟨y, hy, rfl⟩ := List.mem_map.1 hz
    unfold Dk.alt
    by_cases e : y.nm = x.nm
    · rw [if_pos e]
      have := hxx y hy e
      subst this
      exact ⟨h1, h2⟩
    · rw [if_neg e]
      have hne : y ≠ x := fun e2 => e (by rw [e2])
      have ha := hap y hy hne
      obtain ⟨q1, q2⟩ := h.file y hy
      have hyr : ∀ k, y.v.ownBlock = some k → k ≠ x.blk := fun k hk2 e2 => by
        obtain ⟨cur, fz, h3⟩ := q2.type hk2
        have h4 := (h.file x hx).1
        unfold Blk at h4
        rw [e2, h4] at h3
        injection h3 with h3
        injection h3 with _ h3 _
        cases h3
      have hxr : x.v.ownBlock ≠ some y.blk := fun e2 => by
        obtain ⟨cur, fz, h3⟩ := (h.file x hx).2.type e2
        unfold Blk at q1
        rw [q1] at h3
        injection h3 with h3
        injection h3 with _ h3 _
        cases h3
      refine ⟨(hk y.blk q1.lt (hlone _ (.inr ⟨y, hy, .inl rfl⟩)) ha.1 hxr).trans q1, q2.keep fun k e2 => hk k (q2.lt k e2) (hlone k (.inr ⟨y, hy, .inr e2⟩)) (hyr k e2) (fun e3 => ha.2 k e2 e3)⟩
  · refine List.pairwise_map.2 ?_
    have hnm : L.Pairwise fun a b => a.nm ≠ b.nm := hU.imp fun {a b} hb e => by
      rw [e, WideAt.bytes_irrefl] at hb
      cases hb
    refine (List.Pairwise.and h.apart hnm).imp_of_mem fun {y z} hy hz ⟨ha, hne⟩ => ?_
    have hvk : ∀ w ∈ L, w ≠ x → ∀ k, v'.ownBlock = some k → w.v.ownBlock ≠ some k := fun w hw hwx k e1 e2 => by
      rcases hv k e1 with e3 | e3
      · exact (hap w hw hwx).2 k e2 e3
      · have := (h.file w hw).2.lt k e2
        omega
    show Dk.Apart _ _
    unfold Dk.alt
    by_cases e : y.nm = x.nm
    · have e2 : z.nm ≠ x.nm := fun e2 => hne (e.trans e2.symm)
      rw [if_pos e, if_neg e2]
      exact ⟨ha.1, fun k => hvk z hz (fun e3 => e2 (by rw [e3])) k⟩
    · rw [if_neg e]
      by_cases e2 : z.nm = x.nm
      · rw [if_pos e2]
        exact ⟨ha.1, fun k e3 e4 => hvk y hy (fun e5 => e (by rw [e5])) k e4 e3⟩
      · rw [if_neg e2]
        exact ha
theorem Dk.foot_alter {d b : Nat} {L : List Dk.X} {x : Dk.X} {n : Nat} (hx : x ∈ L) {f' : Dk.F} {v' : Value} (hv : ∀ k, v'.ownBlock = some k → x.v.ownBlock = some k ∨ n ≤ k) {k : Nat} (h : Dk.foot d b (L.map (Dk.alt x.nm f' v')) k) : Dk.foot d b L k ∨ n ≤ k := by
  rcases h with rfl | rfl | ⟨y, hy, hk⟩
  · exact .inl (.inl rfl)
  · exact .inl (.inr (.inl rfl))
  · obtain ⟨z, hz, rfl⟩ := List.mem_map.1 hy
    unfold Dk.alt at hk
    split at hk
    · rcases hk with e | e
      · exact .inl (.inr (.inr ⟨z, hz, .inl e⟩))
      · exact (hv k e).imp (fun e => .inr (.inr ⟨x, hx, .inr e⟩)) id
    · exact .inl (.inr (.inr ⟨z, hz, hk⟩))
end Go.Proofs.Ytgbeeghdoilmkaa
