/- What is known of files, plain: what a write makes of it. Conditions: each theorem's own hypotheses. -/
import Derived.Test.YtgbeeghdoilmkaaDsA
namespace Go.Proofs.Ytgbeeghdoilmkaa
open Go.RowKit Go.Maps Go.Sort
set_option linter.unusedVariables false

/-- What a write makes of the files, where it is done. -/
def Ds.eff (m : Dk.M) (s : Dw.S) : List Dk.F :=
  if s.what = 1 then Dk.ins Dk.F.name (Dk.empty s.name) m.files
  else if s.what = 2 then Dk.upd s.name (Dk.grow (Dk.file m s.name) s.data) m.files
  else if s.what = 3 then Dk.upd s.name (Dk.synced (Dk.file m s.name)) m.files
  else if s.what = 4 then Dk.upd s.name (Dk.cutF (Dk.file m s.name) s.n.toNat) m.files
  else if s.what = 5 then Dk.ren s.name s.to_ (Dk.file m s.name) m.files
  else Dk.del Dk.F.name s.name m.files
/-- Is it done, if the power goes at it? -/
def Ds.last (m : Dk.M) (s : Dw.S) : Bool := if s.what = 2 then true else if s.what = 3 then false else m.done
/-- It can be done. -/
structure Ds.Can (m : Dk.M) (s : Dw.S) : Prop where
  none : s.what = 1 → Dk.get Dk.F.name s.name m.files = none
  some : s.what ≠ 1 → Dk.get Dk.F.name s.name m.files = some (Dk.file m s.name)
  cut : s.what = 4 → 0 ≤ s.n ∧ s.n ≤ (Dk.file m s.name).data.length
theorem Ds.code45 {m : Dk.M} {nm : List UInt8} : Dk.code m nm = 45 ↔ m.off = true := by
  unfold Dk.code
  constructor
  · intro h
    split at h
    · assumption
    · split at h
      · split at h <;> cases h
      · cases h
  · intro h; rw [if_pos h]
theorem Ds.way {m : Dk.M} (s : Dw.S) (hr : 1 ≤ s.what ∧ s.what ≤ 6) :
    (∃ e, Dw.done m s = (m, e) ∧ e ≠ 0 ∧ (e = 45 ↔ m.off = true)) ∨ (m.off = false ∧ Dw.done m s = Dk.acc m (Ds.last m s) (Ds.eff m s) ∧ Ds.Can m s) := by
  have hof : ∀ e : Int, e ≠ 0 → e ≠ 45 → m.off = false → ∃ e', ((m, e) : Dk.M × Int) = (m, e') ∧ e' ≠ 0 ∧ (e' = 45 ↔ m.off = true) := fun e h1 h2 h3 => ⟨e, rfl, h1, ⟨fun h => absurd h h2, fun h => by rw [h3] at h; cases h⟩⟩
  have hcode : Dk.code m s.name ≠ 0 → ∃ e', ((m, Dk.code m s.name) : Dk.M × Int) = (m, e') ∧ e' ≠ 0 ∧ (e' = 45 ↔ m.off = true) := fun h => ⟨_, rfl, h, Ds.code45⟩
  have hw : s.what = 1 ∨ s.what = 2 ∨ s.what = 3 ∨ s.what = 4 ∨ s.what = 5 ∨ s.what = 6 := by omega
  unfold Dw.done Ds.last Ds.eff
  rcases hw with e | e | e | e | e | e
  · rw [if_pos e, if_pos e, if_neg (by omega), if_neg (by omega)]
    unfold Dk.create
    by_cases h0 : Dk.code m s.name = 0
    · rw [if_pos h0]
      exact .inl (hof _ (by decide) (by decide) (Dk.code_zero h0).1)
    rw [if_neg h0]
    by_cases h1 : Dk.code m s.name ≠ 42
    · rw [if_pos h1]; exact .inl (hcode h0)
    rw [if_neg h1]
    obtain ⟨q1, q2, q3⟩ := Dk.code_none (Decidable.not_not.1 h1)
    by_cases h2 : 4096 ≤ m.files.length
    · rw [if_pos h2]; exact .inl (hof _ (by decide) (by decide) q3)
    rw [if_neg h2]
    exact .inr ⟨q3, rfl, ⟨fun _ => q2, fun h => absurd e h, fun h => by omega⟩⟩
  · rw [if_neg (by omega), if_pos e, if_pos e, if_neg (by omega), if_pos e]
    unfold Dk.append
    by_cases h0 : Dk.code m s.name ≠ 0
    · rw [if_pos h0]; exact .inl (hcode h0)
    rw [if_neg h0]
    obtain ⟨q1, q2, q3, q4, q5⟩ := Dk.code_zero (Decidable.not_not.1 h0)
    by_cases h1 : 268435456 - (Dk.file m s.name).data.length < s.data.length
    · rw [if_pos h1]; exact .inl (hof _ (by decide) (by decide) q1)
    rw [if_neg h1]
    by_cases h2 : s.data ≠ [] ∧ m.cap - Dk.used m.files < s.data.length
    · rw [if_pos h2]; exact .inl (hof _ (by decide) (by decide) q1)
    rw [if_neg h2]
    exact .inr ⟨q1, rfl, ⟨fun h => by omega, fun _ => q3, fun h => by omega⟩⟩
  · rw [if_neg (by omega), if_neg (by omega), if_pos e, if_neg (by omega), if_pos e, if_neg (by omega), if_neg (by omega), if_pos e]
    unfold Dk.sync
    by_cases h0 : Dk.code m s.name ≠ 0
    · rw [if_pos h0]; exact .inl (hcode h0)
    rw [if_neg h0]
    obtain ⟨q1, q2, q3, q4, q5⟩ := Dk.code_zero (Decidable.not_not.1 h0)
    exact .inr ⟨q1, rfl, ⟨fun h => by omega, fun _ => q3, fun h => by omega⟩⟩
  · rw [if_neg (by omega), if_neg (by omega), if_neg (by omega), if_pos e, if_neg (by omega), if_neg (by omega), if_neg (by omega), if_neg (by omega), if_neg (by omega), if_pos e]
    unfold Dk.cut
    by_cases h0 : Dk.code m s.name ≠ 0
    · rw [if_pos h0]; exact .inl (hcode h0)
    rw [if_neg h0]
    obtain ⟨q1, q2, q3, q4, q5⟩ := Dk.code_zero (Decidable.not_not.1 h0)
    by_cases h1 : s.n < 0 ∨ (Dk.file m s.name).data.length < s.n
    · rw [if_pos h1]; exact .inl (hof _ (by decide) (by decide) q1)
    rw [if_neg h1]
    exact .inr ⟨q1, rfl, ⟨fun h => by omega, fun _ => q3, fun h => by omega⟩⟩
  · rw [if_neg (by omega), if_neg (by omega), if_neg (by omega), if_neg (by omega), if_pos e, if_neg (by omega), if_neg (by omega), if_neg (by omega), if_neg (by omega), if_neg (by omega), if_neg (by omega), if_pos e]
    unfold Dk.rename
    by_cases h0 : Dk.code m s.name = 45
    · rw [if_pos h0]
      exact .inl ⟨45, rfl, by decide, ⟨fun _ => Ds.code45.1 h0, fun _ => rfl⟩⟩
    have hoff : m.off = false := by
      cases ho : m.off with
      | false => rfl
      | true => exact absurd (Ds.code45.2 ho) h0
    rw [if_neg h0]
    by_cases h1 : Dk.code m s.name = 40 ∨ Dk.named s.to_ = false
    · rw [if_pos h1]; exact .inl (hof _ (by decide) (by decide) hoff)
    rw [if_neg h1]
    by_cases h2 : Dk.code m s.name ≠ 0
    · rw [if_pos h2]; exact .inl (hcode h2)
    rw [if_neg h2]
    obtain ⟨q1, q2, q3, q4, q5⟩ := Dk.code_zero (Decidable.not_not.1 h2)
    exact .inr ⟨q1, rfl, ⟨fun h => by omega, fun _ => q3, fun h => by omega⟩⟩
  · rw [if_neg (by omega), if_neg (by omega), if_neg (by omega), if_neg (by omega), if_neg (by omega), if_neg (by omega), if_neg (by omega), if_neg (by omega), if_neg (by omega), if_neg (by omega), if_neg (by omega), if_neg (by omega)]
    unfold Dk.delete
    by_cases h0 : Dk.code m s.name ≠ 0
    · rw [if_pos h0]; exact .inl (hcode h0)
    rw [if_neg h0]
    obtain ⟨q1, q2, q3, q4, q5⟩ := Dk.code_zero (Decidable.not_not.1 h0)
    exact .inr ⟨q1, rfl, ⟨fun h => by omega, fun _ => q3, fun h => by omega⟩⟩
/-- What told makes of a list, where it can be so. -/
def Ds.To (s : Dw.S) (L L' : List Dk.F) : Prop :=
  (s.what = 1 ∧ (∀ f ∈ L, f.name ≠ s.name) ∧ L' = L ++ [Dk.empty s.name]) ∨
  ∃ k f, L[k]? = some f ∧ f.name = s.name ∧ Ds.No L k s.name ∧
    ((s.what = 2 ∧ L' = L.set k (Dk.grow f s.data)) ∨ (s.what = 3 ∧ L' = L.set k (Dk.synced f)) ∨ (s.what = 4 ∧ 0 ≤ s.n ∧ s.n ≤ f.data.length ∧ L' = L.set k (Dk.cutF f s.n.toNat)) ∨
      (s.what = 5 ∧ L' = Dk.del Dk.F.name s.to_ (Dk.del Dk.F.name s.name L) ++ [Dk.named2 f s.to_]) ∨ (s.what = 6 ∧ L' = Dk.del Dk.F.name s.name L))
theorem Ds.set_upd : ∀ {L : List Dk.F} {k : Nat} {f : Dk.F} (f' : Dk.F), (L.map Dk.F.name).Nodup → L[k]? = some f → L.set k f' = Dk.upd f.name f' L
  | [], k, f, f', _, h => by simp at h
  | g :: L, 0, f, f', hn, h => by
    obtain rfl := Option.some.inj h
    rw [List.map_cons, List.nodup_cons] at hn
    unfold Dk.upd
    rw [List.set_cons_zero, List.map_cons, if_pos rfl]
    refine congrArg _ ?_
    have : ∀ y ∈ L, (if y.name = g.name then f' else y) = y := fun y hy => if_neg fun (e : y.name = g.name) => hn.1 (e ▸ List.mem_map_of_mem hy)
    rw [List.map_congr_left this, List.map_id']
  | g :: L, k + 1, f, f', hn, h => by
    rw [List.map_cons, List.nodup_cons] at hn
    have hm := List.mem_of_getElem? (show L[k]? = some f from h)
    unfold Dk.upd
    rw [List.set_cons_succ, List.map_cons, if_neg (fun e : g.name = f.name => hn.1 (e ▸ List.mem_map_of_mem hm)), Ds.set_upd f' hn.2 h]
    rfl
theorem Ds.nodup {l : List Dk.F} (h : Dk.Up Dk.F.name l) : (l.map Dk.F.name).Nodup := by
  unfold List.Nodup
  rw [List.pairwise_map]
  refine List.Pairwise.imp (fun {a b} hab e => ?_) h
  rw [e, WideAt.bytes_irrefl] at hab
  cases hab
theorem Ds.ins_perm (x : Dk.F) : ∀ l : List Dk.F, (Dk.ins Dk.F.name x l).Perm (x :: l)
  | [] => .refl _
  | y :: r => by
    show (if bytesBefore x.name y.name = true then x :: y :: r else y :: Dk.ins Dk.F.name x r).Perm _
    split
    · exact .refl _
    · exact ((Ds.ins_perm x r).cons y).trans (.swap _ _ _)
theorem Ds.place : ∀ (L : List Dk.F) (f : Dk.F), f ∈ L → (L.map Dk.F.name).Nodup → ∃ k, L[k]? = some f ∧ Ds.No L k f.name
  | [], f, h, _ => by cases h
  | g :: L, f, h, hn => by
    rw [List.map_cons, List.nodup_cons] at hn
    rcases List.mem_cons.1 h with rfl | h
    · exact ⟨0, rfl, fun j hj => absurd hj (Nat.not_lt_zero _)⟩
    · obtain ⟨k, h1, h2⟩ := Ds.place L f h hn.2
      refine ⟨k + 1, h1, fun j hj x hx => ?_⟩
      cases j with
      | zero =>
        obtain rfl := Option.some.inj hx
        exact fun e => hn.1 (e ▸ List.mem_map_of_mem h)
      | succ j => exact h2 j (by omega) x hx
theorem Ds.told {m : Dk.M} (hG : Dk.Good m) {L : List Dk.F} (hp : L.Perm m.files) (s : Dw.S) (hr : 1 ≤ s.what ∧ s.what ≤ 6) (hc : Ds.Can m s) : ∃ L', Ds.To s L L' ∧ L'.Perm (Ds.eff m s) := by
  have hn : (L.map Dk.F.name).Nodup := (hp.map _).nodup_iff.2 (Ds.nodup hG.up)
  by_cases e1 : s.what = 1
  · refine ⟨_, .inl ⟨e1, fun f hf => Dk.get_none (hc.none e1) f (hp.mem_iff.1 hf), rfl⟩, ?_⟩
    unfold Ds.eff
    rw [if_pos e1]
    exact (List.perm_append_singleton _ _).trans ((hp.cons _).trans (Ds.ins_perm _ _).symm)
  have hg := hc.some e1
  obtain ⟨f, hf⟩ : ∃ f, Dk.file m s.name = f := ⟨_, rfl⟩
  have hcut := hc.cut
  rw [hf] at hg hcut
  obtain ⟨hmem, hfn⟩ := Dk.get_mem hg
  obtain ⟨k, h1, h2⟩ := Ds.place L f (hp.mem_iff.2 hmem) hn
  have hfn' : f.name = s.name := hfn
  rw [hfn'] at h2
  have hset : ∀ f', L.set k f' = Dk.upd s.name f' L := fun f' => by rw [Ds.set_upd f' hn h1, hfn']
  have hup : ∀ f', (L.set k f').Perm (Dk.upd s.name f' m.files) := fun f' => by rw [hset]; exact hp.map _
  have hw : s.what = 2 ∨ s.what = 3 ∨ s.what = 4 ∨ s.what = 5 ∨ s.what = 6 := by omega
  have hdel : ∀ nm, (Dk.del Dk.F.name nm L).Perm (Dk.del Dk.F.name nm m.files) := fun nm => hp.filter _
  unfold Ds.eff
  rw [hf]
  rcases hw with e | e | e | e | e
  · refine ⟨_, .inr ⟨k, f, h1, hfn', h2, .inl ⟨e, rfl⟩⟩, ?_⟩
    rw [if_neg e1, if_pos e]; exact hup _
  · refine ⟨_, .inr ⟨k, f, h1, hfn', h2, .inr (.inl ⟨e, rfl⟩)⟩, ?_⟩
    rw [if_neg e1, if_neg (by omega), if_pos e]; exact hup _
  · obtain ⟨c1, c2⟩ := hcut e
    refine ⟨_, .inr ⟨k, f, h1, hfn', h2, .inr (.inr (.inl ⟨e, c1, c2, rfl⟩))⟩, ?_⟩
    rw [if_neg e1, if_neg (by omega), if_neg (by omega), if_pos e]; exact hup _
  · refine ⟨_, .inr ⟨k, f, h1, hfn', h2, .inr (.inr (.inr (.inl ⟨e, rfl⟩)))⟩, ?_⟩
    rw [if_neg e1, if_neg (by omega), if_neg (by omega), if_neg (by omega), if_pos e]
    unfold Dk.ren
    by_cases ht : s.name = s.to_
    · rw [if_pos ht, ← ht]
      have h3 : Dk.del Dk.F.name s.name (Dk.del Dk.F.name s.name L) = Dk.del Dk.F.name s.name L := Dk.del_none fun y hy => ((Dk.mem_del Dk.F.name).1 hy).2
      have h4 : Dk.named2 f s.name = f := by unfold Dk.named2; rw [← hfn']
      rw [h3, h4]
      exact (List.perm_append_singleton _ _).trans (((hdel s.name).cons f).trans (Dk.perm_get hG.up hg).symm)
    · rw [if_neg ht]
      refine (List.perm_append_singleton _ _).trans (List.Perm.trans ?_ (Ds.ins_perm _ _).symm)
      refine List.Perm.cons _ ?_
      have hcomm : Dk.del Dk.F.name s.name (Dk.del Dk.F.name s.to_ m.files) = Dk.del Dk.F.name s.to_ (Dk.del Dk.F.name s.name m.files) := by
        unfold Dk.del
        rw [List.filter_filter, List.filter_filter]
        exact congrArg (fun p => List.filter p m.files) (funext fun y => Bool.and_comm _ _)
      rw [hcomm]
      exact (hdel s.name).filter _
  · refine ⟨_, .inr ⟨k, f, h1, hfn', h2, .inr (.inr (.inr (.inr ⟨e, rfl⟩)))⟩, ?_⟩
    rw [if_neg e1, if_neg (by omega), if_neg (by omega), if_neg (by omega), if_neg (by omega)]
    exact hdel _
#print axioms Ds.way
#print axioms Ds.told
end Go.Proofs.Ytgbeeghdoilmkaa
