/- Disks: Rename. Conditions: each theorem's own hypotheses. -/
import Derived.Test.YtifkhjihgnnpfaaGreatDoorZDkW
namespace Go.Proofs.YtifkhjihgnnpfaaGreatDoor
open Go.RowKit Go.Maps Go.Sort
set_option linter.unusedVariables false

def Dk.named2 (f : Dk.F) (to : List UInt8) : Dk.F := ⟨to, f.data, f.sure⟩
/-- A file under another name. -/
def Dk.ren (old to : List UInt8) (f : Dk.F) (l : List Dk.F) : List Dk.F := if old = to then l else Dk.ins Dk.F.name (Dk.named2 f to) (Dk.del Dk.F.name old (Dk.del Dk.F.name to l))
/-- What Rename does and answers. -/
def Dk.rename (m : Dk.M) (old to : List UInt8) : Dk.M × Int :=
  if Dk.code m old = 45 then (m, 45)
  else if Dk.code m old = 40 ∨ Dk.named to = false then (m, 40)
  else if Dk.code m old ≠ 0 then (m, Dk.code m old)
  else Dk.acc m m.done (Dk.ren old to (Dk.file m old) m.files)
theorem Dk.get_del {α : Type} {key : α → List UInt8} {a c : List UInt8} (hne : a ≠ c) (l : List α) : Dk.get key a (Dk.del key c l) = Dk.get key a l := by
  unfold Dk.get Dk.del
  rw [List.find?_filter]
  congr 1
  funext y
  by_cases e : key y = a
  · simp [e, hne]
  · simp [e]
theorem Dk.get_del_same {α : Type} {key : α → List UInt8} (a : List UInt8) (l : List α) : Dk.get key a (Dk.del key a l) = none := by
  rw [Dk.get_none_iff]
  intro x hx
  exact ((Dk.mem_del key).1 hx).2
theorem Dk.ren_used {old to : List UInt8} {l : List Dk.F} (hu : Dk.Up Dk.F.name l) {f : Dk.F} (hf : Dk.get Dk.F.name old l = some f) (hne : old ≠ to) : Dk.used (Dk.ins Dk.F.name (Dk.named2 f to) (Dk.del Dk.F.name old (Dk.del Dk.F.name to l))) = Dk.used (Dk.del Dk.F.name to l) := by
  have h := Dk.used_del (Dk.up_del Dk.F.name hu to) (nm := old) (f := f) (by rw [Dk.get_del hne]; exact hf)
  rw [Dk.used_ins, ← h]
  exact Nat.add_comm _ _
theorem Dk.rename_good {m : Dk.M} (hG : Dk.Good m) (old to : List UInt8) : Dk.Good (Dk.rename m old to).1 := by
  unfold Dk.rename
  split
  · exact hG
  · split
    · exact hG
    · split
      · exact hG
      · rename_i q1 q2 hc
        obtain ⟨h1, h2, h3, h4, h5⟩ := Dk.code_zero (Decidable.not_not.1 hc)
        have hto : Dk.named to = true := by
          cases h : Dk.named to with
          | true => rfl
          | false => exact absurd (.inr h) q2
        unfold Dk.ren
        split
        · exact Dk.acc_good hG _ _ hG.up hG.file hG.many hG.used
        · rename_i hne
          have hu1 := Dk.up_del Dk.F.name (Dk.up_del Dk.F.name hG.up to) old
          have hused := Dk.ren_used hG.up h3 hne
          obtain ⟨f1, f2, f3⟩ := hG.file _ h5
          have hl1 : (Dk.del Dk.F.name old (Dk.del Dk.F.name to m.files)).length + 1 ≤ (Dk.del Dk.F.name to m.files).length := by
            have := (Dk.perm_get (Dk.up_del Dk.F.name hG.up to) (nm := old) (x := Dk.file m old) (by rw [Dk.get_del hne]; exact h3)).length_eq
            rw [this, List.length_cons]
            exact Nat.le_refl _
          have hl2 : (Dk.del Dk.F.name to m.files).length ≤ m.files.length := List.length_filter_le _ _
          refine Dk.acc_good hG _ _ (Dk.up_ins Dk.F.name _ hu1 fun y hy => ?_) (fun f hf => ?_) (by rw [Dk.len_ins]; have := hG.many; omega) ?_
          · exact ((Dk.mem_del Dk.F.name).1 (Dk.del_names old hy)).2
          · rcases (Dk.mem_ins Dk.F.name).1 hf with rfl | hf
            · exact ⟨hto, f2, f3⟩
            · exact hG.file f (Dk.del_names to (Dk.del_names old hf))
          · rw [hused]
            cases hx : Dk.get Dk.F.name to m.files with
            | none => rw [Dk.del_none (Dk.get_none hx)]; exact hG.used
            | some f => have := Dk.used_del hG.up hx; have := hG.used; omega
/-- A file's entry moved in the map. -/
theorem Dk.Stand.moved {W W' : World} {d b : Nat} {m : Dk.M} {L : List Dk.X} (h : Dk.Stand W d b m L) (hu : Dk.Up Dk.F.name m.files) {x : Dk.X} (hx : x ∈ L) (to : List UInt8) (hto : Dk.get Dk.X.nm to L = none) {n : Nat}
    (hm : W'.ownsMap Tryz.prog 9 Dk.R b n (((Dk.dat L).del (.string x.nm)).put (.string to) (.lit (.int .i64 x.blk)))) (hk : ∀ k, k ≠ b → W'.heap[k]? = W.heap[k]?) :
    Dk.Stand W' d b { m with files := Dk.ins Dk.F.name (Dk.named2 x.f to) (Dk.del Dk.F.name x.nm m.files) } (Dk.ins Dk.X.nm ⟨Dk.named2 x.f to, x.blk, x.v⟩ (Dk.del Dk.X.nm x.nm L)) := by
  have hlone := h.lone
  have hbd : b ≠ d := hlone b (.inl rfl)
  have hbl : ∀ y ∈ L, (∀ k, (y.blk = k ∨ y.v.ownBlock = some k) → k ≠ b) := by
    intro y hy k hk2 hkb
    subst hkb
    obtain ⟨es, clock, hmb, _⟩ := h.map
    rcases hk2 with e | e
    · have h1 := (h.file y hy).1
      unfold Blk at h1
      rw [e, hmb] at h1
      cases h1
    · obtain ⟨cur, fz, h1⟩ := (h.file y hy).2.type e
      rw [hmb] at h1
      cases h1
  have hgot := h.got hu hx
  have hfile : ∀ y ∈ L, Blk W' y.blk 89 #[y.v, .int .i64 y.f.sure] ∧ Dk.Row W' y.v y.f.data := fun y hy => by
    obtain ⟨h1, h2⟩ := h.file y hy
    exact ⟨(hk y.blk (hbl y hy _ (.inl rfl))).trans h1, h2.keep fun k e => hk k (hbl y hy k (.inr e))⟩
  have hno : Dk.del Dk.X.nm to (Dk.del Dk.X.nm x.nm L) = Dk.del Dk.X.nm x.nm L := Dk.del_none fun y hy => Dk.get_none hto y (Dk.del_names x.nm hy)
  refine ⟨?_, ?_, ?_, fun y hy => ?_, ?_⟩
  · have e : Dk.cells b m = Dk.cells b { m with files := Dk.ins Dk.F.name (Dk.named2 x.f to) (Dk.del Dk.F.name x.nm m.files) } := by
      have h1 := Dk.used_del hu hgot
      have h2 : Dk.used (Dk.ins Dk.F.name (Dk.named2 x.f to) (Dk.del Dk.F.name x.nm m.files)) = Dk.used m.files := by
        rw [Dk.used_ins, ← h1]
        exact Nat.add_comm _ _
      unfold Dk.cells
      rw [h2]
    rw [← e]
    exact (hk d (fun e => hbd e.symm)).trans h.disk
  · rw [Dk.dat_del] at hm
    have h2 := Dk.dat_put (⟨Dk.named2 x.f to, x.blk, x.v⟩ : Dk.X) (Dk.del Dk.X.nm x.nm L)
    rw [show (⟨Dk.named2 x.f to, x.blk, x.v⟩ : Dk.X).nm = to from rfl] at h2
    rw [h2] at hm
    have h3 : Dk.put Dk.X.nm (⟨Dk.named2 x.f to, x.blk, x.v⟩ : Dk.X) (Dk.del Dk.X.nm x.nm L) = Dk.ins Dk.X.nm ⟨Dk.named2 x.f to, x.blk, x.v⟩ (Dk.del Dk.X.nm x.nm L) := by
      unfold Dk.put
      rw [show (⟨Dk.named2 x.f to, x.blk, x.v⟩ : Dk.X).nm = to from rfl, hno]
    rw [h3] at hm
    have := Dk.map_tight hm
    rw [Dk.dat_size] at this
    exact this
  · rw [Dk.map_ins (g := fun x : Dk.X => x.f) (key' := Dk.F.name) (fun y => rfl), Dk.map_del (g := fun x : Dk.X => x.f) (key' := Dk.F.name) (fun y => rfl), h.fs]
  · rcases (Dk.mem_ins Dk.X.nm).1 hy with rfl | hy
    · exact hfile x hx
    · exact hfile y (Dk.del_names x.nm hy)
  · refine Dk.apart_perm ?_ (Dk.perm_ins _ _).symm
    refine List.pairwise_cons.2 ⟨fun y hy => ?_, List.Pairwise.filter _ h.apart⟩
    have hy2 := (Dk.mem_del Dk.X.nm).1 hy
    have hne : x ≠ y := fun e => hy2.2 (by rw [← e])
    have ha : Dk.Apart x y := Dk.pair_mem (R := Dk.Apart) (fun h => Dk.Apart.symm h) h.apart hx hy2.1 hne
    exact ⟨ha.1, ha.2⟩
/-- delete, by any law of its run. -/
theorem Dk.step_delete {P : Program} {w : World} {ops : Array Oper} {o : Oper} {a : Act} {K : Act → World → Prop} {Q : Exit → Act → World → Prop} {E : Prop} (hgd : o.guard = none) (s x : Operand) (t u : TypeId)
    (ho : o.op = .call { callee := .builtin .delete, args := #[s, x], argTypes := #[t, u] }) (v src : Value) (hs : a.eval s = v) (hx : a.eval x = src)
    (R : World → Prop) (hr : ∀ ty, ∃ w', (Builtin.delete_ #[t, u] ty #[v, src]).run P w = .ok (.tuple #[]) w' ∧ R w')
    (h : ∀ w', R w' → K (a.put o.dst (.tuple #[])) w') :
    if Region.wanted o (yielded ops a.tmps) = true then Oper.wp P o a w K Q else E := by
  have hw : Region.wanted o (yielded ops a.tmps) = true := by simp [Region.wanted, hgd]
  rw [if_pos hw]
  obtain ⟨w', hr, h2⟩ := hr o.type
  unfold Oper.wp execOp
  simp only [ho, resolve, invoke, builtin, Sem.run_bind, Sem.run_pure, Result.andThen_ok, List.map_toArray, List.map_cons, List.map_nil, hs, hx, hr]
  exact h w' h2
theorem Dk.turned_all {w w' : World} {b : Nat} (h : w.mapTurned w' b) : (∀ g, g ≠ b → w'.heap[g]? = w.heap[g]?) ∧ Dk.Only (fun k => k = b) w w' := by
  have hg := Dk.turned h
  obtain ⟨es, clock, es', clock', hb, rfl⟩ := h
  have hsz : (Go.ChangeMaps.setBlock w b (.map es' clock')).heap.size = w.heap.size := by simp [Go.ChangeMaps.setBlock]
  refine ⟨fun g hgb => ?_, (Dk.Only.refl _ w).grown hg fun k hk => .inl (Option.some.inj hk).symm⟩
  by_cases hlt : g < w.heap.size
  · exact hg.block g hlt (fun e => hgb (Option.some.inj e))
  · rw [Array.getElem?_eq_none (by omega), Array.getElem?_eq_none (by omega)]
end Go.Proofs.YtifkhjihgnnpfaaGreatDoor
/- Disks: Rename, whole. Conditions: each theorem's own hypotheses. -/
namespace Go.Proofs.YtifkhjihgnnpfaaGreatDoor
open Go.RowKit Go.Maps Go.Sort
set_option linter.unusedVariables false

end Go.Proofs.YtifkhjihgnnpfaaGreatDoor
