/- Disks: Rename. Conditions: each theorem's own hypotheses. -/
import Derived.Test.YtdhnkcfmjibibaaGreatDoorZDkW
namespace Go.Proofs.YtdhnkcfmjibibaaGreatDoor
open Go.RowKit Go.Maps Go.Sort
set_option linter.unusedVariables false

def Dk.named2 (f : Dk.F) (to : List UInt8) : Dk.F := ⟨to, f.data, f.sure⟩
/-- A file under another name. -/
def Dk.ren (old to : List UInt8) (f : Dk.F) (l : List Dk.F) : List Dk.F := if old = to then l else Dk.ins Dk.F.name (Dk.named2 f to) (Dk.del Dk.F.name old (Dk.del Dk.F.name to l))
/-- What Rename does and answers. -/
def Dk.rename (m : Dk.M) (old to : List UInt8) : Dk.M × Int :=
  if Dk.code m old = 45 then (m, 45)
  else if Dk.code m old = 40 ∨ Dk.named to = false then (m, 40)
  else if Dk.code m old ≠ 0 then (m, Dk.code m old)
  else Dk.acc m m.done (Dk.ren old to (Dk.file m old) m.files)
theorem Dk.get_del {α : Type} {key : α → List UInt8} {a c : List UInt8} (hne : a ≠ c) (l : List α) : Dk.get key a (Dk.del key c l) = Dk.get key a l := by
  unfold Dk.get Dk.del
  rw [List.find?_filter]
  congr 1
  funext y
  by_cases e : key y = a
  · simp [e, hne]
  · simp [e]
theorem Dk.get_del_same {α : Type} {key : α → List UInt8} (a : List UInt8) (l : List α) : Dk.get key a (Dk.del key a l) = none := by
  rw [Dk.get_none_iff]
  intro x hx
  exact ((Dk.mem_del key).1 hx).2
theorem Dk.ren_used {old to : List UInt8} {l : List Dk.F} (hu : Dk.Up Dk.F.name l) {f : Dk.F} (hf : Dk.get Dk.F.name old l = some f) (hne : old ≠ to) : Dk.used (Dk.ins Dk.F.name (Dk.named2 f to) (Dk.del Dk.F.name old (Dk.del Dk.F.name to l))) = Dk.used (Dk.del Dk.F.name to l) := by
  have h := Dk.used_del (Dk.up_del Dk.F.name hu to) (nm := old) (f := f) (by rw [Dk.get_del hne]; exact hf)
  rw [Dk.used_ins, ← h]
  exact Nat.add_comm _ _
theorem Dk.rename_good {m : Dk.M} (hG : Dk.Good m) (old to : List UInt8) : Dk.Good (Dk.rename m old to).1 := by
  unfold Dk.rename
  split
  · exact hG
  · split
    · exact hG
    · split
      · exact hG
      · rename_i q1 q2 hc
        obtain ⟨h1, h2, h3, h4, h5⟩ := Dk.code_zero (Decidable.not_not.1 hc)
        have hto : Dk.named to = true := by
          cases h : Dk.named to with
          | true => rfl
          | false => exact absurd (.inr h) q2
        unfold Dk.ren
        split
        · exact Dk.acc_good hG _ _ hG.up hG.file hG.many hG.used
        · rename_i hne
          have hu1 := Dk.up_del Dk.F.name (Dk.up_del Dk.F.name hG.up to) old
          have hused := Dk.ren_used hG.up h3 hne
          obtain ⟨f1, f2, f3⟩ := hG.file _ h5
          have hl1 : (Dk.del Dk.F.name old (Dk.del Dk.F.name to m.files)).length + 1 ≤ (Dk.del Dk.F.name to m.files).length := by
            have := (Dk.perm_get (Dk.up_del Dk.F.name hG.up to) (nm := old) (x := Dk.file m old) (by rw [Dk.get_del hne]; exact h3)).length_eq
            rw [this, List.length_cons]
            exact Nat.le_refl _
          have hl2 : (Dk.del Dk.F.name to m.files).length ≤ m.files.length := List.length_filter_le _ _
          refine Dk.acc_good hG _ _ (Dk.up_ins Dk.F.name _ hu1 fun y hy => ?_) (fun f hf => ?_) (by rw [Dk.len_ins]; have := hG.many; omega) ?_
          · exact ((Dk.mem_del Dk.F.name).1 (Dk.del_names old hy)).2
          · rcases (Dk.mem_ins Dk.F.name).1 hf with rfl | hf
            · exact ⟨hto, f2, f3⟩
            · exact hG.file f (Dk.del_names to (Dk.del_names old hf))
          · rw [hused]
            cases hx : Dk.get Dk.F.name to m.files with
            | none => rw [Dk.del_none (Dk.get_none hx)]; exact hG.used
            | some f => have := Dk.used_del hG.up hx; have := hG.used; omega
/-- A file's entry moved in the map. -/
theorem Dk.Stand.moved {W W' : World} {d b : Nat} {m : Dk.M} {L : List Dk.X} (h : Dk.Stand W d b m L) (hu : Dk.Up Dk.F.name m.files) {x : Dk.X} (hx : x ∈ L) (to : List UInt8) (hto : Dk.get Dk.X.nm to L = none) {n : Nat}
    (hm : W'.ownsMap Tryz.prog 9 Dk.R b n (((Dk.dat L).del (.string x.nm)).put (.string to) (.lit (.int .i64 x.blk)))) (hk : ∀ k, k ≠ b → W'.heap[k]? = W.heap[k]?) :
    Dk.Stand W' d b { m with files := Dk.ins Dk.F.name (Dk.named2 x.f to) (Dk.del Dk.F.name x.nm m.files) } (Dk.ins Dk.X.nm ⟨Dk.named2 x.f to, x.blk, x.v⟩ (Dk.del Dk.X.nm x.nm L)) := by
  have hlone := h.lone
  have hbd : b ≠ d := hlone b (.inl rfl)
  have hbl : ∀ y ∈ L, (∀ k, (y.blk = k ∨ y.v.ownBlock = some k) → k ≠ b) := by
    intro y hy k hk2 hkb
    subst hkb
    obtain ⟨es, clock, hmb, _⟩ := h.map
    rcases hk2 with e | e
    · have h1 := (h.file y hy).1
      unfold Blk at h1
      rw [e, hmb] at h1
      cases h1
    · obtain ⟨cur, fz, h1⟩ := (h.file y hy).2.type e
      rw [hmb] at h1
      cases h1
  have hgot := h.got hu hx
  have hfile : ∀ y ∈ L, Blk W' y.blk 81 #[y.v, .int .i64 y.f.sure] ∧ Dk.Row W' y.v y.f.data := fun y hy => by
    obtain ⟨h1, h2⟩ := h.file y hy
    exact ⟨(hk y.blk (hbl y hy _ (.inl rfl))).trans h1, h2.keep fun k e => hk k (hbl y hy k (.inr e))⟩
  have hno : Dk.del Dk.X.nm to (Dk.del Dk.X.nm x.nm L) = Dk.del Dk.X.nm x.nm L := Dk.del_none fun y hy => Dk.get_none hto y (Dk.del_names x.nm hy)
  refine ⟨?_, ?_, ?_, fun y hy => ?_, ?_⟩
  · have e : Dk.cells b m = Dk.cells b { m with files := Dk.ins Dk.F.name (Dk.named2 x.f to) (Dk.del Dk.F.name x.nm m.files) } := by
      have h1 := Dk.used_del hu hgot
      have h2 : Dk.used (Dk.ins Dk.F.name (Dk.named2 x.f to) (Dk.del Dk.F.name x.nm m.files)) = Dk.used m.files := by
        rw [Dk.used_ins, ← h1]
        exact Nat.add_comm _ _
      unfold Dk.cells
      rw [h2]
    rw [← e]
    exact (hk d (fun e => hbd e.symm)).trans h.disk
  · rw [Dk.dat_del] at hm
    have h2 := Dk.dat_put (⟨Dk.named2 x.f to, x.blk, x.v⟩ : Dk.X) (Dk.del Dk.X.nm x.nm L)
    rw [show (⟨Dk.named2 x.f to, x.blk, x.v⟩ : Dk.X).nm = to from rfl] at h2
    rw [h2] at hm
    have h3 : Dk.put Dk.X.nm (⟨Dk.named2 x.f to, x.blk, x.v⟩ : Dk.X) (Dk.del Dk.X.nm x.nm L) = Dk.ins Dk.X.nm ⟨Dk.named2 x.f to, x.blk, x.v⟩ (Dk.del Dk.X.nm x.nm L) := by
      unfold Dk.put
      rw [show (⟨Dk.named2 x.f to, x.blk, x.v⟩ : Dk.X).nm = to from rfl, hno]
    rw [h3] at hm
    have := Dk.map_tight hm
    rw [Dk.dat_size] at this
    exact this
  · rw [Dk.map_ins (g := fun x : Dk.X => x.f) (key' := Dk.F.name) (fun y => rfl), Dk.map_del (g := fun x : Dk.X => x.f) (key' := Dk.F.name) (fun y => rfl), h.fs]
  · rcases (Dk.mem_ins Dk.X.nm).1 hy with rfl | hy
    · exact hfile x hx
    · exact hfile y (Dk.del_names x.nm hy)
  · refine Dk.apart_perm ?_ (Dk.perm_ins _ _).symm
    refine List.pairwise_cons.2 ⟨fun y hy => ?_, List.Pairwise.filter _ h.apart⟩
    have hy2 := (Dk.mem_del Dk.X.nm).1 hy
    have hne : x ≠ y := fun e => hy2.2 (by rw [← e])
    have ha : Dk.Apart x y := Dk.pair_mem (R := Dk.Apart) (fun h => Dk.Apart.symm h) h.apart hx hy2.1 hne
    exact ⟨ha.1, ha.2⟩
/-- delete, by any law of its run. -/
theorem Dk.step_delete {P : Program} {w : World} {ops : Array Oper} {o : Oper} {a : Act} {K : Act → World → Prop} {Q : Exit → Act → World → Prop} {E : Prop} (hgd : o.guard = none) (s x : Operand) (t u : TypeId)
    (ho : o.op = .call { callee := .builtin .delete, args := #[s, x], argTypes := #[t, u] }) (v src : Value) (hs : a.eval s = v) (hx : a.eval x = src)
    (R : World → Prop) (hr : ∀ ty, ∃ w', (Builtin.delete_ #[t, u] ty #[v, src]).run P w = .ok (.tuple #[]) w' ∧ R w')
    (h : ∀ w', R w' → K (a.put o.dst (.tuple #[])) w') :
    if Region.wanted o (yielded ops a.tmps) = true then Oper.wp P o a w K Q else E := by
  have hw : Region.wanted o (yielded ops a.tmps) = true := by simp [Region.wanted, hgd]
  rw [if_pos hw]
  obtain ⟨w', hr, h2⟩ := hr o.type
  unfold Oper.wp execOp
  simp only [ho, resolve, invoke, builtin, Sem.run_bind, Sem.run_pure, Result.andThen_ok, List.map_toArray, List.map_cons, List.map_nil, hs, hx, hr]
  exact h w' h2
theorem Dk.turned_all {w w' : World} {b : Nat} (h : w.mapTurned w' b) : (∀ g, g ≠ b → w'.heap[g]? = w.heap[g]?) ∧ Dk.Only (fun k => k = b) w w' := by
  have hg := Dk.turned h
  obtain ⟨es, clock, es', clock', hb, rfl⟩ := h
  have hsz : (Go.ChangeMaps.setBlock w b (.map es' clock')).heap.size = w.heap.size := by simp [Go.ChangeMaps.setBlock]
  refine ⟨fun g hgb => ?_, (Dk.Only.refl _ w).grown hg fun k hk => .inl (Option.some.inj hk).symm⟩
  by_cases hlt : g < w.heap.size
  · exact hg.block g hlt (fun e => hgb (Option.some.inj e))
  · rw [Array.getElem?_eq_none (by omega), Array.getElem?_eq_none (by omega)]
set_option maxRecDepth 100000 in
set_option maxHeartbeats 4000000 in
theorem Dk.rename1 {W : World} {d b : Nat} {m : Dk.M} {L : List Dk.X} (h : Dk.Stand W d b m L) (hG : Dk.Good m) {x : Dk.X} (hx : x ∈ L) {bo bt bd bf : Nat} (s t : ByteArray) (hs : s.size ≤ maxLen) (ht : t.size ≤ maxLen) (hxs : x.nm = s.data.toList)
    (h1 : Blk W bo 9 #[.string s]) (h2 : Blk W bt 9 #[.string t]) (h3 : Blk W bd 23 #[.pointer (some ⟨d, 0, none⟩)]) (h4 : Blk W bf 79 #[.pointer (some ⟨x.blk, 0, none⟩)]) :
    Dk.Doing W d b m L 62 #[.pointer (some ⟨bo, 0, none⟩), .pointer (some ⟨bt, 0, none⟩), .pointer (some ⟨bd, 0, none⟩), .pointer (some ⟨bf, 0, none⟩)] (Dk.ren s.data.toList t.data.toList x.f m.files) := by
  intro W1 m1 hS hf hcap ho
  obtain ⟨k1, nf1, l1⟩ := h.box ho h1 (by decide) (by decide) (by decide)
  obtain ⟨k2, nf2, l2⟩ := h.box ho h2 (by decide) (by decide) (by decide)
  obtain ⟨k3, nf3, l3⟩ := h.box ho h3 (by decide) (by decide) (by decide)
  obtain ⟨k4, nf4, l4⟩ := h.box ho h4 (by decide) (by decide) (by decide)
  have p1 := k1.cell 0
  have p2 := k2.cell 0
  have p3 := k3.cell 0
  have p4 := k4.cell 0
  simp only [List.getElem?_toArray, List.getElem?_cons_zero] at p1 p2 p3 p4
  have hup : Dk.Up Dk.F.name m1.files := by rw [hf]; exact hG.up
  have hb := Tx.beq s t
  unfold Dk.ren
  by_cases he : s.data.toList = t.data.toList
  · rw [if_pos he, ← hf]
    rw [decide_eq_true he] at hb
    have hM : Dk.Moved W1 W1 d (Dk.foot d b L) m1 := Dk.Moved.same ⟨b, L, hS, rfl⟩ (Below.refl _ _)
    clear hf hcap ho h hG h1 h2 h3 h4 k1 k2 k3 k4 he hup
    go_enter Tryz.func62, Tryz.ntmps62
    go_wp2_with fail
    go_end0
    exact ⟨rfl, hM⟩
  · rw [if_neg he, ← hf]
    rw [decide_eq_false he] at hb
    have hc := Dk.remove_any hS hup (by rw [hf]; have := hG.used; have := hG.cap; omega) t ht
    have hkt : keyOf Tryz.prog 9 (.string t) = some (.string t.data.toList) := by
      simp [keyOf, Tryz.underlying9, mapKey, ht]
    have hks : keyOf Tryz.prog 9 (.string s) = some (.string s.data.toList) := by
      simp [keyOf, Tryz.underlying9, mapKey, hs]
    have hLl : L.length ≤ 4096 := by
      have h1 := congrArg List.length hS.fs
      rw [List.length_map, hf] at h1
      have := hG.many
      omega
    have hxt : x.nm ≠ t.data.toList := by rw [hxs]; exact he
    have hx2 : x ∈ Dk.del Dk.X.nm t.data.toList L := (Dk.mem_del Dk.X.nm).2 ⟨hx, hxt⟩
    have bo1 : bo ≠ b ∧ bo ≠ d := ⟨fun e => nf1 (.inr (.inl e)), fun e => nf1 (.inl e)⟩
    have bt1 : bt ≠ b ∧ bt ≠ d := ⟨fun e => nf2 (.inr (.inl e)), fun e => nf2 (.inl e)⟩
    have bd1 : bd ≠ b ∧ bd ≠ d := ⟨fun e => nf3 (.inr (.inl e)), fun e => nf3 (.inl e)⟩
    have bf1 : bf ≠ b ∧ bf ≠ d := ⟨fun e => nf4 (.inr (.inl e)), fun e => nf4 (.inl e)⟩
    have hfoot : ∀ k, (k = d ∨ k = b) → Dk.foot d b L k := fun k hk => hk.elim (fun e => .inl e) (fun e => .inr (.inl e))
    have hxL4 : ∀ k, Dk.foot d b (Dk.ins Dk.X.nm ⟨Dk.named2 x.f t.data.toList, x.blk, x.v⟩ (Dk.del Dk.X.nm x.nm (Dk.del Dk.X.nm t.data.toList L))) k → Dk.foot d b L k := by
      rintro k (rfl | rfl | ⟨y, hy, hk⟩)
      · exact .inl rfl
      · exact .inr (.inl rfl)
      · rcases (Dk.mem_ins Dk.X.nm).1 hy with rfl | hy
        · exact .inr (.inr ⟨x, hx, hk⟩)
        · exact .inr (.inr ⟨y, Dk.del_names _ (Dk.del_names x.nm hy), hk⟩)
    have hbd := hS.lone b (.inl rfl)
    clear ho h h1 h2 h3 h4 k1 k2 k3 k4 he
    go_enter Tryz.func62, Tryz.ntmps62
    go_upto_region 2 with (go_at_call 57; refine hc.mono ?_; rintro e W2 ⟨rfl, hS2, ho2⟩)
    have hcell : ∀ {g : Nat}, g ≠ b ∧ g ≠ d → g < W1.heap.size → W2.heap[g]? = W1.heap[g]? := fun {g} hne hl => ho2.block g hl (fun e => e.elim hne.2 hne.1)
    have q1 : W2.cell? ⟨bo, 0, none⟩ = some (.string s) := (World.cell?_of_block (hcell bo1 l1)).trans p1
    have q2 : W2.cell? ⟨bt, 0, none⟩ = some (.string t) := (World.cell?_of_block (hcell bt1 l2)).trans p2
    have q3 : W2.cell? ⟨bd, 0, none⟩ = some (.pointer (some ⟨d, 0, none⟩)) := (World.cell?_of_block (hcell bd1 l3)).trans p3
    have q4 : W2.cell? ⟨bf, 0, none⟩ = some (.pointer (some ⟨x.blk, 0, none⟩)) := (World.cell?_of_block (hcell bf1 l4)).trans p4
    have q0 := hS2.eight.1
    have hL2 : (Dk.del Dk.X.nm t.data.toList L).length ≤ 4096 := Nat.le_trans (List.length_filter_le _ _) hLl
    obtain ⟨L2, hL2e⟩ : ∃ L2, Dk.del Dk.X.nm t.data.toList L = L2 := ⟨_, rfl⟩
    rw [hL2e] at hL2 hS2 hx2 hxL4
    have hm2 : W2.drew.ownsMap Tryz.prog 9 Dk.R b L2.length (Dk.dat L2) := hS2.map
    have S0 : W2.cell? ⟨bo, 0, none⟩ = some (.string s) ∧ W2.cell? ⟨bd, 0, none⟩ = some (.pointer (some ⟨d, 0, none⟩)) ∧ W2.cell? ⟨d, 0, none⟩ = some (.map (some b)) := ⟨q1, q3, q0⟩
    have HL := Lib.hid hL2e
    have hgone : Dk.get Dk.X.nm t.data.toList L2 = none := by rw [← hL2e]; exact Dk.get_del_same _ _
    clear hL2e hc hcell p1 p2 p3 p4
    go_region_held_law (fun W' => W'.cell? ⟨bo, 0, none⟩ = some (.string s) ∧ W'.cell? ⟨bd, 0, none⟩ = some (.pointer (some ⟨d, 0, none⟩)) ∧ W'.cell? ⟨d, 0, none⟩ = some (.map (some b)))
      (first
        | with_reducible assumption
        | exact S0
        | exact S3)
      (first
        | (refine Dk.step_delete rfl (.tmp 13) (.tmp 14) 52 9 rfl (.map (some b)) (.string s) (by simp [Act.eval]) (by simp [Act.eval]) _ (fun ty => hm2.drop Dk.strKeyed Tryz.underlying52 hks ty) ?_; intro W3 ho3; obtain ⟨hown3, hturn3⟩ := ho3
           obtain ⟨ha3, hO3⟩ := Dk.turned_all hturn3
           have S3 : W3.cell? ⟨bo, 0, none⟩ = some (.string s) ∧ W3.cell? ⟨bd, 0, none⟩ = some (.pointer (some ⟨d, 0, none⟩)) ∧ W3.cell? ⟨d, 0, none⟩ = some (.map (some b)) := ⟨(World.cell?_of_block (ha3 bo bo1.1)).trans q1, (World.cell?_of_block (ha3 bd bd1.1)).trans q3, (World.cell?_of_block (ha3 d (fun e => hbd e.symm))).trans q0⟩))
    all_goals
      have hown3' : W3.drew.ownsMap Tryz.prog 9 Dk.R b L2.length ((Dk.dat L2).del (.string s.data.toList)) := hown3
      obtain ⟨W4, hrun4, hown4, hturn4⟩ := hown3'.store Dk.strKeyed Tryz.underlying52 (by unfold maxLen; omega) hkt (Dk.R_ptr x.blk)
      obtain ⟨ha4, hO4⟩ := Dk.turned_all hturn4
      have r2 : W3.cell? ⟨bt, 0, none⟩ = some (.string t) := (World.cell?_of_block (ha3 bt bt1.1)).trans q2
      have r4 : W3.cell? ⟨bf, 0, none⟩ = some (.pointer (some ⟨x.blk, 0, none⟩)) := (World.cell?_of_block (ha3 bf bf1.1)).trans q4
      have T0 : W3.cell? ⟨bt, 0, none⟩ = some (.string t) ∧ W3.cell? ⟨bf, 0, none⟩ = some (.pointer (some ⟨x.blk, 0, none⟩)) ∧ W3.cell? ⟨bd, 0, none⟩ = some (.pointer (some ⟨d, 0, none⟩)) ∧ W3.cell? ⟨d, 0, none⟩ = some (.map (some b)) := ⟨r2, r4, S3.2.1, S3.2.2⟩
      have T4 : W4.cell? ⟨bt, 0, none⟩ = some (.string t) ∧ W4.cell? ⟨bf, 0, none⟩ = some (.pointer (some ⟨x.blk, 0, none⟩)) ∧ W4.cell? ⟨bd, 0, none⟩ = some (.pointer (some ⟨d, 0, none⟩)) ∧ W4.cell? ⟨d, 0, none⟩ = some (.map (some b)) :=
        ⟨(World.cell?_of_block (ha4 bt bt1.1)).trans r2, (World.cell?_of_block (ha4 bf bf1.1)).trans r4, (World.cell?_of_block (ha4 bd bd1.1)).trans S3.2.1, (World.cell?_of_block (ha4 d (fun e => hbd e.symm))).trans S3.2.2⟩
      have hM : Dk.Moved W1 W4 d (Dk.foot d b L) { m1 with files := Dk.ins Dk.F.name (Dk.named2 x.f t.data.toList) (Dk.del Dk.F.name s.data.toList (Dk.del Dk.F.name t.data.toList m1.files)) } := by
        rw [← hxs] at hown4 ⊢
        have hSt := hS2.moved (Dk.up_del Dk.F.name hup t.data.toList) hx2 t.data.toList hgone (W' := W4) hown4 (fun g hg => (ha4 g hg).trans (ha3 g hg))
        refine ⟨_, ⟨b, _, hSt, rfl⟩, ?_, fun k hk => .inl (hxL4 k hk)⟩
        have h1 : Dk.Only (Dk.foot d b L) W1 W2 := ho2.wide fun k _ hk => hfoot k hk
        have h2 : Dk.Only (Dk.foot d b L) W2.drew W3 := hO3.wide fun k _ hk => hfoot k (.inr hk)
        have h3 : Dk.Only (Dk.foot d b L) W3.drew W4 := hO4.wide fun k _ hk => hfoot k (.inr hk)
        exact ((h1.drew).trans h2).drew.trans h3
      clear S0 S3 q1 q2 q3 q4 q0 hm2 hown3 hown3' hown4 hturn3 hturn4 ha3 ha4 hO3 hO4 r2 r4 hS2 ho2 hgone hxL4
      go_wp2_with fail
      go_region_held_law (fun W' => W'.cell? ⟨bt, 0, none⟩ = some (.string t) ∧ W'.cell? ⟨bf, 0, none⟩ = some (.pointer (some ⟨x.blk, 0, none⟩)) ∧ W'.cell? ⟨bd, 0, none⟩ = some (.pointer (some ⟨d, 0, none⟩)) ∧ W'.cell? ⟨d, 0, none⟩ = some (.map (some b)))
        (first
          | with_reducible assumption
          | exact T0
          | exact T4)
        (fail)
      all_goals (try go_wp2_with fail)
      all_goals
        go_end0
        exact ⟨rfl, hM⟩
end Go.Proofs.YtdhnkcfmjibibaaGreatDoor
/- Disks: Rename, whole. Conditions: each theorem's own hypotheses. -/
namespace Go.Proofs.YtdhnkcfmjibibaaGreatDoor
open Go.RowKit Go.Maps Go.Sort
set_option linter.unusedVariables false

set_option maxRecDepth 100000 in
set_option maxHeartbeats 4000000 in
theorem Dk.rename_any {W : World} {d : Nat} {m : Dk.M} {F : Nat → Prop} (h : Dk.At W d m F) (hG : Dk.Good m) (s t : ByteArray) (hs : s.size ≤ maxLen) (ht : t.size ≤ maxLen) :
    Calls Tryz.prog 30 #[.pointer (some ⟨d, 0, none⟩), .string s, .string t] W fun e W' => e = .returned (.int .i64 (Dk.rename m s.data.toList t.data.toList).2) ∧ Dk.Moved W W' d F (Dk.rename m s.data.toList t.data.toList).1 := by
  obtain ⟨b, L, hS0, rfl⟩ := h
  obtain ⟨Z, hZ⟩ : ∃ Z, Dk.rename m s.data.toList t.data.toList = Z := ⟨_, rfl⟩
  rw [hZ]
  unfold Dk.rename at hZ
  have HZ := Lib.hid hZ
  clear hZ
  have hX : ∃ X bd bo bt, ((W.alloc (.cells #[.pointer (some ⟨d, 0, none⟩)] 23)).alloc (.cells #[.string s] 9)).alloc (.cells #[.string t] 9) = X ∧ W.heap.size = bd ∧ W.heap.size + 1 = bo ∧ W.heap.size + 1 + 1 = bt ∧ Below W.heap.size W X ∧
      Blk X bd 23 #[.pointer (some ⟨d, 0, none⟩)] ∧ Blk X bo 9 #[.string s] ∧ Blk X bt 9 #[.string t] := by
    refine ⟨_, _, _, _, rfl, rfl, rfl, rfl, (((Below.refl _ _).alloc (Nat.le_refl _) _).alloc (by simp) _).alloc (by simp; omega) _, ((Blk.new W _ _).alloc _).alloc _, ?_, ?_⟩
    · have := (Blk.new (W.alloc (.cells #[.pointer (some ⟨d, 0, none⟩)] 23)) 9 #[.string s]).alloc (.cells #[.string t] 9)
      rw [World.size_alloc] at this
      exact this
    · have := Blk.new ((W.alloc (.cells #[.pointer (some ⟨d, 0, none⟩)] 23)).alloc (.cells #[.string s] 9)) 9 #[.string t]
      rw [World.size_alloc, World.size_alloc] at this
      exact this
  obtain ⟨X, bd, bo, bt, hXe, hbde, hboe, hbte, hBX, k1, k2, k3⟩ := hX
  rw [hboe] at hbte
  rw [hbde] at hboe
  have hbo2 : bd + 2 = bt := by omega
  have hS := hS0.later hBX (Nat.le_refl _)
  have p1 := k1.cell 0
  have p2 := k2.cell 0
  have p3 := k3.cell 0
  simp only [List.getElem?_toArray, List.getElem?_cons_zero] at p1 p2 p3
  have hlook := Dk.look_any hS s (by unfold maxLen at hs; omega)
  have hA0 : Dk.At W d m (Dk.foot d b L) := ⟨b, L, hS0, rfl⟩
  obtain ⟨q, hq⟩ : ∃ q, Dk.named t.data.toList = q := ⟨_, rfl⟩
  have hname : ∀ w : World, Calls Tryz.prog 61 #[.string t] w fun e w' => e = .returned (.bool q) ∧ w = w' := fun w => Dk.isName_any t (by unfold maxLen at ht; omega) q hq w
  rw [hq] at HZ
  by_cases hc : Dk.code m s.data.toList = 0
  · obtain ⟨x, hx1, hx, hx2, hx3⟩ := Dk.found_file hS hc
    rw [hx1, hc] at hlook
    unfold Dk.ptr at hlook
    simp only at hlook
    have hZ := HZ.out
    rw [hc, if_neg (by decide), ← hx3] at hZ
    have hY : ∃ Y bf, X.alloc (.cells #[.pointer (some ⟨x.blk, 0, none⟩)] 79) = Y ∧ X.heap.size = bf ∧ Blk Y bf 79 #[.pointer (some ⟨x.blk, 0, none⟩)] ∧ Blk Y bd 23 #[.pointer (some ⟨d, 0, none⟩)] ∧ Blk Y bo 9 #[.string s] ∧ Blk Y bt 9 #[.string t] ∧ Dk.Stand Y d b m L ∧ Below W.heap.size W Y :=
      ⟨_, _, rfl, rfl, Blk.new X _ _, k1.alloc _, k2.alloc _, k3.alloc _, hS.later ((Below.refl _ _).alloc (Nat.le_refl _) _) (Nat.le_refl _), hBX.alloc hBX.size _⟩
    obtain ⟨Y, bf, hYe, hbfe, j4, j1, j2, j3, hSY, hBY⟩ := hY
    have r1 := j1.cell 0
    have r3 := j3.cell 0
    simp only [List.getElem?_toArray, List.getElem?_cons_zero] at r1 r3
    have hsame : Dk.Moved W Y d (Dk.foot d b L) m := Dk.Moved.same hA0 hBY
    cases q with
    | false =>
      rw [if_pos (.inr rfl)] at hZ
      subst hZ
      clear hc hx1 hx2 hx3 HZ k1 k2 k3 hS hS0 hBX hq
      go_enter Tryz.func30, Tryz.ntmps30
      go_wp2_with (first
        | (go_at_call 54; refine hlook.mono ?_; rintro e w2 ⟨rfl, rfl⟩)
        | (go_at_call 61; refine (hname _).mono ?_; rintro e w2 ⟨rfl, rfl⟩))
      go_ret
      exact ⟨rfl, hsame⟩
    | true =>
      rw [if_neg (by decide), if_neg (fun h => h rfl)] at hZ
      have hSd : Dk.Stand Y.drew d b m L := hSY.keep fun _ _ => rfl
      have hdo := Dk.rename1 hSd hG hx (bo := bo) (bt := bt) (bd := bd) (bf := bf) s t hs ht hx2 j2 j3 j1 j4
      have hacc := Dk.accepted_any hSd hG.left m.done _ _ _ hdo (Dk.run_enter Tryz.func62 (by kernel_rfl) rfl)
      have hdn := Dk.acc_done m m.done (Dk.ren s.data.toList t.data.toList x.f m.files)
      rw [hZ] at hacc hdn
      obtain ⟨c0, c1, c2, c3, c4, c5, c6, c7⟩ := hSY.eight
      have nb1 := hSY.off j1 (by decide) (by decide) (by decide)
      have hbd0 := j1.lt
      have S0 : Y.cell? ⟨bd, 0, none⟩ = some (.pointer (some ⟨d, 0, none⟩)) ∧ Y.cell? ⟨d, 7, none⟩ = some (.bool m.done) := ⟨r1, c7⟩
      clear hc hx1 hx2 hx3 HZ k1 k2 k3 hS hS0 hBX hq hZ hdo c0 c1 c2 c3 c4 c5 c6 j2 j3 j4
      go_enter Tryz.func30, Tryz.ntmps30
      go_upto_region 8 with (first
        | (go_at_call 54; refine hlook.mono ?_; rintro e w2 ⟨rfl, rfl⟩)
        | (go_at_call 61; refine (hname _).mono ?_; rintro e w2 ⟨rfl, rfl⟩))
      go_region_held_law (fun W' => W'.cell? ⟨bd, 0, none⟩ = some (.pointer (some ⟨d, 0, none⟩)) ∧ W'.cell? ⟨d, 7, none⟩ = some (.bool m.done))
        (first
          | with_reducible assumption
          | exact S0
          | exact S9)
        (first
          | (go_at_call 55; refine hacc.mono ?_; rintro e w2 ⟨rfl, hM⟩
             have S9 : w2.cell? ⟨bd, 0, none⟩ = some (.pointer (some ⟨d, 0, none⟩)) ∧ w2.cell? ⟨d, 7, none⟩ = some (.bool m.done) := by
               obtain ⟨F', ⟨b', L', h3, rfl⟩, o3, f3⟩ := hM
               refine ⟨(World.cell?_of_block (o3.block bd hbd0 nb1)).trans r1, ?_⟩
               rw [← hdn]
               exact h3.eight.2.2.2.2.2.2.2))
      all_goals (try go_wp2_with fail)
      all_goals
        go_ret
        exact ⟨rfl, Dk.Moved.from hBY.drew hM⟩
  · have hnone := Dk.found_none hS hc
    rw [hnone] at hlook
    unfold Dk.ptr at hlook
    simp only at hlook
    have hZ := HZ.out
    have r3 := (k3.alloc (.cells #[.pointer none] 79)).cell 0
    simp only [List.getElem?_toArray, List.getElem?_cons_zero] at r3
    have hsame : Dk.Moved W (X.alloc (.cells #[.pointer none] 79)) d (Dk.foot d b L) m := Dk.Moved.same hA0 (hBX.alloc hBX.size _)
    rcases Dk.code_range m s.data.toList with hc2 | hc2 | hc2 | hc2
    · rw [hc2, if_pos rfl] at hZ
      rw [hc2] at hlook
      subst hZ
      clear hc hc2 HZ k1 k2 k3 hS hS0 hBX hq hnone
      go_enter Tryz.func30, Tryz.ntmps30
      go_wp2_with (go_at_call 54; refine hlook.mono ?_; rintro e w2 ⟨rfl, rfl⟩)
      go_ret
      exact ⟨rfl, hsame⟩
    · rw [hc2, if_neg (by decide), if_pos (.inl rfl)] at hZ
      rw [hc2] at hlook
      subst hZ
      clear hc hc2 HZ k1 k2 k3 hS hS0 hBX hq hnone
      go_enter Tryz.func30, Tryz.ntmps30
      go_wp2_with (go_at_call 54; refine hlook.mono ?_; rintro e w2 ⟨rfl, rfl⟩)
      go_ret
      exact ⟨rfl, hsame⟩
    · rw [hc2, if_neg (by decide)] at hZ
      rw [hc2] at hlook
      cases q with
      | false =>
        rw [if_pos (.inr rfl)] at hZ
        subst hZ
        clear hc hc2 HZ k1 k2 k3 hS hS0 hBX hq hnone
        go_enter Tryz.func30, Tryz.ntmps30
        go_wp2_with (first
          | (go_at_call 54; refine hlook.mono ?_; rintro e w2 ⟨rfl, rfl⟩)
          | (go_at_call 61; refine (hname _).mono ?_; rintro e w2 ⟨rfl, rfl⟩))
        go_ret
        exact ⟨rfl, hsame⟩
      | true =>
        rw [if_neg (by decide), if_pos (by decide)] at hZ
        subst hZ
        clear hc hc2 HZ k1 k2 k3 hS hS0 hBX hq hnone
        go_enter Tryz.func30, Tryz.ntmps30
        go_wp2_with (first
          | (go_at_call 54; refine hlook.mono ?_; rintro e w2 ⟨rfl, rfl⟩)
          | (go_at_call 61; refine (hname _).mono ?_; rintro e w2 ⟨rfl, rfl⟩))
        go_ret
        exact ⟨rfl, hsame⟩
    · exact absurd hc2 hc
end Go.Proofs.YtdhnkcfmjibibaaGreatDoor
