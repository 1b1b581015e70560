/- Disks: Create. Conditions: each theorem's own hypotheses. -/
import Derived.Test.YtifkhjihgnnpfaaGreatDoorDkP
import Derived.Test.YtifkhjihgnnpfaaGreatDoorZDkO
namespace Go.Proofs.YtifkhjihgnnpfaaGreatDoor
open Go.RowKit Go.Maps Go.Sort
set_option linter.unusedVariables false

/-- A box of another kind is none of a disk's blocks. -/
theorem Dk.Stand.off {W : World} {d b : Nat} {m : Dk.M} {L : List Dk.X} (h : Dk.Stand W d b m L) {g : Nat} {t : TypeId} {cs : Array Value} (hb : Blk W g t cs) (h1 : t ≠ 44) (h2 : t ≠ 89) (h3 : t ≠ 5) : ¬ Dk.foot d b L g := by
  unfold Blk at hb
  rintro (rfl | rfl | ⟨x, hx, e | e⟩)
  · have h := h.disk
    unfold Blk at h
    rw [hb] at h
    injection h with h
    injection h with _ h _
    exact h1 h
  · obtain ⟨es, clock, hm, _⟩ := h.map
    rw [hb] at hm; cases hm
  · have h := (h.file x hx).1
    unfold Blk at h
    rw [e, hb] at h
    injection h with h
    injection h with _ h _
    exact h2 h
  · obtain ⟨cur, fz, h⟩ := (h.file x hx).2.type e
    rw [hb] at h
    injection h with h
    injection h with _ h _
    exact h3 h
theorem Dk.used_perm {a b : List Dk.F} (h : a.Perm b) : Dk.used a = Dk.used b := by
  unfold Dk.used
  exact (h.map _).sum_nat
theorem Dk.used_ins (f : Dk.F) (l : List Dk.F) : Dk.used (Dk.ins Dk.F.name f l) = f.data.length + Dk.used l := by
  rw [Dk.used_perm (Dk.perm_ins f l), Dk.used_cons]
/-- An empty file. -/
def Dk.empty (nm : List UInt8) : Dk.F := ⟨nm, [], 0⟩
set_option maxRecDepth 100000 in
set_option maxHeartbeats 2000000 in
/-- What Create's closure does. -/
theorem Dk.create1 {W : World} {d b : Nat} {m : Dk.M} {L : List Dk.X} (h : Dk.Stand W d b m L) (hG : Dk.Good m) {bd bn : Nat} (s : ByteArray) (hs : s.size ≤ maxLen)
    (h1 : Blk W bd 24 #[.pointer (some ⟨d, 0, none⟩)]) (h2 : Blk W bn 9 #[.string s]) (hn : Dk.get Dk.F.name s.data.toList m.files = none) :
    Dk.Doing W d b m L 67 #[.pointer (some ⟨bd, 0, none⟩), .pointer (some ⟨bn, 0, none⟩)] (Dk.ins Dk.F.name (Dk.empty s.data.toList) m.files) := by
  intro W1 m1 hS hf hcap ho
  have hbd : bd ≠ d := fun e => h.off h1 (by decide) (by decide) (by decide) (.inl e)
  have hbn : bn ≠ d := fun e => h.off h2 (by decide) (by decide) (by decide) (.inl e)
  have k1 : Blk W1 bd 24 #[.pointer (some ⟨d, 0, none⟩)] := (ho.block bd h1.lt hbd).trans h1
  have k2 : Blk W1 bn 9 #[.string s] := (ho.block bn h2.lt hbn).trans h2
  have nb1 := hS.off k1 (by decide) (by decide) (by decide)
  have nb2 := hS.off k2 (by decide) (by decide) (by decide)
  obtain ⟨c0, _⟩ := hS.eight
  have p1 := k1.cell 0
  have p2 := k2.cell 0
  simp only [List.getElem?_toArray, List.getElem?_cons_zero] at p1 p2
  have hd0 := hS.disk.lt
  have hb0 := hS.map.lt
  have hkey : keyOf Tryz.prog 9 (.string s) = some (.string s.data.toList) := by
    simp [keyOf, Tryz.underlying9, mapKey, hs]
  have hLl : L.length < maxLen := by
    have h1 := congrArg List.length hS.fs
    rw [List.length_map, hf] at h1
    have := hG.many
    unfold maxLen; omega
  obtain ⟨w', hrun, hown, hgr⟩ := (Dk.map_keep hS.map (Below.heap_alloc W1.drew (.cells (Dk.fcells (.slice none 0 0) 0) 89) b hb0) : (W1.drew.alloc (.cells (Dk.fcells (.slice none 0 0) 0) 89)).ownsMap Tryz.prog 9 Dk.R b L.length (Dk.dat L)).update Dk.strKeyed Tryz.underlying42 hLl hkey (Dk.R_ptr W1.heap.size)
  have hsz : W1.heap.size + 1 ≤ w'.heap.size := by
    have := hgr.size
    rw [World.size_alloc] at this
    exact this
  have hw' : ∀ k, k < W1.heap.size → k ≠ b → w'.heap[k]? = W1.heap[k]? := fun k hk hkb =>
    (hgr.block k (by rw [World.size_alloc]; exact Nat.lt_succ_of_lt hk) (fun e => hkb (Option.some.inj e))).trans (Below.heap_alloc W1.drew _ k hk)
  have hnew : Blk w' W1.heap.size 89 (Dk.fcells (.slice none 0 0) 0) :=
    (hgr.block W1.heap.size (by rw [World.size_alloc]; exact Nat.lt_succ_self _) (fun e => by have := Option.some.inj e; omega)).trans (Blk.new W1.drew _ _)
  have hrun2 : Sem.run Tryz.prog (Instr.mapUpdate 42 (.map (some b)) (.string s) (.pointer (some ⟨W1.heap.size, 0, none⟩))) ((W1.alloc (.cells #[.slice none 0 0, .int .i64 0] 89)).drew) = .ok () w' := hrun
  have hrun3 : Sem.run Tryz.prog (Instr.mapUpdate 42 (.map (some b)) (.string s) (.pointer (some ⟨W1.heap.size, 0, none⟩))) (W1.drew.alloc (.cells #[.slice none 0 0, .int .i64 0] 89)) = .ok () w' := hrun
  have hfin : Dk.Moved W1 w' d (Dk.foot d b L) { m1 with files := Dk.ins Dk.F.name (Dk.empty s.data.toList) m.files } := by
    refine ⟨_, ⟨b, Dk.ins Dk.X.nm ⟨Dk.empty s.data.toList, W1.heap.size, .slice none 0 0⟩ L, ?_, rfl⟩, ⟨hgr.os, hgr.tape, hgr.output, by omega, fun k hk hnf => hw' k hk (fun e => hnf (.inr (.inl e)))⟩, ?_⟩
    · refine hS.insert _ ?_ hown ?_ ?_ hnew (.inl ⟨rfl, rfl⟩) (Nat.le_refl _) (fun k hk => by cases hk) (fun k h1 _ h3 => hw' k h1 h3)
      · have h3 : Blk w' d 44 (Dk.cells b m1) := (hw' d hd0 (fun e => hS.lone b (.inl rfl) e.symm)).trans hS.disk
        have h4 : Dk.cells b m1 = Dk.cells b { m1 with files := Dk.ins Dk.F.name (Dk.empty s.data.toList) m.files } := by
          unfold Dk.cells
          rw [hf, Dk.used_ins]
          show _ = #[_, _, Value.int .i64 ((0 + Dk.used m.files : Nat) : Int), _, _, _, _, _]
          rw [Nat.zero_add]
        rw [← h4]
        exact h3
      · have hg := hS.get s.data.toList
        rw [hf, hn] at hg
        cases hx : Dk.get Dk.X.nm s.data.toList L with
        | none => exact hx
        | some x => rw [hx] at hg; cases hg
      · show Dk.ins _ _ _ = _
        rw [hf]
    · rintro k (rfl | rfl | ⟨x, hx, hx2⟩)
      · exact .inl (.inl rfl)
      · exact .inl (.inr (.inl rfl))
      · rcases (Dk.mem_ins Dk.X.nm).1 hx with rfl | hx
        · rcases hx2 with e | e
          · exact .inr (Nat.le_of_eq e)
          · cases e
        · exact .inl (.inr (.inr ⟨x, hx, hx2⟩))
  have S0 : W1.cell? ⟨bd, 0, none⟩ = some (.pointer (some ⟨d, 0, none⟩)) ∧ W1.cell? ⟨bn, 0, none⟩ = some (.string s) ∧ W1.cell? ⟨d, 0, none⟩ = some (.map (some b)) := ⟨p1, p2, c0⟩
  have hbd0 := k1.lt
  have hbn0 := k2.lt
  have SA : ∀ o : Obj, (W1.drew.alloc o).cell? ⟨bd, 0, none⟩ = some (.pointer (some ⟨d, 0, none⟩)) ∧ (W1.drew.alloc o).cell? ⟨bn, 0, none⟩ = some (.string s) ∧ (W1.drew.alloc o).cell? ⟨d, 0, none⟩ = some (.map (some b)) := fun o =>
    ⟨(World.cell?_of_block (Below.heap_alloc W1.drew o bd hbd0)).trans p1, (World.cell?_of_block (Below.heap_alloc W1.drew o bn hbn0)).trans p2, (World.cell?_of_block (Below.heap_alloc W1.drew o d hd0)).trans c0⟩
  have S9 : w'.cell? ⟨bd, 0, none⟩ = some (.pointer (some ⟨d, 0, none⟩)) ∧ w'.cell? ⟨bn, 0, none⟩ = some (.string s) ∧ w'.cell? ⟨d, 0, none⟩ = some (.map (some b)) :=
    ⟨(World.cell?_of_block (hw' bd hbd0 (fun e => nb1 (.inr (.inl e))))).trans p1, (World.cell?_of_block (hw' bn hbn0 (fun e => nb2 (.inr (.inl e))))).trans p2, (World.cell?_of_block (hw' d hd0 (fun e => hS.lone b (.inl rfl) e.symm))).trans c0⟩
  clear hrun hf hcap ho hkey hown hgr hw' hnew h hG hn hLl
  go_enter Tryz.func67, Tryz.ntmps67
  go_region_held_law (fun W' => W'.cell? ⟨bd, 0, none⟩ = some (.pointer (some ⟨d, 0, none⟩)) ∧ W'.cell? ⟨bn, 0, none⟩ = some (.string s) ∧ W'.cell? ⟨d, 0, none⟩ = some (.map (some b)))
    (first
      | with_reducible assumption
      | exact S0
      | exact SA _
      | exact S9)
    (fail)
  all_goals (try go_wp2_with fail)
  all_goals
    go_end0
    exact ⟨rfl, hfin⟩
theorem Dk.acc_done (m : Dk.M) (last : Bool) (fs : List Dk.F) : (Dk.acc m last fs).1.done = m.done := by
  unfold Dk.acc
  split
  · rfl
  · split <;> rfl
theorem Dk.Moved.from {W X W' : World} {d : Nat} {F : Nat → Prop} {m' : Dk.M} (hB : Below W.heap.size W X) (h : Dk.Moved X W' d F m') : Dk.Moved W W' d F m' := by
  obtain ⟨F', hA, ho, hf⟩ := h
  exact ⟨F', hA, (Dk.Only.of hB).trans ho, fun k hk => (hf k hk).imp id fun h => Nat.le_trans hB.size h⟩
theorem Dk.Moved.same {W W' : World} {d : Nat} {m : Dk.M} {F : Nat → Prop} (h : Dk.At W d m F) (hB : Below W.heap.size W W') : Dk.Moved W W' d F m :=
  ⟨F, h.later hB (Nat.le_refl _), Dk.Only.of hB, fun k hk => .inl hk⟩
/-- What Create does and answers. -/
def Dk.create (m : Dk.M) (nm : List UInt8) : Dk.M × Int :=
  if Dk.code m nm = 0 then (m, 41)
  else if Dk.code m nm ≠ 42 then (m, Dk.code m nm)
  else if 4096 ≤ m.files.length then (m, 43)
  else Dk.acc m m.done (Dk.ins Dk.F.name (Dk.empty nm) m.files)
theorem Dk.code_range (m : Dk.M) (nm : List UInt8) : Dk.code m nm = 45 ∨ Dk.code m nm = 40 ∨ Dk.code m nm = 42 ∨ Dk.code m nm = 0 := by
  unfold Dk.code
  split
  · exact .inl rfl
  · split
    · split
      · exact .inr (.inr (.inr rfl))
      · exact .inr (.inr (.inl rfl))
    · exact .inr (.inl rfl)
theorem Dk.code_none {m : Dk.M} {nm : List UInt8} (h : Dk.code m nm = 42) : Dk.named nm = true ∧ Dk.get Dk.F.name nm m.files = none ∧ m.off = false := by
  unfold Dk.code at h
  cases ho : m.off with
  | true => rw [ho, if_pos rfl] at h; cases h
  | false =>
    rw [ho, if_neg (by decide)] at h
    cases hn : Dk.named nm with
    | false => rw [hn, if_neg (by decide)] at h; cases h
    | true =>
      rw [hn, if_pos rfl] at h
      cases hg : Dk.get Dk.F.name nm m.files with
      | none => exact ⟨rfl, rfl, rfl⟩
      | some f => rw [hg] at h; cases h
set_option maxRecDepth 100000 in
set_option maxHeartbeats 4000000 in
theorem Dk.create_any {W : World} {d : Nat} {m : Dk.M} {F : Nat → Prop} (h : Dk.At W d m F) (hG : Dk.Good m) (s : ByteArray) (hs : s.size ≤ maxLen) :
    Calls Tryz.prog 37 #[.pointer (some ⟨d, 0, none⟩), .string s] W fun e W' => e = .returned (.int .i64 (Dk.create m s.data.toList).2) ∧ Dk.Moved W W' d F (Dk.create m s.data.toList).1 := by
  obtain ⟨b, L, hS0, rfl⟩ := h
  have hB0 : ∀ o1 o2 : Obj, Below W.heap.size W ((W.alloc o1).alloc o2) := fun o1 o2 => ((Below.refl _ _).alloc (Nat.le_refl _) o1).alloc (by simp) o2
  obtain ⟨Z, hZ0⟩ : ∃ Z, Dk.create m s.data.toList = Z := ⟨_, rfl⟩
  rw [hZ0]
  have HZ := Lib.hid hZ0
  clear hZ0
  go_enter Tryz.func37, Tryz.ntmps37
  go_upto_region 1 with fail
  obtain ⟨X, hX⟩ : ∃ X, (W.alloc (.cells #[.pointer (some ⟨d, 0, none⟩)] 24)).alloc (.cells #[.string s] 9) = X := ⟨_, rfl⟩
  have hBX : Below W.heap.size W X := by rw [← hX]; exact hB0 _ _
  have k1 : Blk X W.heap.size 24 #[.pointer (some ⟨d, 0, none⟩)] := by rw [← hX]; exact (Blk.new W _ _).alloc _
  have k2 : Blk X (W.heap.size + 1) 9 #[.string s] := by
    rw [← hX]
    have := Blk.new (W.alloc (.cells #[.pointer (some ⟨d, 0, none⟩)] 24)) 9 #[.string s]
    rw [World.size_alloc] at this
    exact this
  rw [hX]
  obtain ⟨bd, hbd⟩ : ∃ bd, W.heap.size = bd := ⟨_, rfl⟩
  obtain ⟨bn, hbn⟩ : ∃ bn, W.heap.size + 1 = bn := ⟨_, rfl⟩
  rw [hbn] at k2 ⊢
  rw [hbd] at k1 ⊢
  have hS := hS0.later hBX (Nat.le_refl _)
  have p1 := k1.cell 0
  have p2 := k2.cell 0
  simp only [List.getElem?_toArray, List.getElem?_cons_zero] at p1 p2
  have hlook := Dk.look_any hS s (by unfold maxLen at hs; omega)
  obtain ⟨pv, hpv⟩ : ∃ pv, Dk.ptr (Dk.found m L s.data.toList) = pv := ⟨_, rfl⟩
  rw [hpv] at hlook
  have hsame : Dk.Moved W X d (Dk.foot d b L) m := Dk.Moved.same ⟨b, L, hS0, rfl⟩ hBX
  have hZ := HZ.out
  unfold Dk.create at hZ
  have HX := Lib.hid hX
  have HB := Lib.hid (And.intro hbd hbn)
  clear hpv hX hbd hbn hB0
  rcases Dk.code_range m s.data.toList with hc | hc | hc | hc
  · rw [hc, if_neg (by decide), if_pos (by decide)] at hZ
    subst hZ
    rw [hc] at hlook
    clear hc HZ
    go_wp2_with (go_at_call 61; refine hlook.mono ?_; rintro e w2 ⟨rfl, rfl⟩)
    go_ret
    exact ⟨rfl, hsame⟩
  · rw [hc, if_neg (by decide), if_pos (by decide)] at hZ
    subst hZ
    rw [hc] at hlook
    clear hc HZ
    go_wp2_with (go_at_call 61; refine hlook.mono ?_; rintro e w2 ⟨rfl, rfl⟩)
    go_ret
    exact ⟨rfl, hsame⟩
  · rw [hc, if_neg (by decide), if_neg (by decide)] at hZ
    rw [hc] at hlook
    obtain ⟨hn1, hn2, hn3⟩ := Dk.code_none hc
    obtain ⟨c0, c1, c2, c3, c4, c5, c6, c7⟩ := hS.eight
    have hlen := hS.run_len
    by_cases hm : 4096 ≤ m.files.length
    · rw [if_pos hm] at hZ
      subst hZ
      have hq : decide (4096 ≤ m.files.length) = true := decide_eq_true hm
      have hq2 : decide ((4096 : Int) ≤ (m.files.length : Int)) = true := decide_eq_true (by omega)
      clear hc HZ hm
      go_wp2_with (go_at_call 61; refine hlook.mono ?_; rintro e w2 ⟨rfl, rfl⟩)
      go_ret
      exact ⟨rfl, hsame⟩
    · rw [if_neg hm] at hZ
      have hq : decide (4096 ≤ m.files.length) = false := decide_eq_false hm
      have hq2 : decide ((4096 : Int) ≤ (m.files.length : Int)) = false := decide_eq_false (by omega)
      have hSd : Dk.Stand X.drew d b m L := hS.keep fun _ _ => rfl
      have hdo := Dk.create1 hSd hG (bd := bd) (bn := bn) s hs k1 k2 hn2
      have hacc := Dk.accepted_any hSd hG.left m.done 67 #[.pointer (some ⟨bd, 0, none⟩), .pointer (some ⟨bn, 0, none⟩)] _ hdo (Dk.run_enter Tryz.func67 (by kernel_rfl) rfl)
      have hdn := Dk.acc_done m m.done (Dk.ins Dk.F.name (Dk.empty s.data.toList) m.files)
      rw [hZ] at hacc hdn
      have nb1 := hS.off k1 (by decide) (by decide) (by decide)
      have hbd0 := k1.lt
      have S0 : X.cell? ⟨bd, 0, none⟩ = some (.pointer (some ⟨d, 0, none⟩)) ∧ X.cell? ⟨d, 7, none⟩ = some (.bool m.done) := ⟨p1, c7⟩
      clear hc HZ hm hZ hdo hn1 hn2 hn3 c1 c2 c3 c4 c5 c6
      go_upto_region 8 with (go_at_call 61; refine hlook.mono ?_; rintro e w2 ⟨rfl, rfl⟩)
      go_region_held_law (fun W' => W'.cell? ⟨bd, 0, none⟩ = some (.pointer (some ⟨d, 0, none⟩)) ∧ W'.cell? ⟨d, 7, none⟩ = some (.bool m.done))
        (first
          | with_reducible assumption
          | exact S0
          | exact S9)
        (first
          | (go_at_call 62; refine hacc.mono ?_; rintro e w2 ⟨rfl, hM⟩
             have S9 : w2.cell? ⟨bd, 0, none⟩ = some (.pointer (some ⟨d, 0, none⟩)) ∧ w2.cell? ⟨d, 7, none⟩ = some (.bool m.done) := by
               obtain ⟨F', ⟨b', L', h3, rfl⟩, o3, f3⟩ := hM
               refine ⟨(World.cell?_of_block (o3.block bd hbd0 nb1)).trans p1, ?_⟩
               rw [← hdn]
               exact h3.eight.2.2.2.2.2.2.2))
      all_goals (try go_wp2_with fail)
      all_goals
        go_ret
        exact ⟨rfl, Dk.Moved.from hBX.drew hM⟩
  · rw [hc, if_pos rfl] at hZ
    subst hZ
    rw [hc] at hlook
    clear hc HZ
    go_wp2_with (go_at_call 61; refine hlook.mono ?_; rintro e w2 ⟨rfl, rfl⟩)
    go_ret
    exact ⟨rfl, hsame⟩
end Go.Proofs.YtifkhjihgnnpfaaGreatDoor
/- Disks: a file written over in its place. Conditions: each theorem's own hypotheses. -/
namespace Go.Proofs.YtifkhjihgnnpfaaGreatDoor
open Go.RowKit Go.Maps Go.Sort
set_option linter.unusedVariables false

section
variable {α : Type} {key : α → List UInt8}
theorem Dk.key_inj {l : List α} (h : Dk.Up key l) {x y : α} (hx : x ∈ l) (hy : y ∈ l) (e : key x = key y) : x = y := by
  induction l with
  | nil => cases hx
  | cons z r ih =>
    obtain ⟨h1, h2⟩ := List.pairwise_cons.1 h
    have no : ∀ w ∈ r, key z ≠ key w := fun w hw e => by
      have := h1 w hw
      rw [e, WideAt.bytes_irrefl] at this
      cases this
    rcases List.mem_cons.1 hx with e1 | hx2
    · rcases List.mem_cons.1 hy with e2 | hy2
      · exact e1.trans e2.symm
      · exact absurd (e1 ▸ e) (no y hy2)
    · rcases List.mem_cons.1 hy with e2 | hy2
      · exact absurd (e2 ▸ e.symm) (no x hx2)
      · exact ih h2 hx2 hy2
/-- Whatever is found stands in front of the others. -/
theorem Dk.perm_get {nm : List UInt8} : ∀ {l : List α}, Dk.Up key l → ∀ {x : α}, Dk.get key nm l = some x → l.Perm (x :: Dk.del key nm l)
  | [], _, x, h => by cases h
  | z :: r, hu, x, h => by
    obtain ⟨h1, h2⟩ := List.pairwise_cons.1 hu
    unfold Dk.get at h
    rw [List.find?_cons] at h
    by_cases e : key z = nm
    · have e2 : (key z == nm) = true := by simpa using e
      rw [e2] at h
      injection h with h
      subst h
      have hd : Dk.del key nm (z :: r) = r := by
        unfold Dk.del
        rw [List.filter_cons, e2]
        refine List.filter_eq_self.2 fun y hy => ?_
        have hb := h1 y hy
        have : key y ≠ nm := fun e3 => by rw [e, e3, WideAt.bytes_irrefl] at hb; cases hb
        simp [this]
      rw [hd]
    · have e2 : (key z == nm) = false := by simpa using e
      rw [e2] at h
      have hd : Dk.del key nm (z :: r) = z :: Dk.del key nm r := by
        unfold Dk.del
        rw [List.filter_cons, e2]; rfl
      rw [hd]
      exact ((Dk.perm_get h2 h).cons z).trans (List.Perm.swap _ _ _)
end
/-- A file in the place of the one of its name. -/
def Dk.upd (nm : List UInt8) (f : Dk.F) (l : List Dk.F) : List Dk.F := l.map fun g => if g.name = nm then f else g
def Dk.alt (nm : List UInt8) (f : Dk.F) (v : Value) (y : Dk.X) : Dk.X := if y.nm = nm then ⟨f, y.blk, v⟩ else y
theorem Dk.upd_perm {nm : List UInt8} (f' : Dk.F) : ∀ {l : List Dk.F}, Dk.Up Dk.F.name l → ∀ {f : Dk.F}, Dk.get Dk.F.name nm l = some f → (Dk.upd nm f' l).Perm (f' :: Dk.del Dk.F.name nm l)
  | [], _, x, h => by cases h
  | z :: r, hu, x, h => by
    obtain ⟨h1, h2⟩ := List.pairwise_cons.1 hu
    unfold Dk.get at h
    rw [List.find?_cons] at h
    by_cases e : z.name = nm
    · have e2 : (z.name == nm) = true := by simpa using e
      have hne : ∀ y ∈ r, y.name ≠ nm := fun y hy e3 => by
        have hb := h1 y hy
        rw [e, e3, WideAt.bytes_irrefl] at hb
        cases hb
      have hd : Dk.del Dk.F.name nm (z :: r) = r := by
        unfold Dk.del
        rw [List.filter_cons, e2]
        exact List.filter_eq_self.2 fun y hy => by simp [hne y hy]
      have hu2 : Dk.upd nm f' (z :: r) = f' :: r := by
        unfold Dk.upd
        rw [List.map_cons, if_pos e]
        refine congrArg _ ?_
        have : ∀ y ∈ r, (if y.name = nm then f' else y) = y := fun y hy => if_neg (hne y hy)
        rw [List.map_congr_left this, List.map_id']
      rw [hd, hu2]
    · have e2 : (z.name == nm) = false := by simpa using e
      rw [e2] at h
      have hd : Dk.del Dk.F.name nm (z :: r) = z :: Dk.del Dk.F.name nm r := by
        unfold Dk.del
        rw [List.filter_cons, e2]; rfl
      have hu2 : Dk.upd nm f' (z :: r) = z :: Dk.upd nm f' r := by
        unfold Dk.upd
        rw [List.map_cons, if_neg e]
      rw [hd, hu2]
      exact ((Dk.upd_perm f' h2 h).cons z).trans (List.Perm.swap _ _ _)
theorem Dk.used_upd {nm : List UInt8} (f' : Dk.F) {l : List Dk.F} (h : Dk.Up Dk.F.name l) {f : Dk.F} (hf : Dk.get Dk.F.name nm l = some f) : Dk.used (Dk.upd nm f' l) + f.data.length = Dk.used l + f'.data.length := by
  rw [Dk.used_perm (Dk.upd_perm f' h hf), Dk.used_perm (Dk.perm_get h hf), Dk.used_cons, Dk.used_cons]
  omega
theorem Dk.upd_names {nm : List UInt8} {f : Dk.F} (hf : f.name = nm) (l : List Dk.F) : (Dk.upd nm f l).map Dk.F.name = l.map Dk.F.name := by
  unfold Dk.upd
  rw [List.map_map]
  refine List.map_congr_left fun g _ => ?_
  show (if g.name = nm then f else g).name = g.name
  split
  · rename_i e; rw [hf, e]
  · rfl
theorem Dk.upd_up {nm : List UInt8} {f : Dk.F} (hf : f.name = nm) {l : List Dk.F} (h : Dk.Up Dk.F.name l) : Dk.Up Dk.F.name (Dk.upd nm f l) := by
  unfold Dk.Up at h ⊢
  have h2 := List.pairwise_map (f := Dk.F.name) (R := fun a b => bytesBefore a b = true) (l := l)
  have h3 := h2.2 h
  rw [← Dk.upd_names hf l] at h3
  exact List.pairwise_map.1 h3
theorem Dk.mem_upd {nm : List UInt8} {f g : Dk.F} {l : List Dk.F} (h : g ∈ Dk.upd nm f l) : g = f ∨ g ∈ l := by
  unfold Dk.upd at h
  obtain ⟨y, hy, rfl⟩ := List.mem_map.1 h
  split
  · exact .inl rfl
  · exact .inr hy
theorem Dk.upd_good {m : Dk.M} (hG : Dk.Good m) {nm : List UInt8} {f : Dk.F} (hf : f.name = nm) (hn : Dk.named nm = true) (h1 : f.data.length ≤ 268435456) (h2 : f.sure ≤ f.data.length) (last : Bool) (hu : Dk.used (Dk.upd nm f m.files) ≤ m.cap) : Dk.Good (Dk.acc m last (Dk.upd nm f m.files)).1 := by
  refine Dk.acc_good hG last _ (Dk.upd_up hf hG.up) (fun g hg => ?_) (by unfold Dk.upd; rw [List.length_map]; exact hG.many) hu
  rcases Dk.mem_upd hg with rfl | hg
  · rw [hf]; exact ⟨hn, h1, h2⟩
  · exact hG.file g hg
theorem Dk.Stand.up {W : World} {d b : Nat} {m : Dk.M} {L : List Dk.X} (h : Dk.Stand W d b m L) (hu : Dk.Up Dk.F.name m.files) : Dk.Up Dk.X.nm L := by
  unfold Dk.Up at hu ⊢
  rw [← h.fs, List.pairwise_map] at hu
  exact hu
theorem Dk.pair_mem {α : Type} {R : α → α → Prop} (hs : ∀ {a b}, R a b → R b a) : ∀ {l : List α}, l.Pairwise R → ∀ {x y : α}, x ∈ l → y ∈ l → x ≠ y → R x y
  | [], _, x, _, h, _, _ => by cases h
  | z :: r, h, x, y, hx, hy, hne => by
    obtain ⟨h1, h2⟩ := List.pairwise_cons.1 h
    rcases List.mem_cons.1 hx with e1 | hx2
    · rcases List.mem_cons.1 hy with e2 | hy2
      · exact absurd (e1.trans e2.symm) hne
      · rw [e1]; exact h1 y hy2
    · rcases List.mem_cons.1 hy with e2 | hy2
      · rw [e2]; exact hs (h1 x hx2)
      · exact Dk.pair_mem hs h2 hx2 hy2 hne
/-- A file's cells written over. -/
theorem Dk.Stand.alter {W W' : World} {d b : Nat} {m m' : Dk.M} {L : List Dk.X} (h : Dk.Stand W d b m L) (hu : Dk.Up Dk.F.name m.files) {x : Dk.X} (hx : x ∈ L) (f' : Dk.F) (v' : Value) (hf : f'.name = x.nm)
    (hd : Blk W' d 44 (Dk.cells b m')) (hm : m'.files = Dk.upd x.nm f' m.files) (h1 : Blk W' x.blk 89 #[v', .int .i64 f'.sure]) (h2 : Dk.Row W' v' f'.data)
    (hv : ∀ k, v'.ownBlock = some k → x.v.ownBlock = some k ∨ W.heap.size ≤ k) (hk : ∀ k, k < W.heap.size → k ≠ d → k ≠ x.blk → x.v.ownBlock ≠ some k → W'.heap[k]? = W.heap[k]?) :
    Dk.Stand W' d b m' (L.map (Dk.alt x.nm f' v')) := by
  have hU := h.up hu
  have hlone := h.lone
  have hxx : ∀ y ∈ L, y.nm = x.nm → y = x := fun y hy e => Dk.key_inj hU hy hx e
  have hap : ∀ y ∈ L, y ≠ x → Dk.Apart y x := by
    have hp := h.apart
    intro y hy hne
    exact Dk.pair_mem (fun h => Dk.Apart.symm h) hp hy hx hne
  refine ⟨hd, ?_, ?_, ?_, ?_⟩
  · rw [List.length_map]
    have hdat : Dk.dat (L.map (Dk.alt x.nm f' v')) = Dk.dat L := by
      unfold Dk.dat
      rw [List.map_map]
      refine congrArg _ (List.map_congr_left fun y hy => ?_)
      show ((Lit.string (Dk.alt x.nm f' v' y).nm, DataW.lit (.int .i64 (Dk.alt x.nm f' v' y).blk)) : Lit × DataW Unit) = _
      unfold Dk.alt
      split
      · rename_i e
        show ((Lit.string f'.name, DataW.lit (.int .i64 y.blk)) : Lit × DataW Unit) = _
        rw [hf, e]
      · rfl
    rw [hdat]
    refine Dk.map_keep h.map (hk b h.map.lt (hlone b (.inl rfl)) (fun e => ?_) (fun e => ?_))
    · obtain ⟨es, clock, hmb, _⟩ := h.map
      have h1 := (h.file x hx).1
      unfold Blk at h1
      rw [← e, hmb] at h1; cases h1
    · obtain ⟨es, clock, hmb, _⟩ := h.map
      obtain ⟨cur, fz, h1⟩ := (h.file x hx).2.type e
      rw [hmb] at h1; cases h1
  · rw [hm, ← h.fs, List.map_map]
    unfold Dk.upd
    rw [List.map_map]
    refine List.map_congr_left fun y hy => ?_
    show (Dk.alt x.nm f' v' y).f = if y.nm = x.nm then f' else y.f
    unfold Dk.alt
    split <;> rfl
  · intro z hz
    obtain ⟨y, hy, rfl⟩ := List.mem_map.1 hz
    unfold Dk.alt
    by_cases e : y.nm = x.nm
    · rw [if_pos e]
      have := hxx y hy e
      subst this
      exact ⟨h1, h2⟩
    · rw [if_neg e]
      have hne : y ≠ x := fun e2 => e (by rw [e2])
      have ha := hap y hy hne
      obtain ⟨q1, q2⟩ := h.file y hy
      have hyr : ∀ k, y.v.ownBlock = some k → k ≠ x.blk := fun k hk2 e2 => by
        obtain ⟨cur, fz, h3⟩ := q2.type hk2
        have h4 := (h.file x hx).1
        unfold Blk at h4
        rw [e2, h4] at h3
        injection h3 with h3
        injection h3 with _ h3 _
        cases h3
      have hxr : x.v.ownBlock ≠ some y.blk := fun e2 => by
        obtain ⟨cur, fz, h3⟩ := (h.file x hx).2.type e2
        unfold Blk at q1
        rw [q1] at h3
        injection h3 with h3
        injection h3 with _ h3 _
        cases h3
      refine ⟨(hk y.blk q1.lt (hlone _ (.inr ⟨y, hy, .inl rfl⟩)) ha.1 hxr).trans q1, q2.keep fun k e2 => hk k (q2.lt k e2) (hlone k (.inr ⟨y, hy, .inr e2⟩)) (hyr k e2) (fun e3 => ha.2 k e2 e3)⟩
  · refine List.pairwise_map.2 ?_
    have hnm : L.Pairwise fun a b => a.nm ≠ b.nm := hU.imp fun {a b} hb e => by
      rw [e, WideAt.bytes_irrefl] at hb
      cases hb
    refine (List.Pairwise.and h.apart hnm).imp_of_mem fun {y z} hy hz ⟨ha, hne⟩ => ?_
    have hvk : ∀ w ∈ L, w ≠ x → ∀ k, v'.ownBlock = some k → w.v.ownBlock ≠ some k := fun w hw hwx k e1 e2 => by
      rcases hv k e1 with e3 | e3
      · exact (hap w hw hwx).2 k e2 e3
      · have := (h.file w hw).2.lt k e2
        omega
    show Dk.Apart _ _
    unfold Dk.alt
    by_cases e : y.nm = x.nm
    · have e2 : z.nm ≠ x.nm := fun e2 => hne (e.trans e2.symm)
      rw [if_pos e, if_neg e2]
      exact ⟨ha.1, fun k => hvk z hz (fun e3 => e2 (by rw [e3])) k⟩
    · rw [if_neg e]
      by_cases e2 : z.nm = x.nm
      · rw [if_pos e2]
        exact ⟨ha.1, fun k e3 e4 => hvk y hy (fun e5 => e (by rw [e5])) k e4 e3⟩
      · rw [if_neg e2]
        exact ha
theorem Dk.foot_alter {d b : Nat} {L : List Dk.X} {x : Dk.X} {n : Nat} (hx : x ∈ L) {f' : Dk.F} {v' : Value} (hv : ∀ k, v'.ownBlock = some k → x.v.ownBlock = some k ∨ n ≤ k) {k : Nat} (h : Dk.foot d b (L.map (Dk.alt x.nm f' v')) k) : Dk.foot d b L k ∨ n ≤ k := by
  rcases h with rfl | rfl | ⟨y, hy, hk⟩
  · exact .inl (.inl rfl)
  · exact .inl (.inr (.inl rfl))
  · obtain ⟨z, hz, rfl⟩ := List.mem_map.1 hy
    unfold Dk.alt at hk
    split at hk
    · rcases hk with e | e
      · exact .inl (.inr (.inr ⟨z, hz, .inl e⟩))
      · exact (hv k e).imp (fun e => .inr (.inr ⟨x, hx, .inr e⟩)) id
    · exact .inl (.inr (.inr ⟨z, hz, hk⟩))
end Go.Proofs.YtifkhjihgnnpfaaGreatDoor
/- Disks: Append. Conditions: each theorem's own hypotheses. -/
namespace Go.Proofs.YtifkhjihgnnpfaaGreatDoor
open Go.RowKit Go.Maps Go.Sort
set_option linter.unusedVariables false

theorem Dk.Moved.drew {W W' : World} {d : Nat} {F : Nat → Prop} {m' : Dk.M} (h : Dk.Moved W W' d F m') : Dk.Moved W W'.drew d F m' := by
  obtain ⟨F', hA, ho, hf⟩ := h
  exact ⟨F', hA.keep fun _ _ => rfl, ho.drew, hf⟩
theorem Dk.Row.slice {W : World} {v : Value} {l : List UInt8} (h : Dk.Row W v l) : ∃ a c, v = .slice a l.length c := by
  rcases h.form with ⟨h1, h2⟩ | ⟨g, cap, h1, _⟩
  · exact ⟨none, 0, by rw [h1, h2]; rfl⟩
  · exact ⟨_, _, h1⟩
theorem Dk.Row.slice3 {W : World} {v : Value} {l : List UInt8} (h : Dk.Row W v l) : ∃ a n c, v = .slice a n c := by
  obtain ⟨a, c, h⟩ := h.slice
  exact ⟨_, _, _, h⟩
/-- Loads of cells that the same region stores into, under a name. -/
def Dk.o7 : Op := Op.load 84 (Operand.tmp 6)
attribute [go_sem] Dk.o7
def Dk.o15 : Op := Op.load 3 (Operand.tmp 14)
attribute [go_sem] Dk.o15
/-- A disk's boxes. -/
theorem Dk.Stand.box {W W1 : World} {d b : Nat} {m : Dk.M} {L : List Dk.X} (h : Dk.Stand W d b m L) (ho : Dk.Only (fun k => k = d) W W1) {g : Nat} {t : TypeId} {v : Value} (hb : Blk W g t #[v]) (h1 : t ≠ 44) (h2 : t ≠ 89) (h3 : t ≠ 5) : Blk W1 g t #[v] ∧ ¬ Dk.foot d b L g ∧ g < W1.heap.size := by
  have hn := h.off hb h1 h2 h3
  exact ⟨(ho.block g hb.lt (fun e => hn (.inl e))).trans hb, hn, Nat.lt_of_lt_of_le hb.lt ho.size⟩
def Dk.grow (f : Dk.F) (s : List UInt8) : Dk.F := ⟨f.name, f.data ++ s, f.sure⟩
set_option maxRecDepth 100000 in
set_option maxHeartbeats 2000000 in
/-- What Append's closure does. -/
theorem Dk.append1 {W : World} {d b : Nat} {m : Dk.M} {L : List Dk.X} (h : Dk.Stand W d b m L) (hG : Dk.Good m) {x : Dk.X} (hx : x ∈ L) {bf bs bd : Nat} (s : ByteArray) (hs : x.f.data.length + s.size ≤ 140737488355328)
    (h1 : Blk W bf 87 #[.pointer (some ⟨x.blk, 0, none⟩)]) (h2 : Blk W bs 9 #[.string s]) (h3 : Blk W bd 24 #[.pointer (some ⟨d, 0, none⟩)]) :
    Dk.Doing W d b m L 68 #[.pointer (some ⟨bf, 0, none⟩), .pointer (some ⟨bs, 0, none⟩), .pointer (some ⟨bd, 0, none⟩)] (Dk.upd x.nm (Dk.grow x.f s.data.toList) m.files) := by
  intro W1 m1 hS hf hcap ho
  obtain ⟨k1, nf1, l1⟩ := h.box ho h1 (by decide) (by decide) (by decide)
  obtain ⟨k2, nf2, l2⟩ := h.box ho h2 (by decide) (by decide) (by decide)
  obtain ⟨k3, nf3, l3⟩ := h.box ho h3 (by decide) (by decide) (by decide)
  obtain ⟨q0, q1⟩ := hS.two hx
  have hR := (hS.file x hx).2
  obtain ⟨a, c, hxv⟩ := hR.slice
  have fx : Dk.foot d b L x.blk := .inr (.inr ⟨x, hx, .inl rfl⟩)
  have fo : ∀ k, x.v.ownBlock = some k → Dk.foot d b L k := fun k e => .inr (.inr ⟨x, hx, .inr e⟩)
  have hxd := hS.lone x.blk (.inr ⟨x, hx, .inl rfl⟩)
  have hod : ∀ k, x.v.ownBlock = some k → k ≠ d := fun k e => hS.lone k (.inr ⟨x, hx, .inr e⟩)
  have hoxb : ∀ k, x.v.ownBlock = some k → k ≠ x.blk := fun k e e2 => by
    obtain ⟨cur, fz, h3⟩ := hR.type e
    have h4 := (hS.file x hx).1
    unfold Blk at h4
    rw [e2, h4] at h3
    injection h3 with h3
    injection h3 with _ h3 _
    cases h3
  have p1 := k1.cell 0
  have p2 := k2.cell 0
  have p3 := k3.cell 0
  simp only [List.getElem?_toArray, List.getElem?_cons_zero] at p1 p2 p3
  have hxl := (hS.file x hx).1.lt
  have hdl := hS.disk.lt
  have hfz := (hS.file x hx).1.frozen 0
  have hu0 : Dk.get Dk.F.name x.nm m.files = some x.f := by
    have hg := Dk.get_at (h.up hG.up) (List.mem_iff_getElem?.1 hx).choose_spec
    have := h.get x.nm
    rw [hg] at this
    exact this.symm
  have huu := Dk.used_upd (Dk.grow x.f s.data.toList) hG.up hu0
  have hgl : (Dk.grow x.f s.data.toList).data.length = x.f.data.length + s.size := by unfold Dk.grow; rw [List.length_append, ← Tx.size]
  rw [hgl] at huu
  have hum := hG.used
  have hcm := hG.cap
  obtain ⟨u, hu⟩ : ∃ u, Dk.used (Dk.upd x.nm (Dk.grow x.f s.data.toList) m.files) = u := ⟨_, rfl⟩
  obtain ⟨u0, hu1⟩ : ∃ u0, Dk.used m.files = u0 := ⟨_, rfl⟩
  rw [hu, hu1] at huu
  rw [hu1] at hum
  have hwr : IntKind.i64.wrap ((u0 : Int) + (s.size : Int)) = (u : Int) := (IntWalk.i64_in _ (by omega)).trans (by omega)
  have c2 := hS.eight.2.2.1
  rw [hf, hu1] at c2
  rw [hxv] at q0
  have S0 : W1.frozen? ⟨x.blk, 0, none⟩ = false ∧ W1.cell? ⟨bf, 0, none⟩ = some (.pointer (some ⟨x.blk, 0, none⟩)) ∧ W1.cell? ⟨bs, 0, none⟩ = some (.string s) := ⟨hfz, p1, p2⟩
  have hfin : ∀ (A5 : Option Addr) (n5 c5 : Nat) (w5 : World), Dk.Row w5 (.slice A5 n5 c5) (x.f.data ++ s.data.toList) → W1.drew.grownBy w5 x.v.ownBlock → (∀ k, (Value.slice A5 n5 c5).ownBlock = some k → x.v.ownBlock = some k ∨ W1.drew.heap.size ≤ k) →
      ∀ W6 : World, W6 = w5.setCell ⟨x.blk, 0, none⟩ (.slice A5 n5 c5) → W6.cell? ⟨bs, 0, none⟩ = some (.string s) ∧ W6.cell? ⟨bd, 0, none⟩ = some (.pointer (some ⟨d, 0, none⟩)) ∧ W6.frozen? ⟨d, 2, none⟩ = false ∧ W6.cell? ⟨d, 2, none⟩ = some (.int .i64 (u0 : Int)) ∧
        Dk.Moved W1 (W6.setCell ⟨d, 2, none⟩ (.int .i64 (u : Int))) d (Dk.foot d b L) { m1 with files := Dk.upd x.nm (Dk.grow x.f s.data.toList) m.files } := by
    intro A5 n5 c5 w5 hr5 hg5 hv5 W6 hW6
    have hsz : W1.heap.size ≤ w5.heap.size := hg5.size
    have hold : ∀ k, k < W1.heap.size → k ≠ x.blk → x.v.ownBlock ≠ some k → W6.heap[k]? = W1.heap[k]? := fun k hk h1 h2 => by
      rw [hW6]
      exact (Below.heap_setCell w5 ⟨x.blk, 0, none⟩ _ k h1).trans (hg5.block k hk (fun e => h2 e.symm))
    have hob : ∀ {g : Nat}, ¬ Dk.foot d b L g → g < W1.heap.size → W6.heap[g]? = W1.heap[g]? := fun {g} hn hl => hold g hl (fun e => hn (e ▸ fx)) (fun e => hn (fo g e))
    have hd6 : W6.heap[d]? = W1.heap[d]? := hold d hdl (fun e => hxd e.symm) (fun e => hod d e rfl)
    refine ⟨(World.cell?_of_block (hob nf2 l2)).trans p2, (World.cell?_of_block (hob nf3 l3)).trans p3, (World.frozen?_of_block hd6).trans (hS.disk.frozen 2), (World.cell?_of_block hd6).trans c2, ?_⟩
    have hD6 : Blk W6 d 44 (Dk.cells b m1) := hd6.trans hS.disk
    have hv' : ∀ k, (Value.slice A5 n5 c5).ownBlock = some k → x.v.ownBlock = some k ∨ W1.heap.size ≤ k := hv5
    have hne5 : ∀ k, (Value.slice A5 n5 c5).ownBlock = some k → k ≠ x.blk ∧ k ≠ d := fun k e => by
      rcases hv' k e with e2 | e2
      · exact ⟨hoxb k e2, hod k e2⟩
      · exact ⟨by omega, by omega⟩
    refine ⟨_, ⟨b, L.map (Dk.alt x.nm (Dk.grow x.f s.data.toList) (.slice A5 n5 c5)), ?_, rfl⟩, ⟨?_, ?_, ?_, ?_, fun k hk hn => ?_⟩, fun k hk => Dk.foot_alter hx hv' hk⟩
    · refine hS.alter (by rw [hf]; exact hG.up) hx _ _ rfl ?_ (by rw [hf]) ?_ ?_ hv' ?_
      · have := hD6.set_ 2 (.int .i64 (u : Int))
        have e : (Dk.cells b m1).setIfInBounds 2 (.int .i64 (u : Int)) = Dk.cells b { m1 with files := Dk.upd x.nm (Dk.grow x.f s.data.toList) m.files } := by
          unfold Dk.cells
          rw [hu]
          rfl
        rw [← e]
        exact this
      · have hb5 : Blk w5 x.blk 89 #[x.v, .int .i64 x.f.sure] := (hg5.block x.blk hxl (fun e => hoxb _ e.symm rfl)).trans (hS.file x hx).1
        have := (hb5.set_ 0 (.slice A5 n5 c5)).far (p := ⟨d, 2, none⟩) hxd (.int .i64 (u : Int))
        rw [hW6]
        exact this
      · refine Dk.Row.keep (W := w5) hr5 fun k e => ?_
        rw [hW6]
        exact (Below.heap_setCell _ ⟨d, 2, none⟩ _ k (hne5 k e).2).trans (Below.heap_setCell _ ⟨x.blk, 0, none⟩ _ k (hne5 k e).1)
      · exact fun k hk h1 h2 h3 => (Below.heap_setCell W6 ⟨d, 2, none⟩ _ k h1).trans (hold k hk h2 h3)
    · rw [hW6]; exact hg5.os
    · rw [hW6]; exact hg5.tape
    · rw [hW6]; exact hg5.output
    · rw [hW6]
      simp only [World.setCell, Array.size_modify]
      exact hsz
    · exact (Below.heap_setCell W6 ⟨d, 2, none⟩ _ k (fun e => hn (.inl e))).trans (hob hn hk)
  have SG : ∀ (v5 : Value) (w5 : World), W1.drew.grownBy w5 x.v.ownBlock → w5.frozen? ⟨x.blk, 0, none⟩ = false ∧ w5.cell? ⟨bf, 0, none⟩ = some (.pointer (some ⟨x.blk, 0, none⟩)) ∧ w5.cell? ⟨bs, 0, none⟩ = some (.string s) := fun v5 w5 hg =>
    ⟨(World.frozen?_of_block (hg.block x.blk hxl (fun e => hoxb _ e.symm rfl))).trans hfz, (World.cell?_of_block (hg.block bf l1 (fun e => nf1 (fo bf e.symm)))).trans p1, (World.cell?_of_block (hg.block bs l2 (fun e => nf2 (fo bs e.symm)))).trans p2⟩
  have hbsd : bs ≠ d := fun e => nf2 (.inl e)
  have hbdd : bd ≠ d := fun e => nf3 (.inl e)
  have hbfx : bf ≠ x.blk := fun e => nf1 (e ▸ fx)
  have hbsx : bs ≠ x.blk := fun e => nf2 (e ▸ fx)
  have hox5 : some x.blk ≠ x.v.ownBlock := fun e => hoxb _ e.symm rfl
  rw [hxv] at hR hfin SG hox5
  clear hf hcap ho huu hum hcm hu hu1 hu0 hgl h hG k1 k2 k3 h1 h2 h3
  go_enter Tryz.func68, Tryz.ntmps68
  go_wp2_with fail
  rw [show Op.load 84 (Operand.tmp 6) = Dk.o7 from rfl]
  go_region_held_law (fun W' => W'.frozen? ⟨x.blk, 0, none⟩ = false ∧ W'.cell? ⟨bf, 0, none⟩ = some (.pointer (some ⟨x.blk, 0, none⟩)) ∧ W'.cell? ⟨bs, 0, none⟩ = some (.string s))
    (first
      | with_reducible assumption
      | exact S0
      | exact S5
      | exact S6)
    (first
      | (refine Dk.step_append rfl (.tmp 7) (.tmp 8) 84 9 rfl (.slice a x.f.data.length c) (.string s) (by simp [Act.eval]) (by simp [Act.eval]) _ (fun ty => Dk.Row.append W1.drew ty hR s hs) ?_; intro v5 w5 ho5; obtain ⟨ho5, hg5, hv5⟩ := ho5
         obtain ⟨A5, n5, c5, rfl⟩ := ho5.slice3
         have S5 := SG (.slice none 0 0) w5 hg5
         have z5 : w5.cell? ⟨x.blk, 0, none⟩ = some (.slice a x.f.data.length c) := (World.cell?_of_block (hg5.block x.blk hxl hox5)).trans q0
         have S6 : (w5.setCell ⟨x.blk, 0, none⟩ (.slice A5 n5 c5)).frozen? ⟨x.blk, 0, none⟩ = false ∧ (w5.setCell ⟨x.blk, 0, none⟩ (.slice A5 n5 c5)).cell? ⟨bf, 0, none⟩ = some (.pointer (some ⟨x.blk, 0, none⟩)) ∧ (w5.setCell ⟨x.blk, 0, none⟩ (.slice A5 n5 c5)).cell? ⟨bs, 0, none⟩ = some (.string s) :=
           ⟨by rw [World.frozen?_setCell]; exact S5.1, (World.cell?_of_block (Below.heap_setCell _ ⟨x.blk, 0, none⟩ _ bf hbfx)).trans S5.2.1, (World.cell?_of_block (Below.heap_setCell _ ⟨x.blk, 0, none⟩ _ bs hbsx)).trans S5.2.2⟩))
  all_goals
    obtain ⟨W6, hW6⟩ : ∃ W6, w5.setCell ⟨x.blk, 0, none⟩ (.slice A5 n5 c5) = W6 := ⟨_, rfl⟩
    obtain ⟨t1, t2, t3, t4, hM⟩ := hfin _ _ _ w5 ho5 hg5 hv5 W6 hW6.symm
    have T0 : W6.frozen? ⟨d, 2, none⟩ = false ∧ W6.cell? ⟨bs, 0, none⟩ = some (.string s) ∧ W6.cell? ⟨bd, 0, none⟩ = some (.pointer (some ⟨d, 0, none⟩)) := ⟨t3, t1, t2⟩
    have T9 : ∀ v : Value, (W6.setCell ⟨d, 2, none⟩ v).frozen? ⟨d, 2, none⟩ = false ∧ (W6.setCell ⟨d, 2, none⟩ v).cell? ⟨bs, 0, none⟩ = some (.string s) ∧ (W6.setCell ⟨d, 2, none⟩ v).cell? ⟨bd, 0, none⟩ = some (.pointer (some ⟨d, 0, none⟩)) := fun v =>
      ⟨by rw [World.frozen?_setCell]; exact t3, (World.cell?_of_block (Below.heap_setCell W6 ⟨d, 2, none⟩ v bs hbsd)).trans t1, (World.cell?_of_block (Below.heap_setCell W6 ⟨d, 2, none⟩ v bd hbdd)).trans t2⟩
    rw [hW6]
    clear hfin SG S0 S5 S6 z5 hW6 q0 q1 c2 p1 p2 p3
    go_wp2_with fail
    rw [show Op.load 3 (Operand.tmp 14) = Dk.o15 from rfl]
    go_region_held_law (fun W' => W'.frozen? ⟨d, 2, none⟩ = false ∧ W'.cell? ⟨bs, 0, none⟩ = some (.string s) ∧ W'.cell? ⟨bd, 0, none⟩ = some (.pointer (some ⟨d, 0, none⟩)))
      (first
        | with_reducible assumption
        | exact T0
        | exact T9 _)
      (fail)
    all_goals (try go_wp2_with fail)
    all_goals
      go_end0
      exact ⟨rfl, hM.drew⟩
end Go.Proofs.YtifkhjihgnnpfaaGreatDoor
