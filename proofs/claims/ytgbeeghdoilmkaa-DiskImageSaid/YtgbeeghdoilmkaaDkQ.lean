/- Disks: Create. Conditions: each theorem's own hypotheses. -/
import Derived.Test.YtgbeeghdoilmkaaDkP
import Derived.Test.YtgbeeghdoilmkaaDkO
namespace Go.Proofs.Ytgbeeghdoilmkaa
open Go.RowKit Go.Maps Go.Sort
set_option linter.unusedVariables false

/-- A box of another kind is none of a disk's blocks. -/
theorem Dk.Stand.off {W : World} {d b : Nat} {m : Dk.M} {L : List Dk.X} (h : Dk.Stand W d b m L) {g : Nat} {t : TypeId} {cs : Array Value} (hb : Blk W g t cs) (h1 : t ≠ 77) (h2 : t ≠ 83) (h3 : t ≠ 5) : ¬ Dk.foot d b L g := by
  unfold Blk at hb
  rintro (rfl | rfl | ⟨x, hx, e | e⟩)
  · have h := h.disk
    unfold Blk at h
    rw [hb] at h
    injection h with h
    injection h with _ h _
    exact h1 h
  · obtain ⟨es, clock, hm, _⟩ := h.map
    rw [hb] at hm; cases hm
  · have h := (h.file x hx).1
    unfold Blk at h
    rw [e, hb] at h
    injection h with h
    injection h with _ h _
    exact h2 h
  · obtain ⟨cur, fz, h⟩ := (h.file x hx).2.type e
    rw [hb] at h
    injection h with h
    injection h with _ h _
    exact h3 h
theorem Dk.used_perm {a b : List Dk.F} (h : a.Perm b) : Dk.used a = Dk.used b := by
  unfold Dk.used
  exact (h.map _).sum_nat
theorem Dk.used_ins (f : Dk.F) (l : List Dk.F) : Dk.used (Dk.ins Dk.F.name f l) = f.data.length + Dk.used l := by
  rw [Dk.used_perm (Dk.perm_ins f l), Dk.used_cons]
/-- An empty file. -/
def Dk.empty (nm : List UInt8) : Dk.F := ⟨nm, [], 0⟩
set_option maxRecDepth 100000 in
set_option maxHeartbeats 2000000 in
/-- What Create's closure does. -/
theorem Dk.create1 {W : World} {d b : Nat} {m : Dk.M} {L : List Dk.X} (h : Dk.Stand W d b m L) (hG : Dk.Good m) {bd bn : Nat} (s : ByteArray) (hs : s.size ≤ maxLen)
    (h1 : Blk W bd 22 #[.pointer (some ⟨d, 0, none⟩)]) (h2 : Blk W bn 9 #[.string s]) (hn : Dk.get Dk.F.name s.data.toList m.files = none) :
    Dk.Doing W d b m L 56 #[.pointer (some ⟨bd, 0, none⟩), .pointer (some ⟨bn, 0, none⟩)] (Dk.ins Dk.F.name (Dk.empty s.data.toList) m.files) := by
  intro W1 m1 hS hf hcap ho
  have hbd : bd ≠ d := fun e => h.off h1 (by decide) (by decide) (by decide) (.inl e)
  have hbn : bn ≠ d := fun e => h.off h2 (by decide) (by decide) (by decide) (.inl e)
  have k1 : Blk W1 bd 22 #[.pointer (some ⟨d, 0, none⟩)] := (ho.block bd h1.lt hbd).trans h1
  have k2 : Blk W1 bn 9 #[.string s] := (ho.block bn h2.lt hbn).trans h2
  have nb1 := hS.off k1 (by decide) (by decide) (by decide)
  have nb2 := hS.off k2 (by decide) (by decide) (by decide)
  obtain ⟨c0, _⟩ := hS.eight
  have p1 := k1.cell 0
  have p2 := k2.cell 0
  simp only [List.getElem?_toArray, List.getElem?_cons_zero] at p1 p2
  have hd0 := hS.disk.lt
  have hb0 := hS.map.lt
  have hkey : keyOf Try.prog 9 (.string s) = some (.string s.data.toList) := by
    simp [keyOf, Try.underlying9, mapKey, hs]
  have hLl : L.length < maxLen := by
    have h1 := congrArg List.length hS.fs
    rw [List.length_map, hf] at h1
    have := hG.many
    unfold maxLen; omega
  obtain ⟨w', hrun, hown, hgr⟩ := (Dk.map_keep hS.map (Below.heap_alloc W1.drew (.cells (Dk.fcells (.slice none 0 0) 0) 83) b hb0) : (W1.drew.alloc (.cells (Dk.fcells (.slice none 0 0) 0) 83)).ownsMap Try.prog 9 Dk.R b L.length (Dk.dat L)).update Dk.strKeyed Try.underlying75 hLl hkey (Dk.R_ptr W1.heap.size)
  have hsz : W1.heap.size + 1 ≤ w'.heap.size := by
    have := hgr.size
    rw [World.size_alloc] at this
    exact this
  have hw' : ∀ k, k < W1.heap.size → k ≠ b → w'.heap[k]? = W1.heap[k]? := fun k hk hkb =>
    (hgr.block k (by rw [World.size_alloc]; exact Nat.lt_succ_of_lt hk) (fun e => hkb (Option.some.inj e))).trans (Below.heap_alloc W1.drew _ k hk)
  have hnew : Blk w' W1.heap.size 83 (Dk.fcells (.slice none 0 0) 0) :=
    (hgr.block W1.heap.size (by rw [World.size_alloc]; exact Nat.lt_succ_self _) (fun e => by have := Option.some.inj e; omega)).trans (Blk.new W1.drew _ _)
  have hrun2 : Sem.run Try.prog (Instr.mapUpdate 75 (.map (some b)) (.string s) (.pointer (some ⟨W1.heap.size, 0, none⟩))) ((W1.alloc (.cells #[.slice none 0 0, .int .i64 0] 83)).drew) = .ok () w' := hrun
  have hrun3 : Sem.run Try.prog (Instr.mapUpdate 75 (.map (some b)) (.string s) (.pointer (some ⟨W1.heap.size, 0, none⟩))) (W1.drew.alloc (.cells #[.slice none 0 0, .int .i64 0] 83)) = .ok () w' := hrun
  have hfin : Dk.Moved W1 w' d (Dk.foot d b L) { m1 with files := Dk.ins Dk.F.name (Dk.empty s.data.toList) m.files } := by
    refine ⟨_, ⟨b, Dk.ins Dk.X.nm ⟨Dk.empty s.data.toList, W1.heap.size, .slice none 0 0⟩ L, ?_, rfl⟩, ⟨hgr.os, hgr.tape, hgr.output, by omega, fun k hk hnf => hw' k hk (fun e => hnf (.inr (.inl e)))⟩, ?_⟩
    · refine hS.insert _ ?_ hown ?_ ?_ hnew (.inl ⟨rfl, rfl⟩) (Nat.le_refl _) (fun k hk => by cases hk) (fun k h1 _ h3 => hw' k h1 h3)
      · have h3 : Blk w' d 77 (Dk.cells b m1) := (hw' d hd0 (fun e => hS.lone b (.inl rfl) e.symm)).trans hS.disk
        have h4 : Dk.cells b m1 = Dk.cells b { m1 with files := Dk.ins Dk.F.name (Dk.empty s.data.toList) m.files } := by
          unfold Dk.cells
          rw [hf, Dk.used_ins]
          show _ = #[_, _, Value.int .i64 ((0 + Dk.used m.files : Nat) : Int), _, _, _, _, _]
          rw [Nat.zero_add]
        rw [← h4]
        exact h3
      · have hg := hS.get s.data.toList
        rw [hf, hn] at hg
        cases hx : Dk.get Dk.X.nm s.data.toList L with
        | none => exact hx
        | some x => rw [hx] at hg; cases hg
      · show Dk.ins _ _ _ = _
        rw [hf]
    · rintro k (rfl | rfl | ⟨x, hx, hx2⟩)
      · exact .inl (.inl rfl)
      · exact .inl (.inr (.inl rfl))
      · rcases (Dk.mem_ins Dk.X.nm).1 hx with rfl | hx
        · rcases hx2 with e | e
          · exact .inr (Nat.le_of_eq e)
          · cases e
        · exact .inl (.inr (.inr ⟨x, hx, hx2⟩))
  have S0 : W1.cell? ⟨bd, 0, none⟩ = some (.pointer (some ⟨d, 0, none⟩)) ∧ W1.cell? ⟨bn, 0, none⟩ = some (.string s) ∧ W1.cell? ⟨d, 0, none⟩ = some (.map (some b)) := ⟨p1, p2, c0⟩
  have hbd0 := k1.lt
  have hbn0 := k2.lt
  have SA : ∀ o : Obj, (W1.drew.alloc o).cell? ⟨bd, 0, none⟩ = some (.pointer (some ⟨d, 0, none⟩)) ∧ (W1.drew.alloc o).cell? ⟨bn, 0, none⟩ = some (.string s) ∧ (W1.drew.alloc o).cell? ⟨d, 0, none⟩ = some (.map (some b)) := fun o =>
    ⟨(World.cell?_of_block (Below.heap_alloc W1.drew o bd hbd0)).trans p1, (World.cell?_of_block (Below.heap_alloc W1.drew o bn hbn0)).trans p2, (World.cell?_of_block (Below.heap_alloc W1.drew o d hd0)).trans c0⟩
  have S9 : w'.cell? ⟨bd, 0, none⟩ = some (.pointer (some ⟨d, 0, none⟩)) ∧ w'.cell? ⟨bn, 0, none⟩ = some (.string s) ∧ w'.cell? ⟨d, 0, none⟩ = some (.map (some b)) :=
    ⟨(World.cell?_of_block (hw' bd hbd0 (fun e => nb1 (.inr (.inl e))))).trans p1, (World.cell?_of_block (hw' bn hbn0 (fun e => nb2 (.inr (.inl e))))).trans p2, (World.cell?_of_block (hw' d hd0 (fun e => hS.lone b (.inl rfl) e.symm))).trans c0⟩
  clear hrun hf hcap ho hkey hown hgr hw' hnew h hG hn hLl
  go_enter Try.func56, Try.ntmps56
  go_region_held_law (fun W' => W'.cell? ⟨bd, 0, none⟩ = some (.pointer (some ⟨d, 0, none⟩)) ∧ W'.cell? ⟨bn, 0, none⟩ = some (.string s) ∧ W'.cell? ⟨d, 0, none⟩ = some (.map (some b)))
    (first
      | with_reducible assumption
      | exact S0
      | exact SA _
      | exact S9)
    (fail)
  all_goals (try go_wp2_with fail)
  all_goals
    go_end0
    exact ⟨rfl, hfin⟩
theorem Dk.acc_done (m : Dk.M) (last : Bool) (fs : List Dk.F) : (Dk.acc m last fs).1.done = m.done := by
  unfold Dk.acc
  split
  · rfl
  · split <;> rfl
theorem Dk.Moved.from {W X W' : World} {d : Nat} {F : Nat → Prop} {m' : Dk.M} (hB : Below W.heap.size W X) (h : Dk.Moved X W' d F m') : Dk.Moved W W' d F m' := by
  obtain ⟨F', hA, ho, hf⟩ := h
  exact ⟨F', hA, (Dk.Only.of hB).trans ho, fun k hk => (hf k hk).imp id fun h => Nat.le_trans hB.size h⟩
theorem Dk.Moved.same {W W' : World} {d : Nat} {m : Dk.M} {F : Nat → Prop} (h : Dk.At W d m F) (hB : Below W.heap.size W W') : Dk.Moved W W' d F m :=
  ⟨F, h.later hB (Nat.le_refl _), Dk.Only.of hB, fun k hk => .inl hk⟩
/-- What Create does and answers. -/
def Dk.create (m : Dk.M) (nm : List UInt8) : Dk.M × Int :=
  if Dk.code m nm = 0 then (m, 41)
  else if Dk.code m nm ≠ 42 then (m, Dk.code m nm)
  else if 4096 ≤ m.files.length then (m, 43)
  else Dk.acc m m.done (Dk.ins Dk.F.name (Dk.empty nm) m.files)
theorem Dk.code_range (m : Dk.M) (nm : List UInt8) : Dk.code m nm = 45 ∨ Dk.code m nm = 40 ∨ Dk.code m nm = 42 ∨ Dk.code m nm = 0 := by
  unfold Dk.code
  split
  · exact .inl rfl
  · split
    · split
      · exact .inr (.inr (.inr rfl))
      · exact .inr (.inr (.inl rfl))
    · exact .inr (.inl rfl)
theorem Dk.code_none {m : Dk.M} {nm : List UInt8} (h : Dk.code m nm = 42) : Dk.named nm = true ∧ Dk.get Dk.F.name nm m.files = none ∧ m.off = false := by
  unfold Dk.code at h
  cases ho : m.off with
  | true => rw [ho, if_pos rfl] at h; cases h
  | false =>
    rw [ho, if_neg (by decide)] at h
    cases hn : Dk.named nm with
    | false => rw [hn, if_neg (by decide)] at h; cases h
    | true =>
      rw [hn, if_pos rfl] at h
      cases hg : Dk.get Dk.F.name nm m.files with
      | none => exact ⟨rfl, rfl, rfl⟩
      | some f => rw [hg] at h; cases h
set_option maxRecDepth 100000 in
set_option maxHeartbeats 4000000 in
theorem Dk.create_any {W : World} {d : Nat} {m : Dk.M} {F : Nat → Prop} (h : Dk.At W d m F) (hG : Dk.Good m) (s : ByteArray) (hs : s.size ≤ maxLen) :
    Calls Try.prog 23 #[.pointer (some ⟨d, 0, none⟩), .string s] W fun e W' => e = .returned (.int .i64 (Dk.create m s.data.toList).2) ∧ Dk.Moved W W' d F (Dk.create m s.data.toList).1 := by
  obtain ⟨b, L, hS0, rfl⟩ := h
  have hB0 : ∀ o1 o2 : Obj, Below W.heap.size W ((W.alloc o1).alloc o2) := fun o1 o2 => ((Below.refl _ _).alloc (Nat.le_refl _) o1).alloc (by simp) o2
  obtain ⟨Z, hZ0⟩ : ∃ Z, Dk.create m s.data.toList = Z := ⟨_, rfl⟩
  rw [hZ0]
  have HZ := Lib.hid hZ0
  clear hZ0
  go_enter Try.func23, Try.ntmps23
  go_upto_region 1 with fail
  obtain ⟨X, hX⟩ : ∃ X, (W.alloc (.cells #[.pointer (some ⟨d, 0, none⟩)] 22)).alloc (.cells #[.string s] 9) = X := ⟨_, rfl⟩
  have hBX : Below W.heap.size W X := by rw [← hX]; exact hB0 _ _
  have k1 : Blk X W.heap.size 22 #[.pointer (some ⟨d, 0, none⟩)] := by rw [← hX]; exact (Blk.new W _ _).alloc _
  have k2 : Blk X (W.heap.size + 1) 9 #[.string s] := by
    rw [← hX]
    have := Blk.new (W.alloc (.cells #[.pointer (some ⟨d, 0, none⟩)] 22)) 9 #[.string s]
    rw [World.size_alloc] at this
    exact this
  rw [hX]
  obtain ⟨bd, hbd⟩ : ∃ bd, W.heap.size = bd := ⟨_, rfl⟩
  obtain ⟨bn, hbn⟩ : ∃ bn, W.heap.size + 1 = bn := ⟨_, rfl⟩
  rw [hbn] at k2 ⊢
  rw [hbd] at k1 ⊢
  have hS := hS0.later hBX (Nat.le_refl _)
  have p1 := k1.cell 0
  have p2 := k2.cell 0
  simp only [List.getElem?_toArray, List.getElem?_cons_zero] at p1 p2
  have hlook := Dk.look_any hS s (by unfold maxLen at hs; omega)
  obtain ⟨pv, hpv⟩ : ∃ pv, Dk.ptr (Dk.found m L s.data.toList) = pv := ⟨_, rfl⟩
  rw [hpv] at hlook
  have hsame : Dk.Moved W X d (Dk.foot d b L) m := Dk.Moved.same ⟨b, L, hS0, rfl⟩ hBX
  have hZ := HZ.out
  unfold Dk.create at hZ
  have HX := Lib.hid hX
  have HB := Lib.hid (And.intro hbd hbn)
  clear hpv hX hbd hbn hB0
  rcases Dk.code_range m s.data.toList with hc | hc | hc | hc
  · rw [hc, if_neg (by decide), if_pos (by decide)] at hZ
    subst hZ
    rw [hc] at hlook
    clear hc HZ
    go_wp2_with (go_at_call 47; refine hlook.mono ?_; rintro e w2 ⟨rfl, rfl⟩)
    go_ret
    exact ⟨rfl, hsame⟩
  · rw [hc, if_neg (by decide), if_pos (by decide)] at hZ
    subst hZ
    rw [hc] at hlook
    clear hc HZ
    go_wp2_with (go_at_call 47; refine hlook.mono ?_; rintro e w2 ⟨rfl, rfl⟩)
    go_ret
    exact ⟨rfl, hsame⟩
  · rw [hc, if_neg (by decide), if_neg (by decide)] at hZ
    rw [hc] at hlook
    obtain ⟨hn1, hn2, hn3⟩ := Dk.code_none hc
    obtain ⟨c0, c1, c2, c3, c4, c5, c6, c7⟩ := hS.eight
    have hlen := hS.run_len
    by_cases hm : 4096 ≤ m.files.length
    · rw [if_pos hm] at hZ
      subst hZ
      have hq : decide (4096 ≤ m.files.length) = true := decide_eq_true hm
      have hq2 : decide ((4096 : Int) ≤ (m.files.length : Int)) = true := decide_eq_true (by omega)
      clear hc HZ hm
      go_wp2_with (go_at_call 47; refine hlook.mono ?_; rintro e w2 ⟨rfl, rfl⟩)
      go_ret
      exact ⟨rfl, hsame⟩
    · rw [if_neg hm] at hZ
      have hq : decide (4096 ≤ m.files.length) = false := decide_eq_false hm
      have hq2 : decide ((4096 : Int) ≤ (m.files.length : Int)) = false := decide_eq_false (by omega)
      have hSd : Dk.Stand X.drew d b m L := hS.keep fun _ _ => rfl
      have hdo := Dk.create1 hSd hG (bd := bd) (bn := bn) s hs k1 k2 hn2
      have hacc := Dk.accepted_any hSd hG.left m.done 56 #[.pointer (some ⟨bd, 0, none⟩), .pointer (some ⟨bn, 0, none⟩)] _ hdo (Dk.run_enter Try.func56 (by kernel_rfl) rfl)
      have hdn := Dk.acc_done m m.done (Dk.ins Dk.F.name (Dk.empty s.data.toList) m.files)
      rw [hZ] at hacc hdn
      have nb1 := hS.off k1 (by decide) (by decide) (by decide)
      have hbd0 := k1.lt
      have S0 : X.cell? ⟨bd, 0, none⟩ = some (.pointer (some ⟨d, 0, none⟩)) ∧ X.cell? ⟨d, 7, none⟩ = some (.bool m.done) := ⟨p1, c7⟩
      clear hc HZ hm hZ hdo hn1 hn2 hn3 c1 c2 c3 c4 c5 c6
      go_upto_region 8 with (go_at_call 47; refine hlook.mono ?_; rintro e w2 ⟨rfl, rfl⟩)
      go_region_held_law (fun W' => W'.cell? ⟨bd, 0, none⟩ = some (.pointer (some ⟨d, 0, none⟩)) ∧ W'.cell? ⟨d, 7, none⟩ = some (.bool m.done))
        (first
          | with_reducible assumption
          | exact S0
          | exact S9)
        (first
          | (go_at_call 55; refine hacc.mono ?_; rintro e w2 ⟨rfl, hM⟩
             have S9 : w2.cell? ⟨bd, 0, none⟩ = some (.pointer (some ⟨d, 0, none⟩)) ∧ w2.cell? ⟨d, 7, none⟩ = some (.bool m.done) := by
               obtain ⟨F', ⟨b', L', h3, rfl⟩, o3, f3⟩ := hM
               refine ⟨(World.cell?_of_block (o3.block bd hbd0 nb1)).trans p1, ?_⟩
               rw [← hdn]
               exact h3.eight.2.2.2.2.2.2.2))
      all_goals (try go_wp2_with fail)
      all_goals
        go_ret
        exact ⟨rfl, Dk.Moved.from hBX.drew hM⟩
  · rw [hc, if_pos rfl] at hZ
    subst hZ
    rw [hc] at hlook
    clear hc HZ
    go_wp2_with (go_at_call 47; refine hlook.mono ?_; rintro e w2 ⟨rfl, rfl⟩)
    go_ret
    exact ⟨rfl, hsame⟩
end Go.Proofs.Ytgbeeghdoilmkaa
