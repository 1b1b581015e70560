/- Disks: Append. Conditions: each theorem's own hypotheses. -/
import Derived.Test.YtgbeeghdoilmkaaDkR
namespace Go.Proofs.Ytgbeeghdoilmkaa
open Go.RowKit Go.Maps Go.Sort
set_option linter.unusedVariables false

theorem Dk.Moved.drew {W W' : World} {d : Nat} {F : Nat → Prop} {m' : Dk.M} (h : Dk.Moved W W' d F m') : Dk.Moved W W'.drew d F m' := by
  obtain ⟨F', hA, ho, hf⟩ := h
  exact ⟨F', hA.keep fun _ _ => rfl, ho.drew, hf⟩
theorem Dk.Row.slice {W : World} {v : Value} {l : List UInt8} (h : Dk.Row W v l) : ∃ a c, v = .slice a l.length c := by
  rcases h.form with ⟨h1, h2⟩ | ⟨g, cap, h1, _⟩
  · exact ⟨none, 0, by rw [h1, h2]; rfl⟩
  · exact ⟨_, _, h1⟩
theorem Dk.Row.slice3 {W : World} {v : Value} {l : List UInt8} (h : Dk.Row W v l) : ∃ a n c, v = .slice a n c := by
  obtain ⟨a, c, h⟩ := h.slice
  exact ⟨_, _, _, h⟩
/-- Loads of cells that the same region stores into, under a name. -/
def Dk.o7 : Op := Op.load 81 (Operand.tmp 6)
attribute [go_sem] Dk.o7
def Dk.o15 : Op := Op.load 3 (Operand.tmp 14)
attribute [go_sem] Dk.o15
/-- A disk's boxes. -/
theorem Dk.Stand.box {W W1 : World} {d b : Nat} {m : Dk.M} {L : List Dk.X} (h : Dk.Stand W d b m L) (ho : Dk.Only (fun k => k = d) W W1) {g : Nat} {t : TypeId} {v : Value} (hb : Blk W g t #[v]) (h1 : t ≠ 77) (h2 : t ≠ 83) (h3 : t ≠ 5) : Blk W1 g t #[v] ∧ ¬ Dk.foot d b L g ∧ g < W1.heap.size := by
  have hn := h.off hb h1 h2 h3
  exact ⟨(ho.block g hb.lt (fun e => hn (.inl e))).trans hb, hn, Nat.lt_of_lt_of_le hb.lt ho.size⟩
def Dk.grow (f : Dk.F) (s : List UInt8) : Dk.F := ⟨f.name, f.data ++ s, f.sure⟩
set_option maxRecDepth 100000 in
set_option maxHeartbeats 2000000 in
/-- What Append's closure does. -/
theorem Dk.append1 {W : World} {d b : Nat} {m : Dk.M} {L : List Dk.X} (h : Dk.Stand W d b m L) (hG : Dk.Good m) {x : Dk.X} (hx : x ∈ L) {bf bs bd : Nat} (s : ByteArray) (hs : x.f.data.length + s.size ≤ 140737488355328)
    (h1 : Blk W bf 80 #[.pointer (some ⟨x.blk, 0, none⟩)]) (h2 : Blk W bs 9 #[.string s]) (h3 : Blk W bd 22 #[.pointer (some ⟨d, 0, none⟩)]) :
    Dk.Doing W d b m L 72 #[.pointer (some ⟨bf, 0, none⟩), .pointer (some ⟨bs, 0, none⟩), .pointer (some ⟨bd, 0, none⟩)] (Dk.upd x.nm (Dk.grow x.f s.data.toList) m.files) := by
  intro W1 m1 hS hf hcap ho
  obtain ⟨k1, nf1, l1⟩ := h.box ho h1 (by decide) (by decide) (by decide)
  obtain ⟨k2, nf2, l2⟩ := h.box ho h2 (by decide) (by decide) (by decide)
  obtain ⟨k3, nf3, l3⟩ := h.box ho h3 (by decide) (by decide) (by decide)
  obtain ⟨q0, q1⟩ := hS.two hx
  have hR := (hS.file x hx).2
  obtain ⟨a, c, hxv⟩ := hR.slice
  have fx : Dk.foot d b L x.blk := .inr (.inr ⟨x, hx, .inl rfl⟩)
  have fo : ∀ k, x.v.ownBlock = some k → Dk.foot d b L k := fun k e => .inr (.inr ⟨x, hx, .inr e⟩)
  have hxd := hS.lone x.blk (.inr ⟨x, hx, .inl rfl⟩)
  have hod : ∀ k, x.v.ownBlock = some k → k ≠ d := fun k e => hS.lone k (.inr ⟨x, hx, .inr e⟩)
  have hoxb : ∀ k, x.v.ownBlock = some k → k ≠ x.blk := fun k e e2 => by
    obtain ⟨cur, fz, h3⟩ := hR.type e
    have h4 := (hS.file x hx).1
    unfold Blk at h4
    rw [e2, h4] at h3
    injection h3 with h3
    injection h3 with _ h3 _
    cases h3
  have p1 := k1.cell 0
  have p2 := k2.cell 0
  have p3 := k3.cell 0
  simp only [List.getElem?_toArray, List.getElem?_cons_zero] at p1 p2 p3
  have hxl := (hS.file x hx).1.lt
  have hdl := hS.disk.lt
  have hfz := (hS.file x hx).1.frozen 0
  have hu0 : Dk.get Dk.F.name x.nm m.files = some x.f := by
    have hg := Dk.get_at (h.up hG.up) (List.mem_iff_getElem?.1 hx).choose_spec
    have := h.get x.nm
    rw [hg] at this
    exact this.symm
  have huu := Dk.used_upd (Dk.grow x.f s.data.toList) hG.up hu0
  have hgl : (Dk.grow x.f s.data.toList).data.length = x.f.data.length + s.size := by unfold Dk.grow; rw [List.length_append, ← Tx.size]
  rw [hgl] at huu
  have hum := hG.used
  have hcm := hG.cap
  obtain ⟨u, hu⟩ : ∃ u, Dk.used (Dk.upd x.nm (Dk.grow x.f s.data.toList) m.files) = u := ⟨_, rfl⟩
  obtain ⟨u0, hu1⟩ : ∃ u0, Dk.used m.files = u0 := ⟨_, rfl⟩
  rw [hu, hu1] at huu
  rw [hu1] at hum
  have hwr : IntKind.i64.wrap ((u0 : Int) + (s.size : Int)) = (u : Int) := (IntWalk.i64_in _ (by omega)).trans (by omega)
  have c2 := hS.eight.2.2.1
  rw [hf, hu1] at c2
  rw [hxv] at q0
  have S0 : W1.frozen? ⟨x.blk, 0, none⟩ = false ∧ W1.cell? ⟨bf, 0, none⟩ = some (.pointer (some ⟨x.blk, 0, none⟩)) ∧ W1.cell? ⟨bs, 0, none⟩ = some (.string s) := ⟨hfz, p1, p2⟩
  have hfin : ∀ (A5 : Option Addr) (n5 c5 : Nat) (w5 : World), Dk.Row w5 (.slice A5 n5 c5) (x.f.data ++ s.data.toList) → W1.drew.grownBy w5 x.v.ownBlock → (∀ k, (Value.slice A5 n5 c5).ownBlock = some k → x.v.ownBlock = some k ∨ W1.drew.heap.size ≤ k) →
      ∀ W6 : World, W6 = w5.setCell ⟨x.blk, 0, none⟩ (.slice A5 n5 c5) → W6.cell? ⟨bs, 0, none⟩ = some (.string s) ∧ W6.cell? ⟨bd, 0, none⟩ = some (.pointer (some ⟨d, 0, none⟩)) ∧ W6.frozen? ⟨d, 2, none⟩ = false ∧ W6.cell? ⟨d, 2, none⟩ = some (.int .i64 (u0 : Int)) ∧
        Dk.Moved W1 (W6.setCell ⟨d, 2, none⟩ (.int .i64 (u : Int))) d (Dk.foot d b L) { m1 with files := Dk.upd x.nm (Dk.grow x.f s.data.toList) m.files } := by
    intro A5 n5 c5 w5 hr5 hg5 hv5 W6 hW6
    have hsz : W1.heap.size ≤ w5.heap.size := hg5.size
    have hold : ∀ k, k < W1.heap.size → k ≠ x.blk → x.v.ownBlock ≠ some k → W6.heap[k]? = W1.heap[k]? := fun k hk h1 h2 => by
      rw [hW6]
      exact (Below.heap_setCell w5 ⟨x.blk, 0, none⟩ _ k h1).trans (hg5.block k hk (fun e => h2 e.symm))
    have hob : ∀ {g : Nat}, ¬ Dk.foot d b L g → g < W1.heap.size → W6.heap[g]? = W1.heap[g]? := fun {g} hn hl => hold g hl (fun e => hn (e ▸ fx)) (fun e => hn (fo g e))
    have hd6 : W6.heap[d]? = W1.heap[d]? := hold d hdl (fun e => hxd e.symm) (fun e => hod d e rfl)
    refine ⟨(World.cell?_of_block (hob nf2 l2)).trans p2, (World.cell?_of_block (hob nf3 l3)).trans p3, (World.frozen?_of_block hd6).trans (hS.disk.frozen 2), (World.cell?_of_block hd6).trans c2, ?_⟩
    have hD6 : Blk W6 d 77 (Dk.cells b m1) := hd6.trans hS.disk
    have hv' : ∀ k, (Value.slice A5 n5 c5).ownBlock = some k → x.v.ownBlock = some k ∨ W1.heap.size ≤ k := hv5
    have hne5 : ∀ k, (Value.slice A5 n5 c5).ownBlock = some k → k ≠ x.blk ∧ k ≠ d := fun k e => by
      rcases hv' k e with e2 | e2
      · exact ⟨hoxb k e2, hod k e2⟩
      · exact ⟨by omega, by omega⟩
    refine ⟨_, ⟨b, L.map (Dk.alt x.nm (Dk.grow x.f s.data.toList) (.slice A5 n5 c5)), ?_, rfl⟩, ⟨?_, ?_, ?_, ?_, fun k hk hn => ?_⟩, fun k hk => Dk.foot_alter hx hv' hk⟩
    · refine hS.alter (by rw [hf]; exact hG.up) hx _ _ rfl ?_ (by rw [hf]) ?_ ?_ hv' ?_
      · have := hD6.set_ 2 (.int .i64 (u : Int))
        have e : (Dk.cells b m1).setIfInBounds 2 (.int .i64 (u : Int)) = Dk.cells b { m1 with files := Dk.upd x.nm (Dk.grow x.f s.data.toList) m.files } := by
          unfold Dk.cells
          rw [hu]
          rfl
        rw [← e]
        exact this
      · have hb5 : Blk w5 x.blk 83 #[x.v, .int .i64 x.f.sure] := (hg5.block x.blk hxl (fun e => hoxb _ e.symm rfl)).trans (hS.file x hx).1
        have := (hb5.set_ 0 (.slice A5 n5 c5)).far (p := ⟨d, 2, none⟩) hxd (.int .i64 (u : Int))
        rw [hW6]
        exact this
      · refine Dk.Row.keep (W := w5) hr5 fun k e => ?_
        rw [hW6]
        exact (Below.heap_setCell _ ⟨d, 2, none⟩ _ k (hne5 k e).2).trans (Below.heap_setCell _ ⟨x.blk, 0, none⟩ _ k (hne5 k e).1)
      · exact fun k hk h1 h2 h3 => (Below.heap_setCell W6 ⟨d, 2, none⟩ _ k h1).trans (hold k hk h2 h3)
    · rw [hW6]; exact hg5.os
    · rw [hW6]; exact hg5.tape
    · rw [hW6]; exact hg5.output
    · rw [hW6]
      simp only [World.setCell, Array.size_modify]
      exact hsz
    · exact (Below.heap_setCell W6 ⟨d, 2, none⟩ _ k (fun e => hn (.inl e))).trans (hob hn hk)
  have SG : ∀ (v5 : Value) (w5 : World), W1.drew.grownBy w5 x.v.ownBlock → w5.frozen? ⟨x.blk, 0, none⟩ = false ∧ w5.cell? ⟨bf, 0, none⟩ = some (.pointer (some ⟨x.blk, 0, none⟩)) ∧ w5.cell? ⟨bs, 0, none⟩ = some (.string s) := fun v5 w5 hg =>
    ⟨(World.frozen?_of_block (hg.block x.blk hxl (fun e => hoxb _ e.symm rfl))).trans hfz, (World.cell?_of_block (hg.block bf l1 (fun e => nf1 (fo bf e.symm)))).trans p1, (World.cell?_of_block (hg.block bs l2 (fun e => nf2 (fo bs e.symm)))).trans p2⟩
  have hbsd : bs ≠ d := fun e => nf2 (.inl e)
  have hbdd : bd ≠ d := fun e => nf3 (.inl e)
  have hbfx : bf ≠ x.blk := fun e => nf1 (e ▸ fx)
  have hbsx : bs ≠ x.blk := fun e => nf2 (e ▸ fx)
  have hox5 : some x.blk ≠ x.v.ownBlock := fun e => hoxb _ e.symm rfl
  rw [hxv] at hR hfin SG hox5
  clear hf hcap ho huu hum hcm hu hu1 hu0 hgl h hG k1 k2 k3 h1 h2 h3
  go_enter Try.func72, Try.ntmps72
  go_wp2_with fail
  rw [show Op.load 81 (Operand.tmp 6) = Dk.o7 from rfl]
  go_region_held_law (fun W' => W'.frozen? ⟨x.blk, 0, none⟩ = false ∧ W'.cell? ⟨bf, 0, none⟩ = some (.pointer (some ⟨x.blk, 0, none⟩)) ∧ W'.cell? ⟨bs, 0, none⟩ = some (.string s))
    (first
      | with_reducible assumption
      | exact S0
      | exact S5
      | exact S6)
    (first
      | (refine Dk.step_append rfl (.tmp 7) (.tmp 8) 81 9 rfl (.slice a x.f.data.length c) (.string s) (by simp [Act.eval]) (by simp [Act.eval]) _ (fun ty => Dk.Row.append W1.drew ty hR s hs) ?_; intro v5 w5 ho5; obtain ⟨ho5, hg5, hv5⟩ := ho5
         obtain ⟨A5, n5, c5, rfl⟩ := ho5.slice3
         have S5 := SG (.slice none 0 0) w5 hg5
         have z5 : w5.cell? ⟨x.blk, 0, none⟩ = some (.slice a x.f.data.length c) := (World.cell?_of_block (hg5.block x.blk hxl hox5)).trans q0
         have S6 : (w5.setCell ⟨x.blk, 0, none⟩ (.slice A5 n5 c5)).frozen? ⟨x.blk, 0, none⟩ = false ∧ (w5.setCell ⟨x.blk, 0, none⟩ (.slice A5 n5 c5)).cell? ⟨bf, 0, none⟩ = some (.pointer (some ⟨x.blk, 0, none⟩)) ∧ (w5.setCell ⟨x.blk, 0, none⟩ (.slice A5 n5 c5)).cell? ⟨bs, 0, none⟩ = some (.string s) :=
           ⟨by rw [World.frozen?_setCell]; exact S5.1, (World.cell?_of_block (Below.heap_setCell _ ⟨x.blk, 0, none⟩ _ bf hbfx)).trans S5.2.1, (World.cell?_of_block (Below.heap_setCell _ ⟨x.blk, 0, none⟩ _ bs hbsx)).trans S5.2.2⟩))
  all_goals
    obtain ⟨W6, hW6⟩ : ∃ W6, w5.setCell ⟨x.blk, 0, none⟩ (.slice A5 n5 c5) = W6 := ⟨_, rfl⟩
    obtain ⟨t1, t2, t3, t4, hM⟩ := hfin _ _ _ w5 ho5 hg5 hv5 W6 hW6.symm
    have T0 : W6.frozen? ⟨d, 2, none⟩ = false ∧ W6.cell? ⟨bs, 0, none⟩ = some (.string s) ∧ W6.cell? ⟨bd, 0, none⟩ = some (.pointer (some ⟨d, 0, none⟩)) := ⟨t3, t1, t2⟩
    have T9 : ∀ v : Value, (W6.setCell ⟨d, 2, none⟩ v).frozen? ⟨d, 2, none⟩ = false ∧ (W6.setCell ⟨d, 2, none⟩ v).cell? ⟨bs, 0, none⟩ = some (.string s) ∧ (W6.setCell ⟨d, 2, none⟩ v).cell? ⟨bd, 0, none⟩ = some (.pointer (some ⟨d, 0, none⟩)) := fun v =>
      ⟨by rw [World.frozen?_setCell]; exact t3, (World.cell?_of_block (Below.heap_setCell W6 ⟨d, 2, none⟩ v bs hbsd)).trans t1, (World.cell?_of_block (Below.heap_setCell W6 ⟨d, 2, none⟩ v bd hbdd)).trans t2⟩
    rw [hW6]
    clear hfin SG S0 S5 S6 z5 hW6 q0 q1 c2 p1 p2 p3
    go_wp2_with fail
    rw [show Op.load 3 (Operand.tmp 14) = Dk.o15 from rfl]
    go_region_held_law (fun W' => W'.frozen? ⟨d, 2, none⟩ = false ∧ W'.cell? ⟨bs, 0, none⟩ = some (.string s) ∧ W'.cell? ⟨bd, 0, none⟩ = some (.pointer (some ⟨d, 0, none⟩)))
      (first
        | with_reducible assumption
        | exact T0
        | exact T9 _)
      (fail)
    all_goals (try go_wp2_with fail)
    all_goals
      go_end0
      exact ⟨rfl, hM.drew⟩
end Go.Proofs.Ytgbeeghdoilmkaa
