/- Disks: Cut. Conditions: each theorem's own hypotheses. -/
import Derived.Test.YtgbeeghdoilmkaaDkT
namespace Go.Proofs.Ytgbeeghdoilmkaa
open Go.RowKit Go.Maps Go.Sort
set_option linter.unusedVariables false

def Dk.cutF (f : Dk.F) (n : Nat) : Dk.F := ⟨f.name, f.data.take n, min f.sure n⟩
/-- What Cut does and answers. -/
def Dk.cut (m : Dk.M) (nm : List UInt8) (n : Int) : Dk.M × Int :=
  if Dk.code m nm ≠ 0 then (m, Dk.code m nm)
  else if n < 0 ∨ (Dk.file m nm).data.length < n then (m, 13)
  else Dk.acc m m.done (Dk.upd nm (Dk.cutF (Dk.file m nm) n.toNat) m.files)
theorem Dk.cut_good {m : Dk.M} (hG : Dk.Good m) (nm : List UInt8) (n : Int) : Dk.Good (Dk.cut m nm n).1 := by
  unfold Dk.cut
  split
  · exact hG
  · rename_i hc
    obtain ⟨h1, h2, h3, h4, h5⟩ := Dk.code_zero (Decidable.not_not.1 hc)
    obtain ⟨f1, f2, f3⟩ := hG.file _ h5
    split
    · exact hG
    · rename_i hn
      have hu := Dk.used_upd (Dk.cutF (Dk.file m nm) n.toNat) hG.up h3
      have hl : (Dk.cutF (Dk.file m nm) n.toNat).data.length = n.toNat := by
        unfold Dk.cutF
        show ((Dk.file m nm).data.take n.toNat).length = _
        rw [List.length_take]; omega
      have := hG.used
      exact Dk.upd_good (f := Dk.cutF (Dk.file m nm) n.toNat) hG h4 h2 (by omega) (by rw [hl]; exact Nat.min_le_right _ _) m.done (by omega)
theorem Dk.Row.cut {W : World} {a : Option Addr} {k c : Nat} {l : List UInt8} (h : Dk.Row W (.slice a k c) l) (n : Nat) (hn : n ≤ l.length) : Dk.Row W (.slice a n c) (l.take n) := by
  rcases h with ⟨h1, rfl⟩ | ⟨g, cap, cur, fz, h1, hg, hf, h2, h3, h4, h5⟩
  · have hn0 : n = 0 := by simpa using hn
    subst hn0
    injection h1 with e1 e2 e3
    exact .inl ⟨by rw [e1, e3], rfl⟩
  · injection h1 with e1 e2 e3
    have hl : (l.take n).length = n := by rw [List.length_take]; omega
    refine .inr ⟨g, cap, cur, fz, by rw [e1, e3, hl], hg, hf, by rw [hl]; omega, h3, h4, ?_⟩
    rw [hl]
    have h6 := congrArg (List.take n) h5
    rw [List.take_take, Nat.min_eq_left hn] at h6
    rw [h6]
    unfold Lib.byteCells
    rw [List.map_take]
theorem Dk.own_len (a : Option Addr) (n m c : Nat) : (Value.slice a n c).ownBlock = (Value.slice a m c).ownBlock := by cases a <;> rfl
theorem Dk.four_set {w : World} {xb bf bn : Nat} {P Q : Value} (h : w.frozen? ⟨xb, 0, none⟩ = false ∧ w.frozen? ⟨xb, 1, none⟩ = false ∧ w.cell? ⟨bf, 0, none⟩ = some P ∧ w.cell? ⟨bn, 0, none⟩ = some Q) (h1 : bf ≠ xb) (h2 : bn ≠ xb) (i : Nat) (v : Value) :
    (w.setCell ⟨xb, i, none⟩ v).frozen? ⟨xb, 0, none⟩ = false ∧ (w.setCell ⟨xb, i, none⟩ v).frozen? ⟨xb, 1, none⟩ = false ∧ (w.setCell ⟨xb, i, none⟩ v).cell? ⟨bf, 0, none⟩ = some P ∧ (w.setCell ⟨xb, i, none⟩ v).cell? ⟨bn, 0, none⟩ = some Q :=
  ⟨by rw [World.frozen?_setCell]; exact h.1, by rw [World.frozen?_setCell]; exact h.2.1, (World.cell?_of_block (Below.heap_setCell w ⟨xb, i, none⟩ v bf h1)).trans h.2.2.1, (World.cell?_of_block (Below.heap_setCell w ⟨xb, i, none⟩ v bn h2)).trans h.2.2.2⟩
def Dk.o6 : Op := Op.load 3 (Operand.tmp 5)
attribute [go_sem] Dk.o6
def Dk.o22 : Op := Op.load 81 (Operand.tmp 21)
attribute [go_sem] Dk.o22
def Dk.o28 : Op := Op.load 3 (Operand.tmp 27)
attribute [go_sem] Dk.o28
set_option maxRecDepth 100000 in
set_option maxHeartbeats 4000000 in
theorem Dk.cut1 {W : World} {d b : Nat} {m : Dk.M} {L : List Dk.X} (h : Dk.Stand W d b m L) (hG : Dk.Good m) {x : Dk.X} (hx : x ∈ L) {bd bf bn : Nat} (n : Nat) (hn : n ≤ x.f.data.length)
    (h1 : Blk W bd 22 #[.pointer (some ⟨d, 0, none⟩)]) (h2 : Blk W bf 80 #[.pointer (some ⟨x.blk, 0, none⟩)]) (h3 : Blk W bn 3 #[.int .i64 n]) :
    Dk.Doing W d b m L 74 #[.pointer (some ⟨bd, 0, none⟩), .pointer (some ⟨bf, 0, none⟩), .pointer (some ⟨bn, 0, none⟩)] (Dk.upd x.nm (Dk.cutF x.f n) m.files) := by
  intro W1 m1 hS hf hcap ho
  obtain ⟨k1, nf1, l1⟩ := h.box ho h1 (by decide) (by decide) (by decide)
  obtain ⟨k2, nf2, l2⟩ := h.box ho h2 (by decide) (by decide) (by decide)
  obtain ⟨k3, nf3, l3⟩ := h.box ho h3 (by decide) (by decide) (by decide)
  obtain ⟨q0, q1⟩ := hS.two hx
  have hR := (hS.file x hx).2
  obtain ⟨a, c, hxv⟩ := hR.slice
  have fx : Dk.foot d b L x.blk := .inr (.inr ⟨x, hx, .inl rfl⟩)
  have fo : ∀ k, x.v.ownBlock = some k → Dk.foot d b L k := fun k e => .inr (.inr ⟨x, hx, .inr e⟩)
  have hxd := hS.lone x.blk (.inr ⟨x, hx, .inl rfl⟩)
  have hod : ∀ k, x.v.ownBlock = some k → k ≠ d := fun k e => hS.lone k (.inr ⟨x, hx, .inr e⟩)
  have hoxb : ∀ k, x.v.ownBlock = some k → k ≠ x.blk := fun k e e2 => by
    obtain ⟨cur, fz, h3⟩ := hR.type e
    have h4 := (hS.file x hx).1
    unfold Blk at h4
    rw [e2, h4] at h3
    injection h3 with h3
    injection h3 with _ h3 _
    cases h3
  have p1 := k1.cell 0
  have p2 := k2.cell 0
  have p3 := k3.cell 0
  simp only [List.getElem?_toArray, List.getElem?_cons_zero] at p1 p2 p3
  have hfd := hS.disk.frozen 2
  have hu0 := h.got hG.up hx
  have huu := Dk.used_upd (Dk.cutF x.f n) hG.up hu0
  have hgl : (Dk.cutF x.f n).data.length = n := by unfold Dk.cutF; show (x.f.data.take n).length = n; rw [List.length_take]; omega
  rw [hgl] at huu
  have hum := hG.used
  have hcm := hG.cap
  obtain ⟨u, hu⟩ : ∃ u, Dk.used (Dk.upd x.nm (Dk.cutF x.f n) m.files) = u := ⟨_, rfl⟩
  obtain ⟨u0, hu1⟩ : ∃ u0, Dk.used m.files = u0 := ⟨_, rfl⟩
  obtain ⟨k, hk⟩ : ∃ k, x.f.data.length = k := ⟨_, rfl⟩
  obtain ⟨r, hr⟩ : ∃ r, k - n = r := ⟨_, rfl⟩
  rw [hu, hu1, hk] at huu
  rw [hu1] at hum
  rw [hk] at hn hxv
  have hw1 : IntKind.i64.wrap ((k : Int) - (n : Int)) = (r : Int) := (IntWalk.i64_in _ (by have := hG.file x.f (by rw [← h.fs]; exact List.mem_map_of_mem hx); omega)).trans (by omega)
  have hw2 : IntKind.i64.wrap ((u0 : Int) - (r : Int)) = (u : Int) := (IntWalk.i64_in _ (by omega)).trans (by omega)
  have c2 := hS.eight.2.2.1
  rw [hf, hu1] at c2
  rw [hxv] at q0
  have hmn : ∀ ts t (w : World), (Builtin.min_ ts t #[.int .i64 (x.f.sure : Int), .int .i64 (n : Int)]).run Try.prog w = .ok (.int .i64 ((min x.f.sure n : Nat) : Int)) w := by
    intro ts t w
    rw [run_min_int2]
    congr 2
    split <;> omega
  -- the world behind the first store
  obtain ⟨W2, hW2⟩ : ∃ W2, W1.setCell ⟨d, 2, none⟩ (.int .i64 (u : Int)) = W2 := ⟨_, rfl⟩
  have o2 : ∀ g, g ≠ d → W2.heap[g]? = W1.heap[g]? := fun g hg => by rw [← hW2]; exact Below.heap_setCell W1 ⟨d, 2, none⟩ _ g hg
  have nd1 : bd ≠ d := fun e => nf1 (.inl e)
  have nd2 : bf ≠ d := fun e => nf2 (.inl e)
  have nd3 : bn ≠ d := fun e => nf3 (.inl e)
  have nx1 : bd ≠ x.blk := fun e => nf1 (e ▸ fx)
  have nx2 : bf ≠ x.blk := fun e => nf2 (e ▸ fx)
  have nx3 : bn ≠ x.blk := fun e => nf3 (e ▸ fx)
  have t2 : W2.cell? ⟨bf, 0, none⟩ = some (.pointer (some ⟨x.blk, 0, none⟩)) := (World.cell?_of_block (o2 bf nd2)).trans p2
  have t3 : W2.cell? ⟨bn, 0, none⟩ = some (.int .i64 n) := (World.cell?_of_block (o2 bn nd3)).trans p3
  have t4 : W2.cell? ⟨x.blk, 0, none⟩ = some (.slice a k c) := (World.cell?_of_block (o2 x.blk hxd)).trans q0
  have t5 : W2.cell? ⟨x.blk, 1, none⟩ = some (.int .i64 x.f.sure) := (World.cell?_of_block (o2 x.blk hxd)).trans q1
  have t6 : W2.frozen? ⟨x.blk, 0, none⟩ = false := (World.frozen?_of_block (o2 x.blk hxd)).trans ((hS.file x hx).1.frozen 0)
  have t7 : W2.frozen? ⟨x.blk, 1, none⟩ = false := (World.frozen?_of_block (o2 x.blk hxd)).trans ((hS.file x hx).1.frozen 1)
  have hfin : ∀ w9 : World, Blk w9 x.blk 83 #[.slice a n c, .int .i64 ((min x.f.sure n : Nat) : Int)] → (∀ g, g ≠ x.blk → w9.heap[g]? = W2.heap[g]?) → Dk.Only (Dk.foot d b L) W1 w9 → Dk.Moved W1 w9 d (Dk.foot d b L) { m1 with files := Dk.upd x.nm (Dk.cutF x.f n) m.files } := by
    intro w9 hb9 ho9 hO
    have hold : ∀ g, g ≠ d → g ≠ x.blk → w9.heap[g]? = W1.heap[g]? := fun g h1 h2 => (ho9 g h2).trans (o2 g h1)
    have hvk : ∀ k, (Value.slice a n c).ownBlock = some k → x.v.ownBlock = some k ∨ W1.heap.size ≤ k := fun k e => .inl (by rw [hxv, Dk.own_len a _ n]; exact e)
    refine ⟨_, ⟨b, L.map (Dk.alt x.nm (Dk.cutF x.f n) (.slice a n c)), ?_, rfl⟩, hO, fun k hk => Dk.foot_alter hx hvk hk⟩
    refine hS.alter (by rw [hf]; exact hG.up) hx _ _ rfl ?_ (by rw [hf]) hb9 ?_ hvk (fun k hk h1 h2 h3 => hold k h1 h2)
    · have hD2 : Blk W2 d 77 ((Dk.cells b m1).setIfInBounds 2 (.int .i64 (u : Int))) := by rw [← hW2]; exact hS.disk.set_ 2 _
      have e : (Dk.cells b m1).setIfInBounds 2 (.int .i64 (u : Int)) = Dk.cells b { m1 with files := Dk.upd x.nm (Dk.cutF x.f n) m.files } := by
        unfold Dk.cells
        rw [hu]
        rfl
      rw [← e]
      exact (ho9 d (fun e => hxd e.symm)).trans hD2
    · have hR2 : Dk.Row W1 (.slice a n c) (x.f.data.take n) := by
        rw [hxv] at hR
        exact hR.cut n (by omega)
      refine Dk.Row.keep hR2 fun k e => ?_
      have e2 : x.v.ownBlock = some k := by rw [hxv, Dk.own_len a _ n]; exact e
      exact hold k (hod k e2) (hoxb k e2)
  have hO2 : Dk.Only (Dk.foot d b L) W1 W2 := by rw [← hW2]; exact Dk.Only.setCell (Dk.Only.refl _ _) (.inl (.inl rfl)) _
  have hb2 : Blk W2 x.blk 83 #[.slice a k c, .int .i64 x.f.sure] := by
    have := (o2 x.blk hxd).trans (hS.file x hx).1
    rw [hxv] at this
    exact this
  have hcl := hR.form
  rw [hxv] at hcl
  have hac : a = none → n = 0 ∧ k = 0 ∧ c = 0 := by
    intro ha
    rcases hcl with ⟨h1, h2⟩ | ⟨g, cap, h1, _⟩
    · injection h1 with _ e2 e3
      exact ⟨by omega, e2, e3⟩
    · rw [ha] at h1; injection h1 with h1; cases h1
  have hnc : n ≤ c := by
    rcases hcl with ⟨h1, h2⟩ | ⟨g, cap, h1, h2, _⟩
    · injection h1 with _ e2 e3; omega
    · injection h1 with _ e2 e3; omega
  have hnc2 : (n : Int) ≤ (c : Int) := by omega
  have S0 : W1.frozen? ⟨d, 2, none⟩ = false ∧ W1.cell? ⟨bd, 0, none⟩ = some (.pointer (some ⟨d, 0, none⟩)) ∧ W1.cell? ⟨bf, 0, none⟩ = some (.pointer (some ⟨x.blk, 0, none⟩)) ∧ W1.cell? ⟨bn, 0, none⟩ = some (.int .i64 n) ∧ W1.cell? ⟨x.blk, 0, none⟩ = some (.slice a k c) := ⟨hfd, p1, p2, p3, q0⟩
  have S9 : W2.frozen? ⟨d, 2, none⟩ = false ∧ W2.cell? ⟨bd, 0, none⟩ = some (.pointer (some ⟨d, 0, none⟩)) ∧ W2.cell? ⟨bf, 0, none⟩ = some (.pointer (some ⟨x.blk, 0, none⟩)) ∧ W2.cell? ⟨bn, 0, none⟩ = some (.int .i64 n) ∧ W2.cell? ⟨x.blk, 0, none⟩ = some (.slice a k c) :=
    ⟨by rw [← hW2, World.frozen?_setCell]; exact hfd, (World.cell?_of_block (o2 bd nd1)).trans p1, t2, t3, t4⟩
  clear hf hcap ho huu hum hcm hu hu1 hu0 hgl h hG k1 k2 k3 h1 h2 h3 hcl hk hr hR hxv
  go_enter Try.func74, Try.ntmps74
  go_wp2_with fail
  rw [show Op.load 3 (Operand.tmp 5) = Dk.o6 from rfl]
  go_region_held_law (fun W' => W'.frozen? ⟨d, 2, none⟩ = false ∧ W'.cell? ⟨bd, 0, none⟩ = some (.pointer (some ⟨d, 0, none⟩)) ∧ W'.cell? ⟨bf, 0, none⟩ = some (.pointer (some ⟨x.blk, 0, none⟩)) ∧ W'.cell? ⟨bn, 0, none⟩ = some (.int .i64 n) ∧ W'.cell? ⟨x.blk, 0, none⟩ = some (.slice a k c))
    (first
      | with_reducible assumption
      | exact S0
      | exact S9)
    (fail)
  all_goals
    obtain ⟨V, hV⟩ : ∃ V, W2.drew = V := ⟨_, rfl⟩
    have T0 : V.frozen? ⟨x.blk, 0, none⟩ = false ∧ V.frozen? ⟨x.blk, 1, none⟩ = false ∧ V.cell? ⟨bf, 0, none⟩ = some (.pointer (some ⟨x.blk, 0, none⟩)) ∧ V.cell? ⟨bn, 0, none⟩ = some (.int .i64 n) := by rw [← hV]; exact ⟨t6, t7, t2, t3⟩
    have v4 : V.cell? ⟨x.blk, 0, none⟩ = some (.slice a k c) := by rw [← hV]; exact t4
    have v5 : V.cell? ⟨x.blk, 1, none⟩ = some (.int .i64 x.f.sure) := by rw [← hV]; exact t5
    have hM : ∀ w9 : World, Blk w9 x.blk 83 #[.slice a n c, .int .i64 ((min x.f.sure n : Nat) : Int)] → (∀ g, g ≠ x.blk → w9.heap[g]? = V.heap[g]?) → Dk.Only (Dk.foot d b L) V w9 → Dk.Moved W1 w9 d (Dk.foot d b L) { m1 with files := Dk.upd x.nm (Dk.cutF x.f n) m.files } := fun w9 h1 h2 h3 =>
      hfin w9 h1 (fun g hg => (h2 g hg).trans (by rw [← hV]; rfl)) ((hV ▸ hO2.drew).trans h3)
    have hbV : Blk V x.blk 83 #[.slice a k c, .int .i64 x.f.sure] := by rw [← hV]; exact hb2
    rw [hV]
    clear hfin S0 S9 t2 t3 t4 t5 t6 t7 hV q0 q1 c2 p1 p2 p3 hO2 hb2 hW2 hfd o2 hw1 hw2
    go_wp2_with fail
    rw [show Op.load 81 (Operand.tmp 21) = Dk.o22 from rfl, show Op.load 3 (Operand.tmp 27) = Dk.o28 from rfl]
    clear hac
    go_region_held_law (fun W' => W'.frozen? ⟨x.blk, 0, none⟩ = false ∧ W'.frozen? ⟨x.blk, 1, none⟩ = false ∧ W'.cell? ⟨bf, 0, none⟩ = some (.pointer (some ⟨x.blk, 0, none⟩)) ∧ W'.cell? ⟨bn, 0, none⟩ = some (.int .i64 n))
      (first
        | with_reducible assumption
        | exact T0
        | exact Dk.four_set (by assumption) nx2 nx3 _ _
        | exact Dk.four_set T0 nx2 nx3 _ _)
      (fail)
    all_goals (try go_wp2_with fail)
    all_goals
      go_end0
      refine ⟨rfl, Dk.Moved.drew (hM _ ?_ ?_ ?_)⟩
      · first | exact (hbV.set_ 0 _).set_ 1 _ | exact (hbV.set_ 1 _).set_ 0 _
      · exact fun g hg => (Below.heap_setCell _ ⟨x.blk, _, none⟩ _ g hg).trans (Below.heap_setCell _ ⟨x.blk, _, none⟩ _ g hg)
      · exact Dk.Only.setCell (Dk.Only.setCell (Dk.Only.refl _ _) (.inl fx) _) (.inl fx) _
end Go.Proofs.Ytgbeeghdoilmkaa
