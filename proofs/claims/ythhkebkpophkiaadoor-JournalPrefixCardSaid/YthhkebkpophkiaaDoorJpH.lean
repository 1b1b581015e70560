/- A journal that is given up appends nothing; the law's helper begins. Conditions: each theorem's own hypotheses. -/
import Derived.Test.YthhkebkpophkiaaDoorJpG
import Derived.Test.YthhkebkpophkiaaDoorDkDD
namespace Go.Proofs.YthhkebkpophkiaaDoor
open Go.RowKit
set_option linter.unusedVariables false

section
variable {B d j : Nat} {W0 w : World} {m : Dk.M} {J : Jl.Js} {K : Nat → Prop}
set_option maxRecDepth 100000 in
set_option maxHeartbeats 2000000 in
theorem Jl.append_down (h : Jl.St B W0 w d m j J K) (hd : J.gone = true ∨ m.off = true ∨ m.age ≠ J.age) (q k i : Int) (c : ByteArray) :
    Calls Tryd.prog 29 #[.pointer (some ⟨j, 0, none⟩), .agg #[.int .i64 q, .int .i64 k, .int .i64 i, .string c]] w fun e w' => e = .returned (.int .i64 45) ∧ Jl.St B W0 w' d m j { J with gone := true } K ∧ Jl.KeptB K j w w' := by
  have hA : Below w.heap.size w ((w.alloc (.cells #[.pointer (some ⟨j, 0, none⟩)] 52)).alloc (.cells #[.int .i64 q, .int .i64 k, .int .i64 i, .string c] 39)) := ((Below.refl _ _).alloc (Nat.le_refl _) _).alloc (by simp) _
  obtain ⟨X0, hX0⟩ : ∃ X0, ((w.alloc (.cells #[.pointer (some ⟨j, 0, none⟩)] 52)).alloc (.cells #[.int .i64 q, .int .i64 k, .int .i64 i, .string c] 39)) = X0 := ⟨_, rfl⟩
  rw [hX0] at hA
  have h1 : Jl.St B W0 X0 d m j J K := h.later hA
  have hk : Jl.KeptB K j w X0 := .of h.sit hA
  have e0 : X0.cell? ⟨w.heap.size, 0, none⟩ = some (.pointer (some ⟨j, 0, none⟩)) := by
    rw [← hX0]
    exact ((Blk.new w 52 #[.pointer (some ⟨j, 0, none⟩)]).alloc _).cell 0
  have kg := fun f => Jl.gate_down h1 hd f
  clear hd h h1 hA
  go_enter Tryd.func29, Tryd.ntmps29
  go_wp2_with (go_at_call 61; refine (kg _).mono ?_; clear kg; rintro e x ⟨rfl, a, b⟩)
  go_ret
  exact ⟨rfl, a, hk.trans b⟩
end
/-- Updates that begin others. -/
theorem Jl.Lie.take {W : World} {A : Option Addr} {us : List Jn.Upd} (H : Jl.Lie W A us) (i : Nat) : Jl.Lie W A (us.take i) := fun h0 => by
  obtain ⟨b, off, hA, hc⟩ := H (by rw [List.length_take] at h0; omega)
  refine ⟨b, off, hA, fun j r hj => hc j r ?_⟩
  rw [List.getElem?_take] at hj
  split at hj
  · exact hj
  · cases hj
theorem Jl.Own.cap {W : World} {B : Nat} {A : Option Addr} {n c : Nat} {us : List Jn.Upd} (h : Jl.Own W B (.slice A n c) us) : us.length ≤ c := by
  rcases h.2 with ⟨h1, h2⟩ | ⟨g, cap, cur, e1, _, _, h3, _⟩
  · omega
  · injection e1 with e1 e2 e3
    omega
set_option maxRecDepth 100000 in
set_option maxHeartbeats 2000000 in
theorem Jl.begins_true (A A' : Option Addr) (c c' i : Nat) (us : List Jn.Upd) (w : World) (hi : i ≤ us.length) (H : Jl.Lie w A (us.take i)) (H' : Jl.Lie w A' us) (hc : us.length ≤ c') (hm : us.length ≤ 4398046511104) :
    Calls Tryd.prog 30 #[.slice A (us.take i).length c, .slice A' us.length c'] w fun e w' => e = .returned (.bool true) ∧ Below w.heap.size w w' := by
  have hl : (us.take i).length = i := by rw [List.length_take]; omega
  have ks := Jl.same_true A A' c c' (us.take i) w H (H'.take i) (by omega)
  rw [hl] at ks ⊢
  have u1 : decide (i ≤ us.length) = true := decide_eq_true hi
  have u2 : decide ((i : Int) ≤ (us.length : Int)) = true := decide_eq_true (by omega)
  have a1 : (0 : Int) ≤ (i : Int) := by omega
  have a2 : (i : Int) ≤ (c' : Int) := by omega
  have a3 : (i : Int) ≤ (us.length : Int) := by omega
  clear hl H H'
  go_enter Tryd.func30, Tryd.ntmps30
  go_wp2_with (go_at_call 15; refine ks.mono ?_; clear ks; rintro e x ⟨rfl, b⟩)
  go_ret
  exact ⟨rfl, b⟩
#print axioms Jl.begins_true
#print axioms Jl.append_down
end Go.Proofs.YthhkebkpophkiaaDoor
/- Behind the crash: what is opened. Conditions: each theorem's own hypotheses. -/
namespace Go.Proofs.YthhkebkpophkiaaDoor
open Go.RowKit
set_option linter.unusedVariables false

/-- A disk behind a crash: these updates, a rest that is no frame. -/
structure Jl.Aft (n : Nat) (m : Dk.M) (us : List Jn.Upd) (junk : List UInt8) : Prop where
  rows : Jl.Rows n 64 us
  bad : junk = [] ∨ (Sl.parse junk).code ≠ 0
  files : m.files = [⟨[106, 57], Jl.bytes us ++ junk, (Jl.bytes us ++ junk).length⟩]
  cap : m.cap = 16777216
  off : m.off = false
  left : m.left = 0
theorem Jl.Live.crash {n s : Nat} {m : Dk.M} {us : List Jn.Upd} (h : Jl.Live n m us s) (cs : List Dk.Cut) :
    ∃ i junk, s ≤ i ∧ i ≤ us.length ∧ Jl.Aft n (Dk.crash m cs) (us.take i) junk ∧ (s = us.length → junk = []) := by
  obtain ⟨c, hc⟩ : ∃ c, Dk.cutOf cs [106, 57] = c := ⟨_, rfl⟩
  obtain ⟨i, junk, h1, h2, h3, h4⟩ := Jl.crash_data (by decide) h.rows h.sure [106, 57] c
  have hsl : Jl.bytes us = Jl.bytes (us.take s) ++ Jl.bytes (us.drop s) := by rw [← Jl.bytes_append, List.take_append_drop]
  have hs : (Jl.bytes (us.take s)).length ≤ (Jl.bytes us).length := by
    have := congrArg List.length hsl
    rw [List.length_append] at this
    omega
  have hl := Dk.leave_len c ⟨[106, 57], Jl.bytes us, (Jl.bytes (us.take s)).length⟩ hs
  have hk := Dk.kept_le c ⟨[106, 57], Jl.bytes us, (Jl.bytes (us.take s)).length⟩ hs
  refine ⟨i, junk, h1, h2, ⟨h.rows.take i, h4, ?_, h.cap, rfl, rfl⟩, fun e => ?_⟩
  · show m.files.map (Dk.left cs) = _
    rw [h.files, List.map_singleton]
    unfold Dk.left
    simp only [hc]
    rw [← h3, hl]
    rfl
  · have hi : i = us.length := by omega
    rw [h3, hi, e, List.take_length, List.length_append] at hl
    rw [e, List.take_length] at hk
    have : junk.length = 0 := by
      simp only at hk hl
      omega
    exact List.eq_nil_of_length_eq_zero this
theorem Jl.goesE_nine {n : Nat} (hn : n ≤ 1152921504606846976) : Jn.goesE 9 (n : Int) 64 = 0 := by
  unfold Jn.goesE
  rw [if_neg (by omega), if_neg (by decide), if_neg (by omega)]
theorem Jl.Aft.one {n : Nat} {m : Dk.M} {us : List Jn.Upd} {junk : List UInt8} (h : Jl.Aft n m us junk) : Jl.One m [106, 57] (Jl.bytes us ++ junk) (Jl.bytes us ++ junk).length := ⟨h.files, h.off, Jl.j9_named⟩
theorem Jl.Aft.look {n : Nat} {m : Dk.M} {us : List Jn.Upd} {junk : List UInt8} (h : Jl.Aft n m us junk) (hn : n ≤ 1152921504606846976) : Jl.lookR m 9 (n : Int) 64 = (us, (Jl.bytes us).length, 0) := by
  unfold Jl.lookR
  rw [if_pos (Jl.goesE_nine hn), Jn.name_nine, h.one.code, if_pos rfl, h.one.data_]
  have := Jl.look_junk (by decide) h.rows junk h.bad
  rw [show ((n : Int)).toNat = n from rfl, show (64 : Int).toNat = 64 from rfl, this]
theorem Jl.open_aft {n : Nat} {m : Dk.M} {us : List Jn.Upd} {junk : List UInt8} (h : Jl.Aft n m us junk) (hn : n ≤ 1152921504606846976) :
    ∃ m2, Jl.Aft n m2 us [] ∧ m2.age = m.age ∧ (junk = [] → m2 = m) ∧ ∀ {B d : Nat} {W0 W : World} {K : Nat → Prop}, Jl.Sit B W0 W d m K → (∀ {w : World}, Below B W0 w → TabS w) → (∀ {w : World}, Below B W0 w → PowT w) →
      Calls Tryd.prog 24 #[.pointer (some ⟨d, 0, none⟩), .int .i64 9, .int .i64 n, .int .i64 64] W fun e W' => ∃ j v, e = .returned (.tuple #[.pointer (some ⟨j, 0, none⟩), v, .int .i64 0]) ∧ Jl.Opened W W' d m2.age Jl.j9 n 64 us j v ∧ Jl.Sit B W0 W' d m2 (fun k => K k ∨ k = j ∨ v.ownBlock = some k) ∧ Jl.Kept K W W' := by
  have hL := h.look hn
  have hnb : str (Jn.name 9) = .string Jl.j9 := by rw [Jn.name_nine]; rfl
  by_cases hj : junk = []
  · subst hj
    refine ⟨m, h, rfl, fun _ => rfl, fun S hT hP => ?_⟩
    refine (Jl.open_whole S (hT S.below) (hP S.below) 9 n 64 hL (by rw [Jn.name_nine, h.one.data_, List.append_nil]) Jl.j9 hnb).mono ?_
    rintro e W' ⟨⟨j, v, rfl, hO⟩, b⟩
    refine ⟨j, v, rfl, hO, (S.grow b).sub fun k hk => ?_, S.kept b⟩
    rcases hk with hk | rfl | hk
    · exact .inl hk
    · exact .inr ⟨hO.1, hO.2.1.lt⟩
    · exact .inr (hO.2.2.lt hk)
  · have hg : (Jl.bytes us).length ≠ (Dk.data m (Jn.name 9)).length := by
      rw [Jn.name_nine, h.one.data_, List.length_append]
      have : 0 < junk.length := List.length_pos_iff.2 hj
      omega
    have hcut : Dk.cut m (Jn.name 9) (Jl.bytes us).length = (Jl.put m 0 false [⟨[106, 57], Jl.bytes us, (Jl.bytes us).length⟩], 0) := by
      rw [Jn.name_nine, h.one.cut _ (by rw [List.length_append]; omega), Jl.acc_on h.off (by rw [h.left]; decide), h.left, List.take_left' rfl, List.length_append, Nat.min_eq_right (by omega)]
    refine ⟨Jl.put m 0 false [⟨[106, 57], Jl.bytes us, (Jl.bytes us).length⟩], ⟨h.rows, .inl rfl, ?_, h.cap, rfl, rfl⟩, rfl, fun e => absurd e hj, fun S hT hP => Jl.open_cut S hT hP 9 n 64 hL hg Jl.j9 hnb hcut⟩
    show [_] = [_]
    rw [List.append_nil]
theorem Jl.Aft.ok {n : Nat} {m : Dk.M} {us : List Jn.Upd} (h : Jl.Aft n m us []) : Jl.Ok n m ⟨m.age, false, Jl.j9, 64, (n : Int) + us.length, n⟩ us us.length := by
  refine ⟨⟨h.rows, Nat.le_refl _, ?_, h.cap⟩, h.off, rfl⟩
  rw [h.files, List.append_nil, List.take_length]
theorem Jl.St.crash {B d j : Nat} {W0 w : World} {m : Dk.M} {J : Jl.Js} {K : Nat → Prop} (h : Jl.St B W0 w d m j J K) {cv : Value} {cs : List Dk.Cut} (hc : Dk.Cts w cv cs) (hcl : cs.length ≤ 140737488355328) (hcn : ∀ c ∈ cs, c.name.length ≤ 9223372036854775807) :
    Calls Tryd.prog 28 #[.pointer (some ⟨d, 0, none⟩), cv] w fun e w' => e = .returned (.tuple #[]) ∧ Jl.St B W0 w' d (Dk.crash m cs) j J K ∧ Jl.KeptB K j w w' :=
  h.call (Dk.crash_good h.sit.good cs) fun F hA hG => Dk.crash_any hA hG hc hcl hcn
theorem Jl.age_next (a : Int) : IntKind.i64.wrap (a + 1) ≠ a := by
  intro h
  unfold IntKind.wrap at h
  simp [IntKind.bits] at h
  omega
#print axioms Jl.St.crash
#print axioms Jl.open_aft
#print axioms Jl.Live.crash
end Go.Proofs.YthhkebkpophkiaaDoor
/- Lives in memory: a list of them that came in, a row of the law's own. Conditions: each theorem's own hypotheses. -/
namespace Go.Proofs.YthhkebkpophkiaaDoor
open Go.RowKit
set_option linter.unusedVariables false

theorem infoLife : (Tryd.prog.info? 61).map (fun i => (i.zero, i.size, i.bytes)) = some (some (.agg #[.slice none 0 0, .int .i64 0, .int .i64 0, .int .i64 0, .int .u8 0]), 5, 56) := by kernel_rfl
/-- One life as it lies. -/
structure Jl.Rn where
  A : Option Addr
  l : List Jl.In
  cp : Nat
  sy : Int
  ct : Int
  ke : Int
  sp : UInt8
def Jl.Rn.cells (r : Jl.Rn) : List Value := [.slice r.A r.l.length r.cp, .int .i64 r.sy, .int .i64 r.ct, .int .i64 r.ke, .int .u8 r.sp.toNat]
/-- Lives that lie one behind the other. -/
def Jl.Rns (W : World) (b off : Nat) (L : List Jl.Rn) : Prop := ∀ j r, L[j]? = some r → ∀ i u, r.cells[i]? = some u → W.cell? ⟨b, off + (j * 5 + i), none⟩ = some u
def Jl.rcells (L : List Jl.Rn) : List Value := L.flatMap Jl.Rn.cells
theorem Jl.rcells_len : ∀ L : List Jl.Rn, (Jl.rcells L).length = L.length * 5
  | [] => rfl
  | r :: L => by
    have := Jl.rcells_len L
    show (r.cells ++ Jl.rcells L).length = _
    rw [List.length_append, this, List.length_cons]
    show 5 + _ = _
    omega
theorem Jl.rcells_get : ∀ (L : List Jl.Rn) (j : Nat) (r : Jl.Rn) (i : Nat) (u : Value), L[j]? = some r → r.cells[i]? = some u → (Jl.rcells L)[j * 5 + i]? = some u
  | [], j, r, i, u, h, _ => by simp at h
  | x :: L, 0, r, i, u, h, hu => by
    obtain rfl := Option.some.inj h
    have hi : i < 5 := (List.getElem?_eq_some_iff.1 hu).1
    show (x.cells ++ Jl.rcells L)[0 * 5 + i]? = _
    rw [List.getElem?_append_left (by show 0 * 5 + i < 5; omega), Nat.zero_mul, Nat.zero_add]
    exact hu
  | x :: L, j + 1, r, i, u, h, hu => by
    have := Jl.rcells_get L j r i u (by simpa using h) hu
    show (x.cells ++ Jl.rcells L)[(j + 1) * 5 + i]? = _
    rw [List.getElem?_append_right (by show 5 ≤ _; omega)]
    show (Jl.rcells L)[(j + 1) * 5 + i - 5]? = _
    rw [show (j + 1) * 5 + i - 5 = j * 5 + i from by omega]
    exact this
theorem Jl.Rns.cells {W : World} {b off : Nat} {L : List Jl.Rn} (H : Jl.Rns W b off L) : ∀ j u, (Jl.rcells L)[j]? = some u → W.cell? ((⟨b, off, none⟩ : Addr).add j) = some u := by
  intro j u hj
  have hlt := (List.getElem?_eq_some_iff.1 hj).1
  rw [Jl.rcells_len] at hlt
  have h1 : j / 5 < L.length := by omega
  have h2 : j % 5 < (L[j / 5]).cells.length := by show j % 5 < 5; omega
  have e1 := List.getElem?_eq_getElem h1
  have e2 := List.getElem?_eq_getElem h2
  have e3 := Jl.rcells_get L _ _ _ _ e1 e2
  have e4 : j / 5 * 5 + j % 5 = j := by omega
  rw [e4, hj] at e3
  rw [Jl.addLit]
  have := H _ _ e1 _ _ e2
  rw [e4] at this
  rw [this, e3]
theorem Jl.rcells_one (L : List Jl.Rn) : ∀ u ∈ Jl.rcells L, u.oneCell' = true := by
  intro u hu
  unfold Jl.rcells at hu
  obtain ⟨x, _, hx⟩ := List.mem_flatMap.1 hu
  unfold Jl.Rn.cells at hx
  simp only [List.mem_cons, List.not_mem_nil, or_false] at hx
  rcases hx with rfl | rfl | rfl | rfl | rfl <;> rfl
/-- One life of the law's own, and those that came in behind it. -/
theorem Jl.run_more (w : World) (g : Nat) (r0 : Jl.Rn) (B : Nat) (hg : w.ownsRow B 61 5 (.slice (some ⟨g, 0, none⟩) 1 1) 1 (Jl.rcells [r0])) (hB : B ≤ w.heap.size) (A : Option Addr) (c : Nat) (L : List Jl.Rn) (hL : (A = none ∧ c = 0 ∧ L = []) ∨ ∃ p, A = some p ∧ ∀ j u, (Jl.rcells L)[j]? = some u → w.cell? (p.add j) = some u) (hn : (1 + L.length) * 56 ≤ 140737488355328) :
    ∃ v' w', (Builtin.append_ #[57, 57] 57 #[.slice (some ⟨g, 0, none⟩) 1 1, .slice A L.length c]).run Tryd.prog w = .ok v' w' ∧ w'.ownsRow B 61 5 v' (1 + L.length) (Jl.rcells (r0 :: L)) ∧ w.grownBy w' (some g) ∧ (v'.ownBlock = some g ∨ v'.ownBlock = some w.heap.size) := by
  obtain ⟨i0, hi, hz0, hz1, hz2⟩ := info_parts infoLife
  have hcc : Jl.rcells (r0 :: L) = Jl.rcells [r0] ++ Jl.rcells L := by simp [Jl.rcells]
  rcases hL with ⟨rfl, rfl, rfl⟩ | ⟨p, rfl, H⟩
  · refine ⟨_, w, run_append_owned_none (P := Tryd.prog) (w := w) B 57 57 61 i0 5 Tryd.underlying57 hi _ 1 _ hg, hg, ⟨rfl, rfl, rfl, Nat.le_refl _, fun _ _ _ => rfl⟩, .inl rfl⟩
  · obtain ⟨v', w', h1, h2, h3, h4, h5⟩ := run_append_own_at (P := Tryd.prog) w B 57 57 61 i0 (.agg #[.slice none 0 0, .int .i64 0, .int .i64 0, .int .i64 0, .int .u8 0]) 5 56 Tryd.underlying57 hi hz0 hz1 hz2 rfl (by decide) (.slice (some ⟨g, 0, none⟩) 1 1) 1 (Jl.rcells [r0]) hg p L.length c (Jl.rcells L) (Jl.rcells_len L) H (Jl.rcells_one L) (by unfold maxLen; omega) (by omega) hB
    rw [← hcc] at h2
    exact ⟨v', w', h1, h2, h3, h5⟩
/-- A literal's row. -/
theorem Jl.fresh_row (w : World) (B : Nat) (hB : B ≤ w.heap.size) (r0 : Jl.Rn) : (w.alloc (.cells r0.cells.toArray 61)).ownsRow B 61 5 (.slice (some ⟨w.heap.size, 0, none⟩) 1 1) 1 (Jl.rcells [r0]) := by
  refine ⟨rfl, .inr ⟨w.heap.size, 1, r0.cells.toArray, rfl, hB, heap_alloc_new w _, Nat.le_refl _, by unfold maxLen; omega, rfl, ?_⟩⟩
  show List.take (1 * 5) r0.cells = r0.cells ++ []
  rw [List.append_nil]
  exact List.take_of_length_le (Nat.le_refl 5)
theorem Jl.wpList_more {w : World} {ops : Array Oper} {rest : List Oper} {o : Oper} {a : Act} {Q : Exit → Act → World → Prop} (hgd : o.guard = none) (x y : Operand)
    (ho : o.op = .call { callee := .builtin .append, args := #[x, y], argTypes := #[57, 57] }) (hty : o.type = 57)
    (g : Nat) (r0 : Jl.Rn) (B : Nat) (hx : a.eval x = .slice (some ⟨g, 0, none⟩) 1 1) (hg : w.ownsRow B 61 5 (.slice (some ⟨g, 0, none⟩) 1 1) 1 (Jl.rcells [r0])) (hB : B ≤ w.heap.size) (A : Option Addr) (c : Nat) (L : List Jl.Rn) (hy : a.eval y = .slice A L.length c) (hL : (A = none ∧ c = 0 ∧ L = []) ∨ ∃ p, A = some p ∧ ∀ j u, (Jl.rcells L)[j]? = some u → w.cell? (p.add j) = some u) (hn : (1 + L.length) * 56 ≤ 140737488355328)
    (h : ∀ v' w', w'.ownsRow B 61 5 v' (1 + L.length) (Jl.rcells (r0 :: L)) → w.grownBy w' (some g) → (v'.ownBlock = some g ∨ v'.ownBlock = some w.heap.size) → wpList Tryd.prog ops Q rest (a.put o.dst v') w') : wpList Tryd.prog ops Q (o :: rest) a w := by
  refine wpList_plain hgd fun K hK => ?_
  obtain ⟨v', w', hr, h2, h3, h4⟩ := Jl.run_more w g r0 B hg hB A c L hL hn
  unfold Oper.wp execOp
  simp only [ho, hty, resolve, invoke, builtin, Sem.run_bind, Sem.run_pure, Result.andThen_ok, List.map_toArray, List.map_cons, List.map_nil, hx, hy, hr]
  exact hK _ _ (h v' w' h2 h3 h4)
/-- What a life that came in is like. -/
def Jl.RnFit (W : World) (r : Jl.Rn) : Prop := Jl.Ins W W.heap.size r.A r.l ∧ r.l.length ≤ 4611686018427387904 ∧ (∀ x ∈ r.l, x.c.size ≤ 4611686018427387904) ∧ -9223372036854775808 ≤ r.ct ∧ r.ct < 9223372036854775808
#print axioms Jl.wpList_more
#print axioms Jl.run_more
end Go.Proofs.YthhkebkpophkiaaDoor
/- What stands between the lives of the law JournalPrefix. Conditions: each theorem's own hypotheses. -/
namespace Go.Proofs.YthhkebkpophkiaaDoor
open Go.RowKit
set_option linter.unusedVariables false

/-- A list of one cut that was just made. -/
theorem Jl.cut1 (w : World) (a : ByteArray) (k : Int) (s : UInt8) (t : TypeId) : Dk.Cts (w.alloc (.cells #[.string a, .int .i64 k, .int .u8 s.toNat] t)) (.slice (some ⟨w.heap.size, 0, none⟩) 1 1) [⟨a.data.toList, k, s⟩] := by
  refine .inr ⟨w.heap.size, 0, 1, rfl, by simp, fun i x hi => ?_⟩
  have hb := Blk.new w t #[.string a, .int .i64 k, .int .u8 s.toNat]
  match i with
  | 0 =>
    obtain rfl : _ = x := by simpa using hi
    exact ⟨hb.cell 0, hb.cell 1, hb.cell 2⟩
  | i + 1 => simp at hi
theorem Jl.Rns.kept {w w' : World} {b off : Nat} {L : List Jl.Rn} (H : Jl.Rns w b off L) (h : w'.heap[b]? = w.heap[b]?) : Jl.Rns w' b off L := fun j r hj i u hu => (World.cell?_of_block h).trans (H j r hj i u hu)
theorem Jl.Rns.five {w : World} {b off : Nat} {L : List Jl.Rn} (H : Jl.Rns w b off L) {k : Nat} {r : Jl.Rn} (hr : L[k]? = some r) :
    w.cell? ⟨b, off + (k * 5 + 0), none⟩ = some (.slice r.A r.l.length r.cp) ∧ w.cell? ⟨b, off + (k * 5 + 1), none⟩ = some (.int .i64 r.sy) ∧ w.cell? ⟨b, off + (k * 5 + 2), none⟩ = some (.int .i64 r.ct) ∧ w.cell? ⟨b, off + (k * 5 + 3), none⟩ = some (.int .i64 r.ke) ∧ w.cell? ⟨b, off + (k * 5 + 4), none⟩ = some (.int .u8 r.sp.toNat) :=
  ⟨H k r hr 0 _ rfl, H k r hr 1 _ rfl, H k r hr 2 _ rfl, H k r hr 3 _ rfl, H k r hr 4 _ rfl⟩
theorem Jl.Rns.of_row {w : World} {B : Nat} {v : Value} {L : List Jl.Rn} (h : w.ownsRow B 61 5 v L.length (Jl.rcells L)) (h0 : 0 < L.length) : ∃ g c, v = .slice (some ⟨g, 0, none⟩) L.length c ∧ Jl.Rns w g 0 L ∧ B ≤ g ∧ g < w.heap.size := by
  have hc := fun g (e : v.ownBlock = some g) => World.ownsRow.cells h (g := g) e
  have hl := fun g (e : v.ownBlock = some g) => World.ownsRow.lt h g e
  rcases h.2 with ⟨e1, e2⟩ | ⟨g, cap, cur, rfl, h3, h4, h5⟩
  · omega
  · refine ⟨g, cap, rfl, fun j r hj i u hu => ?_, (hl g rfl).1, (hl g rfl).2⟩
    have := hc g rfl _ _ (Jl.rcells_get L j r i u hj hu)
    rw [Jl.addLit] at this
    exact this
/-- The blocks beside a journal at j, what it told in v. -/
def Jl.KJ (K0 : Nat → Prop) (j : Nat) (v : Value) : Nat → Prop := fun q => K0 q ∨ q = j ∨ v.ownBlock = some q
/-- Ahead of a life. -/
structure Jl.PR (B : Nat) (W0 w9 : World) (d n : Nat) (K0 : Nat → Prop) (k j : Nat) (vh : Value) (us : List Jn.Upd) (m : Dk.M) (J : Jl.Js) (w : World) : Prop where
  st : Jl.St B W0 w d m j J (Jl.KJ K0 j vh)
  kept : Jl.Kept K0 w9 w
  had : Jl.Own w B vh us
  sep : ∀ q, vh.ownBlock = some q → q ≠ j
  row : ∀ q, K0 q → q ≠ j
  ok : Jl.Ok n m J us us.length
  left : m.left = 0
  len : us.length ≤ 60 * k
  one : 1 ≤ k → 1 ≤ us.length
/-- Behind an opening: what was there at most and at least, what was told. -/
structure Jl.P6 (B : Nat) (W0 w9 : World) (d n : Nat) (K0 : Nat → Prop) (j : Nat) (va vs vg : Value) (us sl gt : List Jn.Upd) (m : Dk.M) (w : World) : Prop where
  st : Jl.St B W0 w d m j ⟨m.age, false, Jl.j9, 64, (n : Int) + gt.length, n⟩ (Jl.KJ K0 j vg)
  kept : Jl.Kept K0 w9 w
  all : Jl.Own w B va us
  sure : Jl.Own w B vs sl
  got : Jl.Own w B vg gt
  sep : ∀ q, vg.ownBlock = some q → q ≠ j
  row : ∀ q, K0 q → q ≠ j
theorem Jl.Opened.sep {W W' : World} {d : Nat} {age : Int} {nb : ByteArray} {sq l : Int} {us : List Jn.Upd} {j : Nat} {v : Value} (h : Jl.Opened W W' d age nb sq l us j v) : ∀ q, v.ownBlock = some q → q ≠ j := by
  rintro q e rfl
  obtain ⟨_, hb, ho⟩ := h
  rcases ho.2 with ⟨rfl, _⟩ | ⟨g, cap, cur, rfl, _, h4, _⟩
  · cases e
  · obtain rfl : g = q := Option.some.inj e
    have := h4.symm.trans hb
    injection this with this
    injection this with e1 e2
    exact absurd e2 (by decide)
section
variable {B d n k j s i us0 l : Nat} {ct sy : Int} {W0 w9 w w2 w5 w6 w' : World} {K0 : Nat → Prop} {vh va vs vg : Value} {us sl gt : List Jn.Upd} {m m' m2 : Dk.M} {J J' : Jl.Js}
theorem Jl.Kept.trans2 {K : Nat → Prop} {a b c : World} (h : Jl.Kept K a b) (h' : Jl.Kept K b c) : Jl.Kept K a c := ⟨Nat.le_trans h.1 h'.1, fun k hk => (h'.2 k hk).trans (h.2 k hk)⟩
theorem Jl.P6.later (h : Jl.P6 B W0 w9 d n K0 j va vs vg us sl gt m w) (b : Below w.heap.size w w') : Jl.P6 B W0 w9 d n K0 j va vs vg us sl gt m w' :=
  ⟨h.st.later b, h.kept.trans2 ⟨b.size, fun k hk => b.block k (h.st.sit.lt (.inl hk)).2⟩, Jl.row_grown h.all (Jl.grown_of b), Jl.row_grown h.sure (Jl.grown_of b), Jl.row_grown h.got (Jl.grown_of b), h.sep, h.row⟩
theorem Jl.PR.later (h : Jl.PR B W0 w9 d n K0 k j vh us m J w) (b : Below w.heap.size w w') : Jl.PR B W0 w9 d n K0 k j vh us m J w' :=
  ⟨h.st.later b, h.kept.trans2 ⟨b.size, fun k hk => b.block k (h.st.sit.lt (.inl hk)).2⟩, Jl.row_grown h.had (Jl.grown_of b), h.sep, h.row, h.ok, h.left, h.len, h.one⟩
theorem Jl.P6.of (E : Jl.LE B W0 w d j (Jl.KJ K0 j vh) n us0 l ct sy va vs us s m J w2) (hw : B ≤ w.heap.size) (hj : j < w.heap.size) (hr : ∀ q, K0 q → q ≠ j) (hk0 : Jl.Kept K0 w9 w) (hs : us.take s = sl)
    (hk : Jl.KeptB (fun q => Jl.KJ K0 j vh q ∨ va.ownBlock = some q ∨ vs.ownBlock = some q) j w2 w5) (S5 : Jl.St B W0 w5 d m' j J' (fun q => Jl.KJ K0 j vh q ∨ va.ownBlock = some q ∨ vs.ownBlock = some q)) {j6 : Nat} (hO : Jl.Opened w5 w6 d m2.age Jl.j9 n 64 gt j6 vg)
    (S6 : Jl.Sit B W0 w6 d m2 (fun k => (Jl.KJ K0 j vh k ∨ va.ownBlock = some k ∨ vs.ownBlock = some k) ∨ k = j6 ∨ vg.ownBlock = some k)) (hK6 : Jl.Kept (fun k => Jl.KJ K0 j vh k ∨ va.ownBlock = some k ∨ vs.ownBlock = some k) w5 w6) :
    Jl.P6 B W0 w9 d n K0 j6 va vs vg us sl gt m2 w6 := by
  have hsep := hO.sep
  obtain ⟨o1, o2, o3⟩ := hO
  have hz := E.kept.1
  have hz5 := hk.1
  refine ⟨⟨S6.sub ?_, o2, .inr (.inl rfl)⟩, ?_, ?_, ?_, o3.more (by omega), hsep, fun q hq => ?_⟩
  · rintro q (hq | rfl | hq)
    · exact .inl (.inl (.inl hq))
    · exact .inr (.inl rfl)
    · exact .inr (.inr hq)
  · refine ⟨by have := hk0.1; have := hK6.1; omega, fun q hq => ?_⟩
    exact (hK6.2 q (.inl (.inl hq))).trans ((hk.2 q (.inl (.inl hq)) (hr q hq)).trans ((E.kept.2 q (.inl hq) (hr q hq)).trans (hk0.2 q hq)))
  · exact (E.all.more hw).keep fun q e => (hK6.2 q (.inr (.inl e))).trans (hk.2 q (.inr (.inl e)) (by have := (E.all.lt e).1; omega))
  · rw [← hs]
    exact (E.sure.more hw).keep fun q e => (hK6.2 q (.inr (.inr e))).trans (hk.2 q (.inr (.inr e)) (by have := (E.sure.lt e).1; omega))
  · have := (S5.sit.lt (.inl (.inl hq))).2
    omega
theorem Jl.PR.of (P : Jl.P6 B W0 w9 d n K0 j va vs vg us sl gt m w5) (ha : Jl.Aft n m gt []) {j6 : Nat} {vn : Value} (hO : Jl.Opened w5 w6 d m.age Jl.j9 n 64 gt j6 vn) (S6 : Jl.Sit B W0 w6 d m (fun k => Jl.KJ K0 j vg k ∨ k = j6 ∨ vn.ownBlock = some k)) (hK6 : Jl.Kept (Jl.KJ K0 j vg) w5 w6)
    (hlen : gt.length ≤ 60 * k) (hone : 1 ≤ gt.length) : Jl.PR B W0 w9 d n K0 k j6 vn gt m ⟨m.age, false, Jl.j9, 64, (n : Int) + gt.length, n⟩ w6 ∧ Jl.Own w6 B vg gt := by
  have hsep := hO.sep
  obtain ⟨o1, o2, o3⟩ := hO
  have hz := P.st.sit.size
  refine ⟨⟨⟨S6.sub ?_, o2, .inr (.inl rfl)⟩, ?_, o3.more hz, hsep, fun q hq => ?_, ha.ok, ha.left, hlen, fun _ => hone⟩, P.got.kept hK6 fun q e => .inr (.inr e)⟩
  · rintro q (hq | rfl | hq)
    · exact .inl (.inl hq)
    · exact .inr (.inl rfl)
    · exact .inr (.inr hq)
  · exact P.kept.trans2 ⟨hK6.1, fun q hq => hK6.2 q (.inl hq)⟩
  · have := (P.st.sit.lt (.inl hq)).2
    omega
end
theorem Jl.two_alloc {W : World} {p q : Addr} {u v : Value} (o : Obj) (h : W.cell? p = some u ∧ W.cell? q = some v) : (W.alloc o).cell? p = some u ∧ (W.alloc o).cell? q = some v :=
  ⟨(World.cell?_alloc_some W p o (by rw [h.1]; rfl)).trans h.1, (World.cell?_alloc_some W q o (by rw [h.2]; rfl)).trans h.2⟩
theorem Jl.two_drew {W : World} {p q : Addr} {u v : Value} (h : W.cell? p = some u ∧ W.cell? q = some v) : W.drew.cell? p = some u ∧ W.drew.cell? q = some v := h
/-- The law's own first life. -/
def Jl.r0 (g : Nat) : Jl.Rn := ⟨some ⟨g, 0, none⟩, [⟨0, 0, 0, ⟨#[]⟩⟩], 1, 1, 0, 0, 0⟩
/-- A world with its two literals. -/
def Jl.lit2 (w : World) : World := (w.alloc (.cells #[.int .i64 0, .int .i64 0, .int .i64 0, .string ⟨#[]⟩] 39)).alloc (.cells (Jl.r0 w.heap.size).cells.toArray 61)
theorem Jl.lit2_below (w : World) : Below w.heap.size w (Jl.lit2 w) := ((Below.refl _ _).alloc (Nat.le_refl _) _).alloc (by simp) _
theorem Jl.lit2_size (w : World) : (Jl.lit2 w).heap.size = w.heap.size + 2 := by unfold Jl.lit2; simp
theorem Jl.PR.start {B n d j : Nat} {W0 w2 w9 : World} {m : Dk.M} {J : Jl.Js} {L : List Jl.Rn} {vl : Value} (h : Jl.St B W0 w2 d m j J (fun k => False ∨ k = j)) (ok : Jl.Ok n m J [] 0) (hleft : m.left = 0)
    (hrow : w9.ownsRow B 61 5 vl (1 + L.length) (Jl.rcells (Jl.r0 w2.heap.size :: L))) (hgr : (Jl.lit2 w2).grownBy w9 (some (w2.heap.size + 1))) (hat : vl.ownBlock = some (w2.heap.size + 1) ∨ vl.ownBlock = some (Jl.lit2 w2).heap.size) (HI : ∀ r ∈ L, Jl.RnFit W0 r) (hB : W0.heap.size = B) :
    ∃ (LL : List Jl.Rn) (K0 : Nat → Prop) (gl cl : Nat), vl = .slice (some ⟨gl, 0, none⟩) LL.length cl ∧ K0 gl ∧ Jl.Rns w9 gl 0 LL ∧ 1 ≤ LL.length ∧ LL.length = 1 + L.length ∧ (∀ r, LL[0]? = some r → r.sy = 1 ∧ r.ct = 0 ∧ r.l.length = 1) ∧ Jl.PR B W0 w9 d n K0 0 j (.slice none 0 0) [] m J w9 ∧
      ∀ r ∈ LL, (∀ {w' : World}, Below B W0 w' → Jl.Kept K0 w9 w' → Jl.Lst w' r.A r.l) ∧ r.l.length ≤ 4611686018427387904 ∧ (∀ x ∈ r.l, x.c.size ≤ 4611686018427387904) ∧ -9223372036854775808 ≤ r.ct ∧ r.ct < 9223372036854775808 := by
  rw [show 1 + L.length = (Jl.r0 w2.heap.size :: L).length by simp; omega] at hrow
  obtain ⟨gl, cl, rfl, hR, hgl, hgl2⟩ := Jl.Rns.of_row hrow (by simp)
  have hb2 := Jl.lit2_below w2
  have hsz2 := Jl.lit2_size w2
  have hs9 := hgr.size
  have hj := h.blk.lt
  have hgl3 : w2.heap.size + 1 ≤ gl := by
    rcases hat with e | e
    · rw [← Option.some.inj e]; exact Nat.le_refl _
    · have e2 : gl = _ := Option.some.inj e
      omega
  have hX : Dk.Only (fun k => k = w2.heap.size + 1) (Jl.lit2 w2) w9 := (Dk.Only.refl _ _).grown hgr fun k e => .inl (Option.some.inj e).symm
  have S9 := (h.sit.grow hb2).only hX fun k e => .inr ⟨by omega, by omega⟩
  have hu : Blk (Jl.lit2 w2) w2.heap.size 39 #[.int .i64 0, .int .i64 0, .int .i64 0, .string ⟨#[]⟩] := by
    have := (Blk.new w2 39 #[.int .i64 0, .int .i64 0, .int .i64 0, .string ⟨#[]⟩]).alloc (.cells (Jl.r0 w2.heap.size).cells.toArray 61)
    exact this
  have hu9 : Blk w9 w2.heap.size 39 #[.int .i64 0, .int .i64 0, .int .i64 0, .string ⟨#[]⟩] := (hgr.block _ hu.lt (fun e => by have := Option.some.inj e; omega)).trans hu
  have hj9 : w9.heap[j]? = w2.heap[j]? := (hgr.block j (by omega) (fun e => by have := Option.some.inj e; omega)).trans (hb2.block j hj)
  refine ⟨Jl.r0 w2.heap.size :: L, fun q => q = w2.heap.size ∨ q = gl, gl, cl, rfl, .inr rfl, hR, by simp, by simp; omega, fun r hr => ?_, ⟨⟨S9.sub ?_, hj9.trans h.blk, .inr (.inl rfl)⟩, ⟨Nat.le_refl _, fun _ _ => rfl⟩, Jl.Own.nil _ _, (fun q e => by cases e), fun q hq => ?_, ok, hleft, Nat.zero_le _, fun h => by omega⟩, fun r hr => ?_⟩
  · obtain rfl : Jl.r0 w2.heap.size = r := by simpa using hr
    exact ⟨rfl, rfl, rfl⟩
  · rintro q ((rfl | rfl) | rfl | e)
    · exact .inl (.inr ⟨Nat.le_refl _, by omega⟩)
    · by_cases hq : q < (Jl.lit2 w2).heap.size
      · exact .inl (.inr ⟨by omega, hq⟩)
      · exact .inr ⟨by omega, hgl2⟩
    · exact .inl (.inl (.inr rfl))
    · cases e
  · rcases hq with rfl | rfl <;> omega
  · rcases List.mem_cons.1 hr with rfl | hr
    · refine ⟨fun {w'} hB' hK => fun _ => ⟨w2.heap.size, 0, rfl, fun i x hi => ?_⟩, by show 1 ≤ _; decide, fun x hx => ?_, by show _ ≤ (0 : Int); decide, by show (0 : Int) < _; decide⟩
      · have hw' : Blk w' w2.heap.size 39 #[.int .i64 0, .int .i64 0, .int .i64 0, .string ⟨#[]⟩] := (hK.2 _ (.inl rfl)).trans hu9
        match i with
        | 0 =>
          obtain rfl : _ = x := by simpa [Jl.r0] using hi
          exact ⟨hw'.cell 0, hw'.cell 1, hw'.cell 2, hw'.cell 3⟩
        | i + 1 => simp [Jl.r0] at hi
      · obtain rfl : x = ⟨0, 0, 0, ⟨#[]⟩⟩ := by simpa [Jl.r0] using hx
        decide
    · obtain ⟨a, b, c, e, f⟩ := HI r hr
      refine ⟨fun {w'} hB' hK => fun h0 => ?_, b, c, e, f⟩
      subst hB
      obtain ⟨g, off, q1, q2, q3⟩ := a.below hB' h0
      exact ⟨g, off, q1, q3⟩
/-- An append of one under a guard that holds. -/
theorem Jl.wpList_add {w : World} {ops : Array Oper} {rest : List Oper} {o : Oper} {a : Act} {Q : Exit → Act → World → Prop} (s x : Operand)
    (ho : o.op = .call { callee := .builtin .append, args := #[s, x], argTypes := #[32, 32] }) (hw : Region.wanted o (yielded ops a.tmps) = true)
    (v : Value) (us : List Jn.Upd) (B : Nat) (hs : a.eval s = v) (hown : Jl.Own w B v us) (g : Nat) (u : Jn.Upd) (C : ByteArray) (hC : str u.code = .string C) (hx : a.eval x = .slice (some ⟨g, 0, none⟩) 1 1)
    (hg : Blk w g 39 #[.int .i64 u.seq, .int .i64 u.kind, .int .i64 u.id, .string C]) (hn : us.length ≤ 1000) (hB : B ≤ w.heap.size)
    (h : ∀ g' cap w', Jl.Own w' B (.slice (some ⟨g', 0, none⟩) (us.length + 1) cap) (us ++ [u]) → w.grownBy w' v.ownBlock → wpList Tryd.prog ops Q rest (a.put o.dst (.slice (some ⟨g', 0, none⟩) (us.length + 1) cap)) w') : wpList Tryd.prog ops Q (o :: rest) a w := by
  obtain ⟨i0, hi, hz0i, hz1i, hz2i⟩ := info_parts infoUpd
  refine wpList_step fun K hK => ?_
  rw [if_pos hw]
  refine wp_append_lies w s x 32 ho B 39 i0 (.agg #[.int .i64 0, .int .i64 0, .int .i64 0, .string ⟨#[]⟩]) 4 40 Tryd.underlying32 hi hz0i hz1i hz2i rfl (by decide) v us.length (Jl.cells us) hs hown ⟨g, 0, none⟩ 1 1 [.int .i64 u.seq, .int .i64 u.kind, .int .i64 u.id, .string C] hx rfl (Jl.news hg) (by simp [Value.oneCell']) (by decide) (by unfold maxLen; omega) (by omega) hB _ rfl fun g' cap w' h2 h3 h4 h5 => hK _ _ (h g' cap w' ?_ h3)
  unfold Jl.Own
  rw [Jl.cells_snoc, Jl.four_p u C hC, List.length_append]
  exact h2
#print axioms Jl.wpList_add
#print axioms Jl.PR.of
#print axioms Jl.PR.start
#print axioms Jl.P6.of
#print axioms Jl.P6.later
end Go.Proofs.YthhkebkpophkiaaDoor
