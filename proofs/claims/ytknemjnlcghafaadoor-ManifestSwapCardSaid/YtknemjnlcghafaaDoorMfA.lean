/- Manifests: options. Contracts of optioned and of the document's Opts. Conditions: each theorem's own hypotheses. -/
import Derived.Test.YtknemjnlcghafaaDoorProg
import Derived.WalkKit
import Derived.Lib.Hide
import Derived.Below
import Derived.IntWalk
import Derived.Deep.Light
import Derived.Test.YtknemjnlcghafaaDoorMem
import Derived.Deep.QuietTactic
import Derived.BigQuiet
namespace Go.Proofs.YtknemjnlcghafaaDoor
open Go.RowKit
set_option linter.unusedVariables false

/-- Why options do not go. -/
def Mf.opts (w c m : Int) : Nat :=
  if w < 64 ∨ 1024 < w ∨ ¬ w % 64 = 0 then 10
  else if ¬ m = 1 ∧ ¬ m = 2 then 81
  else if m = 2 ∧ ¬ c = 0 then 12
  else if m = 1 ∧ (c < w / 32 ∨ w / 8 < c) then 12
  else 0

set_option maxRecDepth 100000 in
set_option maxHeartbeats 1000000 in
theorem optioned_any (w c m : Int) (hw : -9223372036854775808 ≤ w ∧ w ≤ 9223372036854775807) (n : Nat) (hn : Mf.opts w c m = n) (W : World) :
    Calls Tryd.prog 33 #[.agg #[.int .i64 w, .int .i64 c, .int .i64 m]] W fun e W' => e = .returned (.int .i64 n) ∧ Below W.heap.size W W' := by
  have HN := Lib.hid hn
  clear hn
  go_enter Tryd.func33, Tryd.ntmps33
  go_wp2_with fail
  all_goals
    go_ret
    refine ⟨congrArg (fun z : Int => Ending.returned (Value.int .i64 z)) ?_, (Below.refl _ _).alloc (Nat.le_refl _) _⟩
    go_light
    have hn := HN.out
    clear HN
    unfold Mf.opts at hn
    try simp only [bne_iff_ne, bne_eq_false_iff_eq, ne_eq] at *
    (repeat' split at hn) <;> omega

end Go.Proofs.YtknemjnlcghafaaDoor
/- Manifests: runs; contracts of standing and of the document's run. Conditions: each theorem's own hypotheses. -/
namespace Go.Proofs.YtknemjnlcghafaaDoor
open Go.RowKit Go.Maps
set_option linter.unusedVariables false

/-- A run. -/
structure Run where
  num : Int
  lo : Int
  hi : Int
  cnt : Int
/-- The slice's cells are these runs, below block B. -/
def Rs (W : World) (B : Nat) (A : Option Addr) (rs : List Run) : Prop :=
  0 < rs.length → ∃ b off, A = some ⟨b, off, none⟩ ∧ b < B ∧ ∀ j r, rs[j]? = some r →
    W.cell? ⟨b, off + j * 4, none⟩ = some (.int .i64 r.num) ∧ W.cell? ⟨b, off + j * 4 + 1, none⟩ = some (.int .i64 r.lo) ∧ W.cell? ⟨b, off + j * 4 + 2, none⟩ = some (.int .i64 r.hi) ∧ W.cell? ⟨b, off + j * 4 + 3, none⟩ = some (.int .i64 r.cnt)
theorem Rs.at_ {W : World} {B : Nat} {A : Option Addr} {rs : List Run} (H : Rs W B A rs) {k : Nat} (hk : k < rs.length) : ∃ b off r, A = some ⟨b, off, none⟩ ∧ b < B ∧ rs[k]? = some r ∧
    W.cell? ⟨b, off + k * 4, none⟩ = some (.int .i64 r.num) ∧ W.cell? ⟨b, off + k * 4 + 1, none⟩ = some (.int .i64 r.lo) ∧ W.cell? ⟨b, off + k * 4 + 2, none⟩ = some (.int .i64 r.hi) ∧ W.cell? ⟨b, off + k * 4 + 3, none⟩ = some (.int .i64 r.cnt) := by
  obtain ⟨b, off, hA, hb, hc⟩ := H (by omega)
  obtain ⟨h0, h1, h2, h3⟩ := hc k rs[k] (List.getElem?_eq_getElem hk)
  exact ⟨b, off, rs[k], hA, hb, List.getElem?_eq_getElem hk, h0, h1, h2, h3⟩
theorem Rs.keep {W W' : World} {B : Nat} {A : Option Addr} {rs : List Run} (H : Rs W B A rs) (hk : ∀ p : Addr, p.block < B → W'.cell? p = W.cell? p) : Rs W' B A rs := by
  intro h0
  obtain ⟨b, off, hA, hb, hc⟩ := H h0
  refine ⟨b, off, hA, hb, fun j h hj => ?_⟩
  obtain ⟨h0, h1, h2, h3⟩ := hc j h hj
  exact ⟨(hk _ hb).trans h0, (hk _ hb).trans h1, (hk _ hb).trans h2, (hk _ hb).trans h3⟩
theorem Rs.below {W W' : World} {B : Nat} {A : Option Addr} {rs : List Run} (H : Rs W B A rs) (hb : Below B W W') : Rs W' B A rs := H.keep fun _ hp => hb.cell hp
theorem Rs.more {W : World} {B B' : Nat} {A : Option Addr} {rs : List Run} (H : Rs W B A rs) (hB : B ≤ B') : Rs W B' A rs := by
  intro h0
  obtain ⟨b, off, hA, hb, hc⟩ := H h0
  exact ⟨b, off, hA, by omega, hc⟩

/-- A manifest but for where its list lies. -/
structure Man where
  w : Int
  c : Int
  m : Int
  seq : Int
  next : Int
  jr : Int
  runs : List Run
def manV (M : Man) (A : Option Addr) (cap : Nat) : Value := .agg #[.int .i64 M.w, .int .i64 M.c, .int .i64 M.m, .int .i64 M.seq, .int .i64 M.next, .int .i64 M.jr, .slice A M.runs.length cap]

def Mf.inB (n lo hi : Int) : Bool := decide (lo ≤ n ∧ n ≤ hi)
theorem within_any (n lo hi : Int) (W : World) :
    Calls Tryd.prog 35 #[.int .i64 n, .int .i64 lo, .int .i64 hi] W fun e W' => e = .returned (.bool (Mf.inB n lo hi)) ∧ W = W' := by
  obtain ⟨R, hR⟩ : ∃ R, Mf.inB n lo hi = R := ⟨_, rfl⟩
  have HR := Lib.hid hR
  rw [hR]
  clear hR
  go_enter Tryd.func35, Tryd.ntmps35
  go_wp2_with fail
  all_goals
    go_ret
    refine ⟨congrArg (fun z : Bool => Ending.returned (Value.bool z)) ?_, rfl⟩
    rw [← HR.out]
    unfold Mf.inB
    go_light
    simp; try omega

/-- The numbers that are taken ahead of place k; where the last run ends. -/
def Mf.used (M : Man) (k : Nat) : List Int := M.jr :: (M.runs.take k).map (·.num)
def Mf.last (M : Man) : Nat → Int
  | 0 => 0
  | k + 1 => match M.runs[k]? with | some r => r.hi | none => 0
/-- Does the run at place k go? -/
def Mf.OkAt (M : Man) (k : Nat) (r : Run) : Prop :=
  (Mf.used M k).contains r.num = false ∧ Mf.inB r.num 1 (M.next - 1) = true ∧ Mf.inB r.cnt 1 2097152 = true ∧ Mf.last M k ≤ r.lo ∧ r.lo < r.hi ∧ r.hi ≤ M.seq
def Mf.OkTo (M : Man) (k : Nat) : Prop := ∀ j r, j < k → M.runs[j]? = some r → Mf.OkAt M j r
def Mf.Stand (M : Man) : Prop := Mf.OkTo M M.runs.length
theorem Mf.used_succ (M : Man) (k : Nat) (r : Run) (h : M.runs[k]? = some r) : Mf.used M (k + 1) = Mf.used M k ++ [r.num] := by
  unfold Mf.used
  rw [List.take_add_one, h, List.map_append]; rfl

theorem Mf.bad {M : Man} {R : Bool} (h : Mf.Stand M ↔ R = true) {k : Nat} {r : Run} (hk : k < M.runs.length) (hj : M.runs[k]? = some r) (hn : ¬ Mf.OkAt M k r) : R = false := by
  cases R with
  | false => rfl
  | true => exact absurd (h.2 rfl k r hk hj) hn

/-- Behind k rounds all k runs go. -/
def StRel (M : Man) (A : Option Addr) (cap : Nat) (w : World) (l i : Value) (wr : World) : Prop :=
  ∃ k : Nat, k ≤ M.runs.length ∧ i = .int .i64 k ∧ l = .int .i64 (Mf.last M k) ∧ Mf.OkTo M k ∧ wr.ownsMap Tryd.prog 3 unitElem (w.heap.size + 1) (k + 1) (setL (Mf.used M k)) ∧
    Blk wr w.heap.size 26 #[.int .i64 M.w, .int .i64 M.c, .int .i64 M.m, .int .i64 M.seq, .int .i64 M.next, .int .i64 M.jr, .slice A M.runs.length cap] ∧ Below w.heap.size w wr

theorem zeroNone (w : World) : (zeroValue 105).run Tryd.prog w = .ok (.agg #[]) w := by kernel_rfl

set_option maxRecDepth 100000 in
set_option maxHeartbeats 2000000 in
theorem standing_any (M : Man) (A : Option Addr) (cap : Nat) (w : World) (HR : Rs w w.heap.size A M.runs) (hl : M.runs.length ≤ 24) (hn1 : 2 ≤ M.next) (hn2 : M.next ≤ 1099511627776)
    (hj : (Lit.int .i64 M.jr).wf = true) (hwf : ∀ r ∈ M.runs, (Lit.int .i64 r.num).wf = true) (R : Bool) (hR : Mf.Stand M ↔ R = true) :
    Calls Tryd.prog 40 #[manV M A cap] w fun e w' => e = .returned (.bool R) ∧ Below w.heap.size w w' := by
  have HRR := Lib.hid hR
  clear hR
  have hmm := @run_makeMap Tryd.prog
  have hkj : keyOf Tryd.prog 3 (.int .i64 M.jr) = some (.int .i64 M.jr) := keyOf_int_mk Tryd.underlying3 hj
  have HKJ := Lib.hid hkj
  clear hkj hj
  unfold manV
  go_enter Tryd.func40, Tryd.ntmps40
  have h0 := World.ownsMap_made (H := Unit) (w.alloc (.cells #[.int .i64 M.w, .int .i64 M.c, .int .i64 M.m, .int .i64 M.seq, .int .i64 M.next, .int .i64 M.jr, .slice A M.runs.length cap] 26)) Tryd.prog 3 unitElem
  rw [World.size_alloc] at h0
  have hb0 := (Blk.new w 26 #[.int .i64 M.w, .int .i64 M.c, .int .i64 M.m, .int .i64 M.seq, .int .i64 M.next, .int .i64 M.jr, .slice A M.runs.length cap]).alloc (.map #[] 0)
  go_wp2_with (refine wpList_insert_own _ rfl _ _ _ 106 rfl 3 105 intKey Tryd.underlying106 (unitElem (H := Unit)) (w.heap.size + 1) 0 _ rfl h0 (by unfold maxLen; omega) _ _ _ rfl rfl HKJ.out _ [] unitElem_mk ?_; intro w1 hown1 hgrow1; have hb1 := hb0.grown hgrow1 (by simp); have c6 : w1.cell? ⟨w.heap.size, 6, none⟩ = some (.slice A M.runs.length cap) := hb1.cell 6)
  have B1 : Below w.heap.size w w1 := (((Below.refl _ _).alloc (Nat.le_refl _) _).alloc (by simp) _).grown hgrow1 (by simp; omega) (fun j e => by cases e; exact Nat.le_succ _)
  go_loopw [4, 17] (fun l i wr => StRel M A cap w l i wr) (fun _ i _ => M.runs.length - (intOf i).toNat)
  case atStart => exact ⟨0, Nat.zero_le _, rfl, rfl, fun j r hj => by omega, hown1, hb1, B1⟩
  case round =>
    obtain ⟨k, hk, rfl, rfl, hok, hown, hb, hB⟩ := hrel
    have HOK := Lib.hid hok
    clear hok hown1 hgrow1 hb1 c6 B1
    by_cases hlt : k < M.runs.length
    · obtain ⟨b, off, r, rfl, hbb, hj, e0, e1, e2, e3⟩ := (HR.below hB).at_ hlt
      have hus := Mf.used_succ M k r hj
      have hkey : keyOf Tryd.prog 3 (.int .i64 r.num) = some (.int .i64 r.num) := keyOf_int_mk Tryd.underlying3 (hwf r (List.mem_iff_getElem?.2 ⟨k, hj⟩))
      have hhas := has_setL (Mf.used M k) r.num
      obtain ⟨T, hT⟩ : ∃ T, (Mf.used M k).contains r.num = T := ⟨_, rfl⟩
      rw [hT] at hhas
      have HT := Lib.hid hT
      have HU := Lib.hid hus
      have HK := Lib.hid hkey
      have HH := Lib.hid hhas
      have HJ := Lib.hid hj
      clear hT hus hkey hhas hj
      have n4 : ∀ o o' : Obj, ((wr.alloc o).alloc o').cell? ⟨w.heap.size, 4, none⟩ = some (.int .i64 M.next) := fun o o' => ((hb.alloc o).alloc o').cell 4
      have n3 : ∀ o o' : Obj, ((wr.alloc o).alloc o').cell? ⟨w.heap.size, 3, none⟩ = some (.int .i64 M.seq) := fun o o' => ((hb.alloc o).alloc o').cell 3
      have hml := hown.lt
      have q2 : ∀ o' : Obj, ((wr.alloc (.cells #[.int .i64 r.num, .int .i64 r.lo, .int .i64 r.hi, .int .i64 r.cnt] 54)).alloc o').cell? ⟨wr.heap.size, 2, none⟩ = some (.int .i64 r.hi) := fun o' => ((Blk.new wr _ _).alloc o').cell 2
      obtain ⟨L, hL⟩ : ∃ L, Mf.last M k = L := ⟨_, rfl⟩
      rw [hL]
      have HL := Lib.hid hL
      clear hL
      cases T with
      | true =>
        go_wp2_with (at_lookup; refine wpList_lookup_own_unit _ rfl _ _ 106 rfl 3 105 intKey Tryd.underlying106 (zeroNone _) (w.heap.size + 1) (k + 1) _ rfl (hown.alloc _) _ _ rfl HK.out ?_; rw [HH.out])
        have hr : R = false := Mf.bad HRR.out hlt HJ.out fun h => by have := HT.out.symm.trans h.1; exact absurd this (by decide)
        go_ret
        exact ⟨congrArg (fun z : Bool => Ending.returned (Value.bool z)) hr.symm, (hB.alloc hB.size _).alloc (by have := hB.size; simp; omega) _⟩
      | false =>
        go_wp2_with (first
          | (at_lookup; refine wpList_lookup_own_unit _ rfl _ _ 106 rfl 3 105 intKey Tryd.underlying106 (zeroNone _) (w.heap.size + 1) (k + 1) _ rfl (hown.alloc _) _ _ rfl HK.out ?_; rw [HH.out])
          | (go_at_call 35; refine (within_any _ _ _ _).mono ?_; rintro e w' ⟨rfl, rfl⟩)
          | (at_mapUpdate; refine wpList_mapUpdate_own _ rfl _ _ _ 106 rfl 3 105 intKey Tryd.underlying106 (unitElem (H := Unit)) (w.heap.size + 1) (k + 1) _ rfl ((hown.alloc _).alloc _) (by unfold maxLen; omega) _ _ _ rfl rfl HK.out _ [] unitElem_mk ?_; intro w1 hown1 hgrow1; have p2 : w1.cell? ⟨wr.heap.size, 2, none⟩ = some (.int .i64 r.hi) := hgrow1.cell (q2 _) (by simp; omega)))
        rotate_left
        · have h1 : Mf.inB r.num 1 (M.next - 1) = true := by assumption
          have h2 : Mf.inB r.cnt 1 2097152 = true := by assumption
          have h3 : (L ≤ r.lo ∧ r.lo < r.hi) ∧ r.hi ≤ M.seq := by assumption
          go_roundw
          case rel =>
            refine ⟨k + 1, by omega, by go_num, ?_, ?_, ?_, ((hb.alloc _).alloc _).grown hgrow1 (by simp), ((hB.alloc hB.size _).alloc (by have := hB.size; simp; omega) _).grown hgrow1 (by have := hB.size; simp; omega) (fun j e => by cases e; exact Nat.le_succ _)⟩
            · simp [Mf.last, HJ.out]
            · intro j x hj hx
              by_cases e : j = k
              · subst e
                obtain rfl := Option.some.inj (HJ.out.symm.trans hx)
                exact ⟨HT.out, h1, h2, by rw [HL.out]; exact h3.1.1, h3.1.2, h3.2⟩
              · exact HOK.out j x (by omega) hx
            · rw [HU.out, setL_snoc]; exact hown1
          case measure => simp [intOf]; omega
        all_goals
          have hr : R = false := Mf.bad HRR.out hlt HJ.out fun h => by
            obtain ⟨_, o2, o3, o4, o5, o6⟩ := h
            rw [HL.out] at o4
            first
              | exact absurd o2 (by assumption)
              | exact absurd o3 (by assumption)
              | (go_light; omega)
          go_ret
          exact ⟨congrArg (fun z : Bool => Ending.returned (Value.bool z)) hr.symm, (hB.alloc hB.size _).alloc (by have := hB.size; simp; omega) _⟩
    · obtain rfl : k = M.runs.length := by omega
      have hr : R = true := HRR.out.1 HOK.out
      subst hr
      go_wp2_with fail
      go_ret
      exact ⟨rfl, hB⟩
end Go.Proofs.YtknemjnlcghafaaDoor
/- Manifests: contract of the document's run. Conditions: each theorem's own hypotheses. -/
namespace Go.Proofs.YtknemjnlcghafaaDoor
open Go.RowKit Go.Maps
set_option linter.unusedVariables false

/-- None of the first j runs has this number. -/
def Mf.NoneTo (M : Man) (j : Nat) (x : Int) : Prop := ∀ i s, i < j → M.runs[i]? = some s → s.num ≠ x
theorem Mf.used_iff (M : Man) (k : Nat) (x : Int) : (Mf.used M k).contains x = false ↔ x ≠ M.jr ∧ Mf.NoneTo M k x := by
  unfold Mf.used
  rw [List.contains_cons, Bool.or_eq_false_iff, beq_eq_false_iff_ne]
  refine and_congr Iff.rfl ?_
  rw [← Bool.not_eq_true, List.contains_iff_mem]
  constructor
  · intro h i s hi hs e
    apply h
    rw [List.mem_map]
    exact ⟨s, List.mem_iff_getElem?.2 ⟨i, by rw [List.getElem?_take, if_pos hi]; exact hs⟩, e⟩
  · intro h hm
    obtain ⟨s, hs, e⟩ := List.mem_map.1 hm
    obtain ⟨i, hi⟩ := List.mem_iff_getElem?.1 hs
    rw [List.getElem?_take] at hi
    by_cases hlt : i < k
    · rw [if_pos hlt] at hi; exact h i s hlt hi e
    · rw [if_neg hlt] at hi; cases hi

theorem Mf.bad' {p : Prop} {R : Bool} (h : p ↔ R = true) (hn : ¬ p) : R = false := by
  cases R with
  | false => rfl
  | true => exact absurd (h.2 rfl) hn

/-- The document's look at what is ahead. -/
def RunRel (M : Man) (A : Option Addr) (cap k : Nat) (r : Run) (w : World) (l i : Value) (wr : World) : Prop :=
  ∃ j : Nat, j ≤ k ∧ i = .int .i64 j ∧ l = .int .i64 (Mf.last M j) ∧ Mf.NoneTo M j r.num ∧
    Blk wr w.heap.size 26 #[.int .i64 M.w, .int .i64 M.c, .int .i64 M.m, .int .i64 M.seq, .int .i64 M.next, .int .i64 M.jr, .slice A M.runs.length cap] ∧
    Blk wr (w.heap.size + 1) 54 #[.int .i64 r.num, .int .i64 r.lo, .int .i64 r.hi, .int .i64 r.cnt] ∧ Below w.heap.size w wr

end Go.Proofs.YtknemjnlcghafaaDoor
/- Manifests: contracts of both Checks. Conditions: each theorem's own hypotheses. -/
namespace Go.Proofs.YtknemjnlcghafaaDoor
open Go.RowKit Go.Maps
set_option linter.unusedVariables false

/-- Do the numbers ahead of the list go? -/
def Mf.Front (M : Man) : Prop := 0 ≤ M.seq ∧ M.seq ≤ 1152921504606846976 ∧ 2 ≤ M.next ∧ M.next ≤ 1099511627776 ∧ 1 ≤ M.jr ∧ M.jr < M.next ∧ M.runs.length ≤ 24
open Classical in
/-- Why a manifest does not go. -/
noncomputable def Mf.check (M : Man) : Nat := if ¬ Mf.opts M.w M.c M.m = 0 then Mf.opts M.w M.c M.m else if Mf.Front M ∧ Mf.Stand M then 0 else 80

/-- What a manifest's numbers are. -/
structure Mf.Fit (M : Man) : Prop where
  w : -9223372036854775808 ≤ M.w ∧ M.w ≤ 9223372036854775807
  jr : (Lit.int .i64 M.jr).wf = true
  runs : ∀ r ∈ M.runs, (Lit.int .i64 r.num).wf = true
  len : M.runs.length ≤ 4398046511104

/-- Behind k rounds all k runs go. -/
def CkRel (M : Man) (A : Option Addr) (cap : Nat) (w : World) (i : Value) (wr : World) : Prop :=
  ∃ k : Nat, k ≤ M.runs.length ∧ i = .int .i64 k ∧ Mf.OkTo M k ∧
    Blk wr w.heap.size 26 #[.int .i64 M.w, .int .i64 M.c, .int .i64 M.m, .int .i64 M.seq, .int .i64 M.next, .int .i64 M.jr, .slice A M.runs.length cap] ∧ Below w.heap.size w wr

end Go.Proofs.YtknemjnlcghafaaDoor
