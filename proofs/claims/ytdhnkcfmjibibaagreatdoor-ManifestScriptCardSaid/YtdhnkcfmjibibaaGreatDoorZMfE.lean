/- Manifests: options. Contracts of optioned and of the document's Opts. Conditions: each theorem's own hypotheses. -/
import Derived.Test.YtdhnkcfmjibibaaGreatDoorProg
import Derived.WalkKit
import Derived.Lib.Hide
import Derived.Below
import Derived.IntWalk
import Derived.Deep.Light
import Derived.Test.YtdhnkcfmjibibaaGreatDoorMem
import Derived.Deep.QuietTactic
import Derived.BigQuiet
namespace Go.Proofs.YtdhnkcfmjibibaaGreatDoor
open Go.RowKit
set_option linter.unusedVariables false

/-- Why options do not go. -/
def Mf.opts (w c m : Int) : Nat :=
  if w < 64 ∨ 1024 < w ∨ ¬ w % 64 = 0 then 10
  else if ¬ m = 1 ∧ ¬ m = 2 then 81
  else if m = 2 ∧ ¬ c = 0 then 12
  else if m = 1 ∧ (c < w / 32 ∨ w / 8 < c) then 12
  else 0

set_option maxRecDepth 100000 in
set_option maxHeartbeats 1000000 in
theorem optioned_any (w c m : Int) (hw : -9223372036854775808 ≤ w ∧ w ≤ 9223372036854775807) (n : Nat) (hn : Mf.opts w c m = n) (W : World) :
    Calls Tryz.prog 79 #[.agg #[.int .i64 w, .int .i64 c, .int .i64 m]] W fun e W' => e = .returned (.int .i64 n) ∧ Below W.heap.size W W' := by
  have HN := Lib.hid hn
  clear hn
  go_enter Tryz.func79, Tryz.ntmps79
  go_wp2_with fail
  all_goals
    go_ret
    refine ⟨congrArg (fun z : Int => Ending.returned (Value.int .i64 z)) ?_, (Below.refl _ _).alloc (Nat.le_refl _) _⟩
    go_light
    have hn := HN.out
    clear HN
    unfold Mf.opts at hn
    try simp only [bne_iff_ne, bne_eq_false_iff_eq, ne_eq] at *
    (repeat' split at hn) <;> omega

set_option maxRecDepth 100000 in
set_option maxHeartbeats 1000000 in
theorem refOpts_any (w c m : Int) (hw : -9223372036854775808 ≤ w ∧ w ≤ 9223372036854775807) (n : Nat) (hn : Mf.opts w c m = n) (W : World) :
    Calls Tryz.prog 90 #[.agg #[.int .i64 w, .int .i64 c, .int .i64 m]] W fun e W' => e = .returned (.int .i64 n) ∧ Below W.heap.size W W' := by
  have HN := Lib.hid hn
  clear hn
  go_enter Tryz.func90, Tryz.ntmps90
  go_wp2_with fail
  all_goals
    go_ret
    refine ⟨congrArg (fun z : Int => Ending.returned (Value.int .i64 z)) ?_, (Below.refl _ _).alloc (Nat.le_refl _) _⟩
    go_light
    have hn := HN.out
    clear HN
    unfold Mf.opts at hn
    try simp only [bne_iff_ne, bne_eq_false_iff_eq, ne_eq] at *
    (repeat' split at hn) <;> omega
end Go.Proofs.YtdhnkcfmjibibaaGreatDoor
/- Manifests: runs; contracts of standing and of the document's run. Conditions: each theorem's own hypotheses. -/
namespace Go.Proofs.YtdhnkcfmjibibaaGreatDoor
open Go.RowKit Go.Maps
set_option linter.unusedVariables false

/-- A run. -/
structure Run where
  num : Int
  lo : Int
  hi : Int
  cnt : Int
/-- The slice's cells are these runs, below block B. -/
def Rs (W : World) (B : Nat) (A : Option Addr) (rs : List Run) : Prop :=
  0 < rs.length → ∃ b off, A = some ⟨b, off, none⟩ ∧ b < B ∧ ∀ j r, rs[j]? = some r →
    W.cell? ⟨b, off + j * 4, none⟩ = some (.int .i64 r.num) ∧ W.cell? ⟨b, off + j * 4 + 1, none⟩ = some (.int .i64 r.lo) ∧ W.cell? ⟨b, off + j * 4 + 2, none⟩ = some (.int .i64 r.hi) ∧ W.cell? ⟨b, off + j * 4 + 3, none⟩ = some (.int .i64 r.cnt)
theorem Rs.at_ {W : World} {B : Nat} {A : Option Addr} {rs : List Run} (H : Rs W B A rs) {k : Nat} (hk : k < rs.length) : ∃ b off r, A = some ⟨b, off, none⟩ ∧ b < B ∧ rs[k]? = some r ∧
    W.cell? ⟨b, off + k * 4, none⟩ = some (.int .i64 r.num) ∧ W.cell? ⟨b, off + k * 4 + 1, none⟩ = some (.int .i64 r.lo) ∧ W.cell? ⟨b, off + k * 4 + 2, none⟩ = some (.int .i64 r.hi) ∧ W.cell? ⟨b, off + k * 4 + 3, none⟩ = some (.int .i64 r.cnt) := by
  obtain ⟨b, off, hA, hb, hc⟩ := H (by omega)
  obtain ⟨h0, h1, h2, h3⟩ := hc k rs[k] (List.getElem?_eq_getElem hk)
  exact ⟨b, off, rs[k], hA, hb, List.getElem?_eq_getElem hk, h0, h1, h2, h3⟩
theorem Rs.keep {W W' : World} {B : Nat} {A : Option Addr} {rs : List Run} (H : Rs W B A rs) (hk : ∀ p : Addr, p.block < B → W'.cell? p = W.cell? p) : Rs W' B A rs := by
  intro h0
  obtain ⟨b, off, hA, hb, hc⟩ := H h0
  refine ⟨b, off, hA, hb, fun j h hj => ?_⟩
  obtain ⟨h0, h1, h2, h3⟩ := hc j h hj
  exact ⟨(hk _ hb).trans h0, (hk _ hb).trans h1, (hk _ hb).trans h2, (hk _ hb).trans h3⟩
theorem Rs.below {W W' : World} {B : Nat} {A : Option Addr} {rs : List Run} (H : Rs W B A rs) (hb : Below B W W') : Rs W' B A rs := H.keep fun _ hp => hb.cell hp
theorem Rs.more {W : World} {B B' : Nat} {A : Option Addr} {rs : List Run} (H : Rs W B A rs) (hB : B ≤ B') : Rs W B' A rs := by
  intro h0
  obtain ⟨b, off, hA, hb, hc⟩ := H h0
  exact ⟨b, off, hA, by omega, hc⟩

/-- A manifest but for where its list lies. -/
structure Man where
  w : Int
  c : Int
  m : Int
  seq : Int
  next : Int
  jr : Int
  runs : List Run
def manV (M : Man) (A : Option Addr) (cap : Nat) : Value := .agg #[.int .i64 M.w, .int .i64 M.c, .int .i64 M.m, .int .i64 M.seq, .int .i64 M.next, .int .i64 M.jr, .slice A M.runs.length cap]

def Mf.inB (n lo hi : Int) : Bool := decide (lo ≤ n ∧ n ≤ hi)
theorem within_any (n lo hi : Int) (W : World) :
    Calls Tryz.prog 81 #[.int .i64 n, .int .i64 lo, .int .i64 hi] W fun e W' => e = .returned (.bool (Mf.inB n lo hi)) ∧ W = W' := by
  obtain ⟨R, hR⟩ : ∃ R, Mf.inB n lo hi = R := ⟨_, rfl⟩
  have HR := Lib.hid hR
  rw [hR]
  clear hR
  go_enter Tryz.func81, Tryz.ntmps81
  go_wp2_with fail
  all_goals
    go_ret
    refine ⟨congrArg (fun z : Bool => Ending.returned (Value.bool z)) ?_, rfl⟩
    rw [← HR.out]
    unfold Mf.inB
    go_light
    simp; try omega

/-- The numbers that are taken ahead of place k; where the last run ends. -/
def Mf.used (M : Man) (k : Nat) : List Int := M.jr :: (M.runs.take k).map (·.num)
def Mf.last (M : Man) : Nat → Int
  | 0 => 0
  | k + 1 => match M.runs[k]? with | some r => r.hi | none => 0
/-- Does the run at place k go? -/
def Mf.OkAt (M : Man) (k : Nat) (r : Run) : Prop :=
  (Mf.used M k).contains r.num = false ∧ Mf.inB r.num 1 (M.next - 1) = true ∧ Mf.inB r.cnt 1 2097152 = true ∧ Mf.last M k ≤ r.lo ∧ r.lo < r.hi ∧ r.hi ≤ M.seq
def Mf.OkTo (M : Man) (k : Nat) : Prop := ∀ j r, j < k → M.runs[j]? = some r → Mf.OkAt M j r
def Mf.Stand (M : Man) : Prop := Mf.OkTo M M.runs.length
theorem Mf.used_succ (M : Man) (k : Nat) (r : Run) (h : M.runs[k]? = some r) : Mf.used M (k + 1) = Mf.used M k ++ [r.num] := by
  unfold Mf.used
  rw [List.take_add_one, h, List.map_append]; rfl

theorem Mf.bad {M : Man} {R : Bool} (h : Mf.Stand M ↔ R = true) {k : Nat} {r : Run} (hk : k < M.runs.length) (hj : M.runs[k]? = some r) (hn : ¬ Mf.OkAt M k r) : R = false := by
  cases R with
  | false => rfl
  | true => exact absurd (h.2 rfl k r hk hj) hn

/-- Behind k rounds all k runs go. -/
def StRel (M : Man) (A : Option Addr) (cap : Nat) (w : World) (l i : Value) (wr : World) : Prop :=
  ∃ k : Nat, k ≤ M.runs.length ∧ i = .int .i64 k ∧ l = .int .i64 (Mf.last M k) ∧ Mf.OkTo M k ∧ wr.ownsMap Tryz.prog 3 unitElem (w.heap.size + 1) (k + 1) (setL (Mf.used M k)) ∧
    Blk wr w.heap.size 31 #[.int .i64 M.w, .int .i64 M.c, .int .i64 M.m, .int .i64 M.seq, .int .i64 M.next, .int .i64 M.jr, .slice A M.runs.length cap] ∧ Below w.heap.size w wr

theorem zeroNone (w : World) : (zeroValue 154).run Tryz.prog w = .ok (.agg #[]) w := by kernel_rfl

set_option maxRecDepth 100000 in
set_option maxHeartbeats 2000000 in
theorem standing_any (M : Man) (A : Option Addr) (cap : Nat) (w : World) (HR : Rs w w.heap.size A M.runs) (hl : M.runs.length ≤ 24) (hn1 : 2 ≤ M.next) (hn2 : M.next ≤ 1099511627776)
    (hj : (Lit.int .i64 M.jr).wf = true) (hwf : ∀ r ∈ M.runs, (Lit.int .i64 r.num).wf = true) (R : Bool) (hR : Mf.Stand M ↔ R = true) :
    Calls Tryz.prog 86 #[manV M A cap] w fun e w' => e = .returned (.bool R) ∧ Below w.heap.size w w' := by
  have HRR := Lib.hid hR
  clear hR
  have hmm := @run_makeMap Tryz.prog
  have hkj : keyOf Tryz.prog 3 (.int .i64 M.jr) = some (.int .i64 M.jr) := keyOf_int_mk Tryz.underlying3 hj
  have HKJ := Lib.hid hkj
  clear hkj hj
  unfold manV
  go_enter Tryz.func86, Tryz.ntmps86
  have h0 := World.ownsMap_made (H := Unit) (w.alloc (.cells #[.int .i64 M.w, .int .i64 M.c, .int .i64 M.m, .int .i64 M.seq, .int .i64 M.next, .int .i64 M.jr, .slice A M.runs.length cap] 31)) Tryz.prog 3 unitElem
  rw [World.size_alloc] at h0
  have hb0 := (Blk.new w 31 #[.int .i64 M.w, .int .i64 M.c, .int .i64 M.m, .int .i64 M.seq, .int .i64 M.next, .int .i64 M.jr, .slice A M.runs.length cap]).alloc (.map #[] 0)
  go_wp2_with (refine wpList_insert_own _ rfl _ _ _ 155 rfl 3 154 intKey Tryz.underlying155 (unitElem (H := Unit)) (w.heap.size + 1) 0 _ rfl h0 (by unfold maxLen; omega) _ _ _ rfl rfl HKJ.out _ [] unitElem_mk ?_; intro w1 hown1 hgrow1; have hb1 := hb0.grown hgrow1 (by simp); have c6 : w1.cell? ⟨w.heap.size, 6, none⟩ = some (.slice A M.runs.length cap) := hb1.cell 6)
  have B1 : Below w.heap.size w w1 := (((Below.refl _ _).alloc (Nat.le_refl _) _).alloc (by simp) _).grown hgrow1 (by simp; omega) (fun j e => by cases e; exact Nat.le_succ _)
  go_loopw [4, 17] (fun l i wr => StRel M A cap w l i wr) (fun _ i _ => M.runs.length - (intOf i).toNat)
  case atStart => exact ⟨0, Nat.zero_le _, rfl, rfl, fun j r hj => by omega, hown1, hb1, B1⟩
  case round =>
    obtain ⟨k, hk, rfl, rfl, hok, hown, hb, hB⟩ := hrel
    have HOK := Lib.hid hok
    clear hok hown1 hgrow1 hb1 c6 B1
    by_cases hlt : k < M.runs.length
    · obtain ⟨b, off, r, rfl, hbb, hj, e0, e1, e2, e3⟩ := (HR.below hB).at_ hlt
      have hus := Mf.used_succ M k r hj
      have hkey : keyOf Tryz.prog 3 (.int .i64 r.num) = some (.int .i64 r.num) := keyOf_int_mk Tryz.underlying3 (hwf r (List.mem_iff_getElem?.2 ⟨k, hj⟩))
      have hhas := has_setL (Mf.used M k) r.num
      obtain ⟨T, hT⟩ : ∃ T, (Mf.used M k).contains r.num = T := ⟨_, rfl⟩
      rw [hT] at hhas
      have HT := Lib.hid hT
      have HU := Lib.hid hus
      have HK := Lib.hid hkey
      have HH := Lib.hid hhas
      have HJ := Lib.hid hj
      clear hT hus hkey hhas hj
      have n4 : ∀ o o' : Obj, ((wr.alloc o).alloc o').cell? ⟨w.heap.size, 4, none⟩ = some (.int .i64 M.next) := fun o o' => ((hb.alloc o).alloc o').cell 4
      have n3 : ∀ o o' : Obj, ((wr.alloc o).alloc o').cell? ⟨w.heap.size, 3, none⟩ = some (.int .i64 M.seq) := fun o o' => ((hb.alloc o).alloc o').cell 3
      have hml := hown.lt
      have q2 : ∀ o' : Obj, ((wr.alloc (.cells #[.int .i64 r.num, .int .i64 r.lo, .int .i64 r.hi, .int .i64 r.cnt] 42)).alloc o').cell? ⟨wr.heap.size, 2, none⟩ = some (.int .i64 r.hi) := fun o' => ((Blk.new wr _ _).alloc o').cell 2
      obtain ⟨L, hL⟩ : ∃ L, Mf.last M k = L := ⟨_, rfl⟩
      rw [hL]
      have HL := Lib.hid hL
      clear hL
      cases T with
      | true =>
        go_wp2_with (at_lookup; refine wpList_lookup_own_unit _ rfl _ _ 155 rfl 3 154 intKey Tryz.underlying155 (zeroNone _) (w.heap.size + 1) (k + 1) _ rfl (hown.alloc _) _ _ rfl HK.out ?_; rw [HH.out])
        have hr : R = false := Mf.bad HRR.out hlt HJ.out fun h => by have := HT.out.symm.trans h.1; exact absurd this (by decide)
        go_ret
        exact ⟨congrArg (fun z : Bool => Ending.returned (Value.bool z)) hr.symm, (hB.alloc hB.size _).alloc (by have := hB.size; simp; omega) _⟩
      | false =>
        go_wp2_with (first
          | (at_lookup; refine wpList_lookup_own_unit _ rfl _ _ 155 rfl 3 154 intKey Tryz.underlying155 (zeroNone _) (w.heap.size + 1) (k + 1) _ rfl (hown.alloc _) _ _ rfl HK.out ?_; rw [HH.out])
          | (go_at_call 81; refine (within_any _ _ _ _).mono ?_; rintro e w' ⟨rfl, rfl⟩)
          | (at_mapUpdate; refine wpList_mapUpdate_own _ rfl _ _ _ 155 rfl 3 154 intKey Tryz.underlying155 (unitElem (H := Unit)) (w.heap.size + 1) (k + 1) _ rfl ((hown.alloc _).alloc _) (by unfold maxLen; omega) _ _ _ rfl rfl HK.out _ [] unitElem_mk ?_; intro w1 hown1 hgrow1; have p2 : w1.cell? ⟨wr.heap.size, 2, none⟩ = some (.int .i64 r.hi) := hgrow1.cell (q2 _) (by simp; omega)))
        rotate_left
        · have h1 : Mf.inB r.num 1 (M.next - 1) = true := by assumption
          have h2 : Mf.inB r.cnt 1 2097152 = true := by assumption
          have h3 : (L ≤ r.lo ∧ r.lo < r.hi) ∧ r.hi ≤ M.seq := by assumption
          go_roundw
          case rel =>
            refine ⟨k + 1, by omega, by go_num, ?_, ?_, ?_, ((hb.alloc _).alloc _).grown hgrow1 (by simp), ((hB.alloc hB.size _).alloc (by have := hB.size; simp; omega) _).grown hgrow1 (by have := hB.size; simp; omega) (fun j e => by cases e; exact Nat.le_succ _)⟩
            · simp [Mf.last, HJ.out]
            · intro j x hj hx
              by_cases e : j = k
              · subst e
                obtain rfl := Option.some.inj (HJ.out.symm.trans hx)
                exact ⟨HT.out, h1, h2, by rw [HL.out]; exact h3.1.1, h3.1.2, h3.2⟩
              · exact HOK.out j x (by omega) hx
            · rw [HU.out, setL_snoc]; exact hown1
          case measure => simp [intOf]; omega
        all_goals
          have hr : R = false := Mf.bad HRR.out hlt HJ.out fun h => by
            obtain ⟨_, o2, o3, o4, o5, o6⟩ := h
            rw [HL.out] at o4
            first
              | exact absurd o2 (by assumption)
              | exact absurd o3 (by assumption)
              | (go_light; omega)
          go_ret
          exact ⟨congrArg (fun z : Bool => Ending.returned (Value.bool z)) hr.symm, (hB.alloc hB.size _).alloc (by have := hB.size; simp; omega) _⟩
    · obtain rfl : k = M.runs.length := by omega
      have hr : R = true := HRR.out.1 HOK.out
      subst hr
      go_wp2_with fail
      go_ret
      exact ⟨rfl, hB⟩
end Go.Proofs.YtdhnkcfmjibibaaGreatDoor
/- Manifests: contract of the document's run. Conditions: each theorem's own hypotheses. -/
namespace Go.Proofs.YtdhnkcfmjibibaaGreatDoor
open Go.RowKit Go.Maps
set_option linter.unusedVariables false

/-- None of the first j runs has this number. -/
def Mf.NoneTo (M : Man) (j : Nat) (x : Int) : Prop := ∀ i s, i < j → M.runs[i]? = some s → s.num ≠ x
theorem Mf.used_iff (M : Man) (k : Nat) (x : Int) : (Mf.used M k).contains x = false ↔ x ≠ M.jr ∧ Mf.NoneTo M k x := by
  unfold Mf.used
  rw [List.contains_cons, Bool.or_eq_false_iff, beq_eq_false_iff_ne]
  refine and_congr Iff.rfl ?_
  rw [← Bool.not_eq_true, List.contains_iff_mem]
  constructor
  · intro h i s hi hs e
    apply h
    rw [List.mem_map]
    exact ⟨s, List.mem_iff_getElem?.2 ⟨i, by rw [List.getElem?_take, if_pos hi]; exact hs⟩, e⟩
  · intro h hm
    obtain ⟨s, hs, e⟩ := List.mem_map.1 hm
    obtain ⟨i, hi⟩ := List.mem_iff_getElem?.1 hs
    rw [List.getElem?_take] at hi
    by_cases hlt : i < k
    · rw [if_pos hlt] at hi; exact h i s hlt hi e
    · rw [if_neg hlt] at hi; cases hi

theorem Mf.bad' {p : Prop} {R : Bool} (h : p ↔ R = true) (hn : ¬ p) : R = false := by
  cases R with
  | false => rfl
  | true => exact absurd (h.2 rfl) hn

/-- The document's look at what is ahead. -/
def RunRel (M : Man) (A : Option Addr) (cap k : Nat) (r : Run) (w : World) (l i : Value) (wr : World) : Prop :=
  ∃ j : Nat, j ≤ k ∧ i = .int .i64 j ∧ l = .int .i64 (Mf.last M j) ∧ Mf.NoneTo M j r.num ∧
    Blk wr w.heap.size 31 #[.int .i64 M.w, .int .i64 M.c, .int .i64 M.m, .int .i64 M.seq, .int .i64 M.next, .int .i64 M.jr, .slice A M.runs.length cap] ∧
    Blk wr (w.heap.size + 1) 42 #[.int .i64 r.num, .int .i64 r.lo, .int .i64 r.hi, .int .i64 r.cnt] ∧ Below w.heap.size w wr

set_option maxRecDepth 100000 in
set_option maxHeartbeats 2000000 in
theorem refRun_any (M : Man) (A : Option Addr) (cap : Nat) (w : World) (HR : Rs w w.heap.size A M.runs) (hl : M.runs.length ≤ 24) (k : Nat) (r : Run) (hk : k < M.runs.length) (hj : M.runs[k]? = some r) (R : Bool) (hR : Mf.OkAt M k r ↔ R = true) :
    Calls Tryz.prog 91 #[manV M A cap, .int .i64 k] w fun e w' => e = .returned (.bool R) ∧ Below w.heap.size w w' := by
  have HRR := Lib.hid hR
  obtain ⟨b, off, r', rfl, hbb, hj', e0, e1, e2, e3⟩ := HR.at_ hk
  obtain rfl := Option.some.inj (hj'.symm.trans hj)
  have HJ := Lib.hid hj
  clear hR hj hj'
  unfold manV
  go_enter Tryz.func91, Tryz.ntmps91
  go_wp2_with fail
  go_loopw [6, 7] (fun l i wr => RunRel M (some ⟨b, off, none⟩) cap k r' w l i wr) (fun _ i _ => k - (intOf i).toNat)
  case atStart =>
    refine ⟨0, Nat.zero_le _, rfl, rfl, fun i s hi => by omega, (Blk.new w _ _).alloc _, ?_, ((Below.refl _ _).alloc (Nat.le_refl _) _).alloc (by simp) _⟩
    have h := Blk.new (w.alloc (.cells #[.int .i64 M.w, .int .i64 M.c, .int .i64 M.m, .int .i64 M.seq, .int .i64 M.next, .int .i64 M.jr, .slice (some ⟨b, off, none⟩) M.runs.length cap] 31)) 42 #[.int .i64 r'.num, .int .i64 r'.lo, .int .i64 r'.hi, .int .i64 r'.cnt]
    rw [World.size_alloc] at h
    exact h
  case round =>
    obtain ⟨j, hjk, rfl, rfl, hno, hb0, hb1, hB⟩ := hrel
    have HNO := Lib.hid hno
    clear hno
    have m1 : wr.cell? ⟨w.heap.size, 3, none⟩ = some (.int .i64 M.seq) := hb0.cell 3
    have m2 : wr.cell? ⟨w.heap.size, 4, none⟩ = some (.int .i64 M.next) := hb0.cell 4
    have m3 : wr.cell? ⟨w.heap.size, 5, none⟩ = some (.int .i64 M.jr) := hb0.cell 5
    have m4 : wr.cell? ⟨w.heap.size, 6, none⟩ = some (.slice (some ⟨b, off, none⟩) M.runs.length cap) := hb0.cell 6
    have r0 : wr.cell? ⟨w.heap.size + 1, 0, none⟩ = some (.int .i64 r'.num) := hb1.cell 0
    have r1 : wr.cell? ⟨w.heap.size + 1, 1, none⟩ = some (.int .i64 r'.lo) := hb1.cell 1
    have r2 : wr.cell? ⟨w.heap.size + 1, 2, none⟩ = some (.int .i64 r'.hi) := hb1.cell 2
    have r3 : wr.cell? ⟨w.heap.size + 1, 3, none⟩ = some (.int .i64 r'.cnt) := hb1.cell 3
    by_cases hlt : j < k
    · obtain ⟨b', off', s, hA, hbb', hs, f0, f1, f2, f3⟩ := (HR.below hB).at_ (k := j) (by omega)
      injection hA with hA
      injection hA with q1 q2
      subst q1 q2
      have HS := Lib.hid hs
      clear hs
      obtain ⟨L, hL⟩ : ∃ L, Mf.last M j = L := ⟨_, rfl⟩
      rw [hL]
      clear hL
      have hj0 : (0 : Int) ≤ (j : Int) := by omega
      have hj1 : (j : Int) < (M.runs.length : Int) := by omega
      go_wp2_with fail
      go_quiet (fail)
      all_goals go_wp2_with fail
      · have hq : (s.num == r'.num) = true := by assumption
        have hr : R = false := Mf.bad' HRR.out fun h => ((Mf.used_iff M k r'.num).1 h.1).2 j s hlt HS.out (beq_iff_eq.1 hq)
        go_ret
        exact ⟨congrArg (fun z : Bool => Ending.returned (Value.bool z)) hr.symm, below_dn hB _⟩
      · have hq : (s.num == r'.num) = false := by assumption
        go_roundw
        case rel =>
          refine ⟨j + 1, by omega, by go_num, ?_, ?_, hb0, hb1, below_dn hB _⟩
          · simp [Mf.last, HS.out]
          · intro i x hi hx
            by_cases e : i = j
            · subst e
              obtain rfl := Option.some.inj (HS.out.symm.trans hx)
              exact beq_eq_false_iff_ne.1 hq
            · exact HNO.out i x (by omega) hx
        case measure => simp [intOf]; omega
    · obtain rfl : j = k := by omega
      obtain ⟨L, hL⟩ : ∃ L, Mf.last M j = L := ⟨_, rfl⟩
      rw [hL]
      have HL := Lib.hid hL
      clear hL
      have ho : Mf.OkAt M j r' ↔ (r'.num ≠ M.jr ∧ 1 ≤ r'.num ∧ r'.num < M.next ∧ 1 ≤ r'.cnt ∧ r'.cnt ≤ 2097152 ∧ L ≤ r'.lo ∧ r'.lo < r'.hi ∧ r'.hi ≤ M.seq) := by
        unfold Mf.OkAt Mf.inB
        rw [Mf.used_iff, HL.out, decide_eq_true_eq, decide_eq_true_eq]
        constructor
        · rintro ⟨⟨a, _⟩, b, c, d, e, f⟩; exact ⟨a, by omega, by omega, by omega, by omega, d, e, f⟩
        · rintro ⟨a, b, c, d, e, f, g, i⟩; exact ⟨⟨a, HNO.out⟩, by omega, by omega, f, g, i⟩
      have HO := Lib.hid (ho.symm.trans HRR.out)
      clear ho
      go_wp2_with fail
      all_goals
        go_ret
        refine ⟨congrArg (fun z : Bool => Ending.returned (Value.bool z)) ?_, hB⟩
        go_light
        have ho := HO.out
        try simp only [beq_iff_eq, beq_eq_false_iff_ne, ne_eq] at *
        rw [Bool.eq_iff_iff, ← ho]
        simp
        try omega
end Go.Proofs.YtdhnkcfmjibibaaGreatDoor
/- Manifests: contracts of both Checks. Conditions: each theorem's own hypotheses. -/
namespace Go.Proofs.YtdhnkcfmjibibaaGreatDoor
open Go.RowKit Go.Maps
set_option linter.unusedVariables false

/-- Do the numbers ahead of the list go? -/
def Mf.Front (M : Man) : Prop := 0 ≤ M.seq ∧ M.seq ≤ 1152921504606846976 ∧ 2 ≤ M.next ∧ M.next ≤ 1099511627776 ∧ 1 ≤ M.jr ∧ M.jr < M.next ∧ M.runs.length ≤ 24
open Classical in
/-- Why a manifest does not go. -/
noncomputable def Mf.check (M : Man) : Nat := if ¬ Mf.opts M.w M.c M.m = 0 then Mf.opts M.w M.c M.m else if Mf.Front M ∧ Mf.Stand M then 0 else 80

/-- What a manifest's numbers are. -/
structure Mf.Fit (M : Man) : Prop where
  w : -9223372036854775808 ≤ M.w ∧ M.w ≤ 9223372036854775807
  jr : (Lit.int .i64 M.jr).wf = true
  runs : ∀ r ∈ M.runs, (Lit.int .i64 r.num).wf = true
  len : M.runs.length ≤ 4398046511104

/-- Behind k rounds all k runs go. -/
def CkRel (M : Man) (A : Option Addr) (cap : Nat) (w : World) (i : Value) (wr : World) : Prop :=
  ∃ k : Nat, k ≤ M.runs.length ∧ i = .int .i64 k ∧ Mf.OkTo M k ∧
    Blk wr w.heap.size 31 #[.int .i64 M.w, .int .i64 M.c, .int .i64 M.m, .int .i64 M.seq, .int .i64 M.next, .int .i64 M.jr, .slice A M.runs.length cap] ∧ Below w.heap.size w wr

set_option maxRecDepth 100000 in
set_option maxHeartbeats 2000000 in
theorem refCheck_any (M : Man) (A : Option Addr) (cap : Nat) (w : World) (HR : Rs w w.heap.size A M.runs) (hM : Mf.Fit M) (n : Nat) (hn : Mf.check M = n) :
    Calls Tryz.prog 63 #[manV M A cap] w fun e w' => e = .returned (.int .i64 n) ∧ Below w.heap.size w w' := by
  unfold Mf.check at hn
  obtain ⟨o, ho⟩ : ∃ o, Mf.opts M.w M.c M.m = o := ⟨_, rfl⟩
  rw [ho] at hn
  have HO := Lib.hid ho
  have hlen := hM.len
  by_cases h0 : o = 0
  rotate_left
  · rw [if_pos h0] at hn
    obtain rfl := hn
    have h0' : ((o : Int) != 0) = true := by rw [bne_iff_ne]; omega
    clear ho
    unfold manV
    go_enter Tryz.func63, Tryz.ntmps63
    go_wp2_with fail
    refine (refOpts_any M.w M.c M.m hM.w o HO.out _).mono ?_
    rintro e w1 ⟨rfl, hB⟩
    go_wp2_with fail
    go_ret
    exact ⟨rfl, ((Below.refl _ _).alloc (Nat.le_refl _) _).trans (hB.mono (by simp))⟩
  rw [if_neg (not_not_intro h0)] at hn
  subst h0
  have HN := Lib.hid hn
  clear hn ho
  unfold manV
  go_enter Tryz.func63, Tryz.ntmps63
  go_wp2_with fail
  refine (refOpts_any M.w M.c M.m hM.w 0 HO.out _).mono ?_
  rintro e w1 ⟨rfl, hB⟩
  have hb0 : Blk w1 w.heap.size 31 #[.int .i64 M.w, .int .i64 M.c, .int .i64 M.m, .int .i64 M.seq, .int .i64 M.next, .int .i64 M.jr, .slice A M.runs.length cap] := (hB.block w.heap.size (by simp)).trans (Blk.new w _ _)
  have B1 : Below w.heap.size w w1 := ((Below.refl _ _).alloc (Nat.le_refl _) _).trans (hB.mono (by simp))
  have m1 : w1.cell? ⟨w.heap.size, 3, none⟩ = some (.int .i64 M.seq) := hb0.cell 3
  have m2 : w1.cell? ⟨w.heap.size, 4, none⟩ = some (.int .i64 M.next) := hb0.cell 4
  have m3 : w1.cell? ⟨w.heap.size, 5, none⟩ = some (.int .i64 M.jr) := hb0.cell 5
  have m4 : w1.cell? ⟨w.heap.size, 6, none⟩ = some (.slice A M.runs.length cap) := hb0.cell 6
  clear hB
  by_cases hf : Mf.Front M
  · obtain ⟨f1, f2, f3, f4, f5, f6, f7⟩ := hf
    have hnn : (Mf.Stand M → n = 0) ∧ (¬ Mf.Stand M → n = 80) := by
      rw [← HN.out]
      exact ⟨fun h => if_pos ⟨⟨f1, f2, f3, f4, f5, f6, f7⟩, h⟩, fun h => if_neg fun h' => h h'.2⟩
    have HNN := Lib.hid hnn
    clear hnn HN
    have f7' : (M.runs.length : Int) ≤ 24 := by omega
    go_wp2_with fail
    clear m1 m2 m3
    go_loopw [4] (fun i wr => CkRel M A cap w i wr) (fun i _ => M.runs.length - (intOf i).toNat)
    case atStart => exact ⟨0, Nat.zero_le _, rfl, fun j r hj => by omega, hb0, B1⟩
    case round =>
      obtain ⟨k, hk, rfl, hok, hb, hB⟩ := hrel
      have HOK := Lib.hid hok
      have c0 : wr.cell? ⟨w.heap.size, 0, none⟩ = some (.int .i64 M.w) := hb.cell 0
      have c1 : wr.cell? ⟨w.heap.size, 1, none⟩ = some (.int .i64 M.c) := hb.cell 1
      have c2 : wr.cell? ⟨w.heap.size, 2, none⟩ = some (.int .i64 M.m) := hb.cell 2
      have c3 : wr.cell? ⟨w.heap.size, 3, none⟩ = some (.int .i64 M.seq) := hb.cell 3
      have c4 : wr.cell? ⟨w.heap.size, 4, none⟩ = some (.int .i64 M.next) := hb.cell 4
      have c5 : wr.cell? ⟨w.heap.size, 5, none⟩ = some (.int .i64 M.jr) := hb.cell 5
      have c6 : wr.cell? ⟨w.heap.size, 6, none⟩ = some (.slice A M.runs.length cap) := hb.cell 6
      clear hok m4
      by_cases hlt : k < M.runs.length
      · obtain ⟨r, hr⟩ : ∃ r, M.runs[k]? = some r := ⟨_, List.getElem?_eq_getElem hlt⟩
        have HJ := Lib.hid hr
        clear hr
        by_cases hat : Mf.OkAt M k r
        · have HAT := Lib.hid hat
          clear hat
          go_wp2_with fail
          refine (refRun_any M A cap _ ((HR.below hB).more hB.size) f7 k r hlt HJ.out true ⟨fun _ => rfl, fun _ => HAT.out⟩).mono ?_
          rintro e w2 ⟨rfl, hB2⟩
          have B2 : Below w.heap.size w w2 := hB.trans (hB2.mono hB.size)
          have hb2 : Blk w2 w.heap.size 31 #[.int .i64 M.w, .int .i64 M.c, .int .i64 M.m, .int .i64 M.seq, .int .i64 M.next, .int .i64 M.jr, .slice A M.runs.length cap] := (hB2.block w.heap.size hb.lt).trans hb
          clear c0 c1 c2 c3 c4 c5 c6
          go_wp2_with fail
          go_roundw
          case rel =>
            refine ⟨k + 1, by omega, by go_num, fun j x hj hx => ?_, hb2, B2⟩
            by_cases e : j = k
            · subst e
              obtain rfl := Option.some.inj (HJ.out.symm.trans hx)
              exact HAT.out
            · exact HOK.out j x (by omega) hx
          case measure => simp [intOf]; omega
        · have hst : ¬ Mf.Stand M := fun h => hat (h k r hlt HJ.out)
          obtain rfl := HNN.out.2 hst
          have HAT := Lib.hid hat
          clear hat hst
          go_wp2_with fail
          refine (refRun_any M A cap _ ((HR.below hB).more hB.size) f7 k r hlt HJ.out false ⟨fun h => absurd h HAT.out, fun h => by cases h⟩).mono ?_
          rintro e w2 ⟨rfl, hB2⟩
          have B2 : Below w.heap.size w w2 := hB.trans (hB2.mono hB.size)
          clear c0 c1 c2 c3 c4 c5 c6
          go_wp2_with fail
          go_ret
          exact ⟨rfl, B2⟩
      · obtain rfl : k = M.runs.length := by omega
        obtain rfl := HNN.out.1 HOK.out
        go_wp2_with fail
        go_ret
        exact ⟨rfl, hB⟩
  · have hn : 80 = n := by rw [← HN.out, if_neg (fun h => hf h.1)]
    obtain rfl := hn
    have HF := Lib.hid hf
    clear hf
    go_wp2_with fail
    all_goals first
      | (go_ret; exact ⟨rfl, B1⟩)
      | (exfalso; apply HF.out; unfold Mf.Front; go_light; omega)
end Go.Proofs.YtdhnkcfmjibibaaGreatDoor
/- Manifests: contract of manifest.Check. Conditions: each theorem's own hypotheses. -/
namespace Go.Proofs.YtdhnkcfmjibibaaGreatDoor
open Go.RowKit Go.Maps
set_option linter.unusedVariables false

theorem goes1_any (b : Nat) (x : Int) (W : World) (h : W.cell? ⟨b, 3, none⟩ = some (.int .i64 x)) :
    Calls Tryz.prog 80 #[.pointer (some ⟨b, 0, none⟩)] W fun e W' => e = .returned (.bool (Mf.inB x 0 1152921504606846976)) ∧ W = W' := by
  go_enter Tryz.func80, Tryz.ntmps80
  go_wp2_with (go_at_call 81; refine (within_any _ _ _ _).mono ?_; rintro e w' ⟨rfl, rfl⟩)
  go_ret
  exact ⟨rfl, rfl⟩
theorem goes2_any (b : Nat) (x : Int) (W : World) (h : W.cell? ⟨b, 4, none⟩ = some (.int .i64 x)) :
    Calls Tryz.prog 82 #[.pointer (some ⟨b, 0, none⟩)] W fun e W' => e = .returned (.bool (Mf.inB x 2 1099511627776)) ∧ W = W' := by
  go_enter Tryz.func82, Tryz.ntmps82
  go_wp2_with (go_at_call 81; refine (within_any _ _ _ _).mono ?_; rintro e w' ⟨rfl, rfl⟩)
  go_ret
  exact ⟨rfl, rfl⟩
theorem goes3_any (b : Nat) (x y : Int) (W : World) (h : W.cell? ⟨b, 5, none⟩ = some (.int .i64 x)) (h' : W.cell? ⟨b, 4, none⟩ = some (.int .i64 y)) (hy : 2 ≤ y) (hy' : y ≤ 1099511627776) :
    Calls Tryz.prog 83 #[.pointer (some ⟨b, 0, none⟩)] W fun e W' => e = .returned (.bool (Mf.inB x 1 (y - 1))) ∧ W = W' := by
  go_enter Tryz.func83, Tryz.ntmps83
  go_wp2_with (go_at_call 81; refine (within_any _ _ _ _).mono ?_; rintro e w' ⟨rfl, rfl⟩)
  go_ret
  exact ⟨rfl, rfl⟩
theorem goes4_any (b n cap : Nat) (A : Option Addr) (W : World) (h : W.cell? ⟨b, 6, none⟩ = some (.slice A n cap)) :
    Calls Tryz.prog 84 #[.pointer (some ⟨b, 0, none⟩)] W fun e W' => e = .returned (.bool (decide ((n : Int) ≤ 24))) ∧ W = W' := by
  go_enter Tryz.func84, Tryz.ntmps84
  go_wp2_with fail
  go_ret
  exact ⟨rfl, rfl⟩
def manCells (M : Man) (A : Option Addr) (cap : Nat) : Array Value := #[.int .i64 M.w, .int .i64 M.c, .int .i64 M.m, .int .i64 M.seq, .int .i64 M.next, .int .i64 M.jr, .slice A M.runs.length cap]
theorem goes5_any (M : Man) (A : Option Addr) (cap b : Nat) (w : World) (hb : Blk w b 31 (manCells M A cap)) (HR : Rs w w.heap.size A M.runs) (hl : M.runs.length ≤ 24) (hn1 : 2 ≤ M.next) (hn2 : M.next ≤ 1099511627776)
    (hM : Mf.Fit M) (R : Bool) (hR : Mf.Stand M ↔ R = true) :
    Calls Tryz.prog 85 #[.pointer (some ⟨b, 0, none⟩)] w fun e w' => e = .returned (.bool R) ∧ Below w.heap.size w w' := by
  have c0 : w.cell? ⟨b, 0, none⟩ = some (.int .i64 M.w) := hb.cell 0
  have c1 : w.cell? ⟨b, 1, none⟩ = some (.int .i64 M.c) := hb.cell 1
  have c2 : w.cell? ⟨b, 2, none⟩ = some (.int .i64 M.m) := hb.cell 2
  have c3 : w.cell? ⟨b, 3, none⟩ = some (.int .i64 M.seq) := hb.cell 3
  have c4 : w.cell? ⟨b, 4, none⟩ = some (.int .i64 M.next) := hb.cell 4
  have c5 : w.cell? ⟨b, 5, none⟩ = some (.int .i64 M.jr) := hb.cell 5
  have c6 : w.cell? ⟨b, 6, none⟩ = some (.slice A M.runs.length cap) := hb.cell 6
  have HRR := Lib.hid hR
  clear hR
  go_enter Tryz.func85, Tryz.ntmps85
  go_wp2_with fail
  refine (standing_any M A cap w HR hl hn1 hn2 hM.jr hM.runs R HRR.out).mono ?_
  rintro e w1 ⟨rfl, hB⟩
  go_wp2_with fail
  go_ret
  exact ⟨rfl, hB⟩

theorem Mf.inB_iff {n lo hi : Int} : Mf.inB n lo hi = true ↔ lo ≤ n ∧ n ≤ hi := by unfold Mf.inB; exact decide_eq_true_iff
theorem Mf.front_iff (M : Man) : Mf.Front M ↔ Mf.inB M.seq 0 1152921504606846976 = true ∧ Mf.inB M.next 2 1099511627776 = true ∧ Mf.inB M.jr 1 (M.next - 1) = true ∧ (M.runs.length : Int) ≤ 24 := by
  unfold Mf.Front
  rw [Mf.inB_iff, Mf.inB_iff, Mf.inB_iff]
  omega

set_option maxRecDepth 100000 in
set_option maxHeartbeats 4000000 in
theorem check_any (M : Man) (A : Option Addr) (cap : Nat) (w : World) (HR : Rs w w.heap.size A M.runs) (hM : Mf.Fit M) (n : Nat) (hn : Mf.check M = n) :
    Calls Tryz.prog 48 #[manV M A cap] w fun e w' => e = .returned (.int .i64 n) ∧ Below w.heap.size w w' := by
  unfold Mf.check at hn
  obtain ⟨o, ho⟩ : ∃ o, Mf.opts M.w M.c M.m = o := ⟨_, rfl⟩
  rw [ho] at hn
  have HO := Lib.hid ho
  have hlen := hM.len
  by_cases h0 : o = 0
  rotate_left
  · rw [if_pos h0] at hn
    obtain rfl := hn
    have h0' : ((o : Int) != 0) = true := by rw [bne_iff_ne]; omega
    clear ho
    unfold manV
    go_enter Tryz.func48, Tryz.ntmps48
    go_wp2_with fail
    refine (optioned_any M.w M.c M.m hM.w o HO.out _).mono ?_
    rintro e w1 ⟨rfl, hB⟩
    go_wp2_with fail
    go_ret
    exact ⟨rfl, ((Below.refl _ _).alloc (Nat.le_refl _) _).trans (hB.mono (by simp))⟩
  rw [if_neg (not_not_intro h0)] at hn
  subst h0
  have HN := Lib.hid hn
  clear hn ho
  unfold manV
  go_enter Tryz.func48, Tryz.ntmps48
  go_wp2_with fail
  refine (optioned_any M.w M.c M.m hM.w 0 HO.out _).mono ?_
  rintro e w1 ⟨rfl, hB⟩
  have hb0 : Blk w1 w.heap.size 31 (manCells M A cap) := (hB.block w.heap.size (by simp)).trans (Blk.new w _ _)
  have B1 : Below w.heap.size w w1 := ((Below.refl _ _).alloc (Nat.le_refl _) _).trans (hB.mono (by simp))
  clear hB
  have hbo : ∀ o, Blk (w1.alloc o) w.heap.size 31 (manCells M A cap) := fun o => hb0.alloc o
  have hro : ∀ o, Rs (w1.alloc o) (w1.alloc o).heap.size A M.runs := fun o => (HR.below (B1.alloc B1.size o)).more (B1.alloc B1.size o).size
  obtain ⟨R, hR⟩ : ∃ R : Bool, (Mf.Stand M ↔ R = true) := by
    by_cases h : Mf.Stand M
    · exact ⟨true, fun _ => rfl, fun _ => h⟩
    · exact ⟨false, fun h' => absurd h' h, fun h' => by cases h'⟩
  have HRR := Lib.hid hR
  clear hR
  go_wp2_with fail
  refine wp_loop_rounds 6 ?_
  rw [rounds_succ]
  go_wp2_with (go_at_call 80; refine (goes1_any _ M.seq _ ((hbo _).cell 3)).mono ?_; rintro e w' ⟨rfl, rfl⟩)
  · have hq : (!Mf.inB M.seq 0 1152921504606846976) = true := by assumption
    have hn : 80 = n := by
      rw [← HN.out, if_neg]
      rintro ⟨hf, hs⟩
      obtain ⟨a, b, c, d⟩ := (Mf.front_iff M).1 hf
      rw [a] at hq; exact absurd hq (by decide)
    go_ret
    exact ⟨congrArg (fun z : Nat => Ending.returned (Value.int .i64 z)) hn, B1.alloc B1.size _⟩
  have p1 : (!Mf.inB M.seq 0 1152921504606846976) = false := by assumption
  have q1 : Mf.inB M.seq 0 1152921504606846976 = true := by simpa using p1
  rw [rounds_succ]
  go_wp2_with (go_at_call 82; refine (goes2_any _ M.next _ ((hbo _).cell 4)).mono ?_; rintro e w' ⟨rfl, rfl⟩)
  · have hq : (!Mf.inB M.next 2 1099511627776) = true := by assumption
    have hn : 80 = n := by
      rw [← HN.out, if_neg]
      rintro ⟨hf, hs⟩
      obtain ⟨a, b, c, d⟩ := (Mf.front_iff M).1 hf
      rw [b] at hq; exact absurd hq (by decide)
    go_ret
    exact ⟨congrArg (fun z : Nat => Ending.returned (Value.int .i64 z)) hn, B1.alloc B1.size _⟩
  have p2 : (!Mf.inB M.next 2 1099511627776) = false := by assumption
  have q2 : Mf.inB M.next 2 1099511627776 = true := by simpa using p2
  rw [rounds_succ]
  go_wp2_with (go_at_call 83; refine (goes3_any _ M.jr M.next _ ((hbo _).cell 5) ((hbo _).cell 4) (Mf.inB_iff.1 q2).1 (Mf.inB_iff.1 q2).2).mono ?_; rintro e w' ⟨rfl, rfl⟩)
  · have hq : (!Mf.inB M.jr 1 (M.next - 1)) = true := by assumption
    have hn : 80 = n := by
      rw [← HN.out, if_neg]
      rintro ⟨hf, hs⟩
      obtain ⟨a, b, c, d⟩ := (Mf.front_iff M).1 hf
      rw [c] at hq; exact absurd hq (by decide)
    go_ret
    exact ⟨congrArg (fun z : Nat => Ending.returned (Value.int .i64 z)) hn, B1.alloc B1.size _⟩
  have p3 : (!Mf.inB M.jr 1 (M.next - 1)) = false := by assumption
  have q3 : Mf.inB M.jr 1 (M.next - 1) = true := by simpa using p3
  rw [rounds_succ]
  go_wp2_with (go_at_call 84; refine (goes4_any _ M.runs.length cap A _ ((hbo _).cell 6)).mono ?_; rintro e w' ⟨rfl, rfl⟩)
  · have hq : (!decide ((M.runs.length : Int) ≤ 24)) = true := by assumption
    have hn : 80 = n := by
      rw [← HN.out, if_neg]
      rintro ⟨hf, hs⟩
      obtain ⟨a, b, c, d⟩ := (Mf.front_iff M).1 hf
      rw [decide_eq_true d] at hq; exact absurd hq (by decide)
    go_ret
    exact ⟨congrArg (fun z : Nat => Ending.returned (Value.int .i64 z)) hn, B1.alloc B1.size _⟩
  have p4 : (!decide ((M.runs.length : Int) ≤ 24)) = false := by assumption
  have q4 : (M.runs.length : Int) ≤ 24 := by simpa using p4
  have hfr : Mf.Front M := (Mf.front_iff M).2 ⟨q1, q2, q3, q4⟩
  have g1 := (Mf.inB_iff.1 q2).1
  have g2 := (Mf.inB_iff.1 q2).2
  by_cases hst : Mf.Stand M
  · have hn : 0 = n := by rw [← HN.out, if_pos ⟨hfr, hst⟩]
    have HST := Lib.hid hst
    have HNN := Lib.hid hn
    clear hst hn hfr
    rw [rounds_succ]
    go_wp2_with (go_at_call 85; refine (goes5_any M A cap _ _ (hbo _) (hro _) (by omega) g1 g2 hM true ⟨fun _ => rfl, fun _ => HST.out⟩).mono ?_; rintro e w9 ⟨rfl, hB9⟩)
    rw [rounds_succ]
    go_wp2_with fail
    go_ret
    exact ⟨congrArg (fun z : Nat => Ending.returned (Value.int .i64 z)) HNN.out, (B1.alloc B1.size _).trans (hB9.mono (B1.alloc B1.size _).size)⟩
  · have hn : 80 = n := by rw [← HN.out, if_neg (fun h => hst h.2)]
    have HST := Lib.hid hst
    have HNN := Lib.hid hn
    clear hst hn hfr
    rw [rounds_succ]
    go_wp2_with (go_at_call 85; refine (goes5_any M A cap _ _ (hbo _) (hro _) (by omega) g1 g2 hM false ⟨fun h => absurd h HST.out, fun h => by cases h⟩).mono ?_; rintro e w9 ⟨rfl, hB9⟩)
    go_ret
    exact ⟨congrArg (fun z : Nat => Ending.returned (Value.int .i64 z)) HNN.out, (B1.alloc B1.size _).trans (hB9.mono (B1.alloc B1.size _).size)⟩
end Go.Proofs.YtdhnkcfmjibibaaGreatDoor
