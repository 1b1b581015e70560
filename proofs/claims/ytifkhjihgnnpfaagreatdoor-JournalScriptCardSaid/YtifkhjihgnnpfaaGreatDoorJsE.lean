/- The law's bench: two disks, two journals; what is alike of both. Conditions: each theorem's own hypotheses. -/
import Derived.Test.YtifkhjihgnnpfaaGreatDoorZJsD
import Derived.Test.YtifkhjihgnnpfaaGreatDoorJlOpen
import Derived.Test.YtifkhjihgnnpfaaGreatDoorJsOpen
namespace Go.Proofs.YtifkhjihgnnpfaaGreatDoor
open Go.RowKit
set_option linter.unusedVariables false

section
variable {B d r j : Nat} {W0 w w' : World} {m m' m2 : Dk.M} {K K' : Nat → Prop}
theorem Mt.Two.oneB (h : Mt.Two B W0 w d m r m' K) (hj : K j) {g : FuncId} {args : Array Value} {e : Ending} {P : World → Prop}
    (f : ∀ K0, (∀ k, K k → K0 k) → Jl.Sit B W0 w d m K0 → Calls Tryz.prog g args w fun x W' => x = e ∧ (Jl.Sit B W0 W' d m2 K0 ∧ P W') ∧ Jl.KeptB K0 j w W') :
    Calls Tryz.prog g args w fun x W' => x = e ∧ (Mt.Two B W0 W' d m2 r m' K ∧ P W') ∧ Jl.KeptB K j w W' := by
  obtain ⟨F, G, h1, h2, h3, h4, h5, h6, h7, h8⟩ := h
  refine (f (fun k => K k ∨ G k) (fun k hk => .inl hk) ⟨F, h1, fun k hk => (h3 k hk).1, fun k hk => ?_, h6, h8⟩).mono fun x W' ⟨he, ⟨hs, hp⟩, hk⟩ => ⟨he, ⟨?_, hp⟩, hk.1, fun k hK => hk.2 k (.inl hK)⟩
  · rcases hk with hk | hk
    · exact ⟨(h5 k hk).1, (h5 k hk).2.1, (h5 k hk).2.2.1⟩
    · exact ⟨h4 k hk, h2.lt hk, fun hf => (h3 k hf).2 hk⟩
  · obtain ⟨F', q1, q2, q3, q4, q5⟩ := hs
    refine ⟨F', G, q1, h2.keep fun k hG => hk.2 k (.inr hG) fun e => (h5 j hj).2.2.2 (e ▸ hG), fun k hf => ⟨q2 k hf, fun hg => (q3 k (.inr hg)).2.2 hf⟩, h4, fun k hK => ?_, q4, h7, q5⟩
    exact ⟨(h5 k hK).1, Nat.lt_of_lt_of_le (h5 k hK).2.1 hk.1, (q3 k (.inl hK)).2.2, (h5 k hK).2.2.2⟩
theorem Mt.Two.twoB (h : Mt.Two B W0 w d m r m' K) (hj : K j) {g : FuncId} {args : Array Value} {e : Ending} {P : World → Prop}
    (f : ∀ K0, (∀ k, K k → K0 k) → Mt.Sit B W0 w r m' K0 → Calls Tryz.prog g args w fun x W' => x = e ∧ (Mt.Sit B W0 W' r m2 K0 ∧ P W') ∧ Jl.KeptB K0 j w W') :
    Calls Tryz.prog g args w fun x W' => x = e ∧ (Mt.Two B W0 W' d m r m2 K ∧ P W') ∧ Jl.KeptB K j w W' := by
  obtain ⟨F, G, h1, h2, h3, h4, h5, h6, h7, h8⟩ := h
  refine (f (fun k => K k ∨ F k) (fun k hk => .inl hk) ⟨G, h2, h4, fun k hk => ?_, h7, h8⟩).mono fun x W' ⟨he, ⟨hs, hp⟩, hk⟩ => ⟨he, ⟨?_, hp⟩, hk.1, fun k hK => hk.2 k (.inl hK)⟩
  · rcases hk with hk | hk
    · exact ⟨(h5 k hk).1, (h5 k hk).2.1, (h5 k hk).2.2.2⟩
    · exact ⟨(h3 k hk).1, h1.lt hk, (h3 k hk).2⟩
  · obtain ⟨G', q1, q2, q3, q4, q5⟩ := hs
    refine ⟨F, G', h1.keep fun k hF => hk.2 k (.inr hF) fun e => (h5 j hj).2.2.1 (e ▸ hF), q1, fun k hf => ⟨(h3 k hf).1, fun hg => (q3 k (.inr hf)).2.2 hg⟩, q2, fun k hK => ?_, h6, q4, q5⟩
    exact ⟨(h5 k hK).1, Nat.lt_of_lt_of_le (h5 k hK).2.1 hk.1, (h5 k hK).2.2.1, (q3 k (.inl hK)).2.2⟩
theorem Js.append1 (h : Mt.Two B W0 w d m r m' K) {J : Jl.Js} {n : Int} (hJ : Blk w j 79 (J.cells d)) (hj : K j) (hT : ∀ {w : World}, Below B W0 w → TabS w) {l : Nat} (hl : J.l = l) (hw : Jn.wideB (l : Int) = true) (hlast : 0 ≤ J.last ∧ J.last ≤ 4611686018427387904) (hs : J.nb.size ≤ 9223372036854775807) {q k i : Int} {c : ByteArray} (hc : c.size ≤ 9223372036854775807) (hbs : (Jn.write q k i c.data.toList).1.length ≤ 140737488355328)
    {m1 : Dk.M} {J1 : Jl.Js} {x : Int} (e : Jl.app m J l q k i c.data.toList = (m1, J1, x)) :
    Calls Tryz.prog 41 #[.pointer (some ⟨j, 0, none⟩), .agg #[.int .i64 q, .int .i64 k, .int .i64 i, .string c]] w fun e w' => e = .returned (.int .i64 x) ∧ (Mt.Two B W0 w' d m1 r m' K ∧ Blk w' j 79 (J1.cells d)) ∧ Jl.KeptB K j w w' :=
  h.oneB hj fun K0 hK0 S => by
    have := Jl.append_any (h := ⟨S, hJ, hK0 j hj⟩) hT hl hw hlast hs hc (Nat.le_trans hbs (by decide)) (q := q) (k := k) (i := i)
    rw [e] at this
    exact this.mono fun e w' ⟨a, b, c⟩ => ⟨a, ⟨b.sit, b.blk⟩, c⟩
theorem Js.append2 (h : Mt.Two B W0 w d m r m' K) {J : Jl.Js} {n : Int} (hJ : Blk w j 81 (Js.rc r J n)) (hj : K j) (hP : ∀ {w : World}, Below B W0 w → PowT w) (hnb : str (Jn.name n) = .string J.nb) {l : Nat} (hl : J.l = l) (hw : Jn.wideB (l : Int) = true) (hlast : 0 ≤ J.last ∧ J.last ≤ 4611686018427387904) {q k i : Int} {c : ByteArray} (hc : c.size ≤ 9223372036854775807) (hbs : (Jn.write q k i c.data.toList).1.length ≤ 140737488355328)
    {m1 : Dk.M} {J1 : Jl.Js} {x : Int} (e : Jl.app m' J l q k i c.data.toList = (m1, J1, x)) :
    Calls Tryz.prog 42 #[.pointer (some ⟨j, 0, none⟩), .agg #[.int .i64 q, .int .i64 k, .int .i64 i, .string c]] w fun e w' => e = .returned (.int .i64 x) ∧ (Mt.Two B W0 w' d m r m1 K ∧ Blk w' j 81 (Js.rc r J1 n)) ∧ Jl.KeptB K j w w' :=
  h.twoB hj fun K0 hK0 S =>
    (Js.refAppend_any (h := ⟨S, hJ, hK0 j hj⟩) hP hnb hl hw hlast hc hbs e).mono fun e w' ⟨a, b, c⟩ => ⟨a, ⟨b.sit, b.blk⟩, c⟩
theorem Js.sync1 (h : Mt.Two B W0 w d m r m' K) {J : Jl.Js} (hJ : Blk w j 79 (J.cells d)) (hj : K j) (hs : J.nb.size ≤ 9223372036854775807) {m1 : Dk.M} {J1 : Jl.Js} {x : Int} (e : Jl.sync m J = (m1, J1, x)) :
    Calls Tryz.prog 43 #[.pointer (some ⟨j, 0, none⟩)] w fun e w' => e = .returned (.int .i64 x) ∧ (Mt.Two B W0 w' d m1 r m' K ∧ Blk w' j 79 (J1.cells d)) ∧ Jl.KeptB K j w w' :=
  h.oneB hj fun K0 hK0 S => by
    have := Jl.sync_any (h := ⟨S, hJ, hK0 j hj⟩) hs
    rw [e] at this
    exact this.mono fun e w' ⟨a, b, c⟩ => ⟨a, ⟨b.sit, b.blk⟩, c⟩
theorem Js.sync2 (h : Mt.Two B W0 w d m r m' K) {J : Jl.Js} {n : Int} (hJ : Blk w j 81 (Js.rc r J n)) (hj : K j) (hP : ∀ {w : World}, Below B W0 w → PowT w) (hnb : str (Jn.name n) = .string J.nb) {m1 : Dk.M} {J1 : Jl.Js} {x : Int} (e : Jl.sync m' J = (m1, J1, x)) :
    Calls Tryz.prog 44 #[.pointer (some ⟨j, 0, none⟩)] w fun e w' => e = .returned (.int .i64 x) ∧ (Mt.Two B W0 w' d m r m1 K ∧ Blk w' j 81 (Js.rc r J1 n)) ∧ Jl.KeptB K j w w' :=
  h.twoB hj fun K0 hK0 S =>
    (Js.refSync_any (h := ⟨S, hJ, hK0 j hj⟩) hP hnb e).mono fun e w' ⟨a, b, c⟩ => ⟨a, ⟨b.sit, b.blk⟩, c⟩
theorem Js.tell1 (h : Mt.Two B W0 w d m r m' K) {J : Jl.Js} (hJ : Blk w j 79 (J.cells d)) (hj : K j) (i : Nat) :
    (Calls Tryz.prog 9 #[.pointer (some ⟨j, 0, none⟩)] (w.drewN i) fun e w' => e = .returned (.int .i64 J.last) ∧ w' = w.drewN i) ∧ (Calls Tryz.prog 11 #[.pointer (some ⟨j, 0, none⟩)] (w.drewN i) fun e w' => e = .returned (.int .i64 J.synced) ∧ w' = w.drewN i) := by
  have S : Jl.St B W0 (w.drewN i) d m j J K := (⟨h.sit1, hJ, hj⟩ : Jl.St B W0 w d m j J K).dn i
  exact ⟨(Jl.last_any S).mono fun e w' ⟨a, b⟩ => ⟨a, b.symm⟩, (Jl.synced_any S).mono fun e w' ⟨a, b⟩ => ⟨a, b.symm⟩⟩
theorem Js.tell2 (h : Mt.Two B W0 w d m r m' K) {J : Jl.Js} {n : Int} (hJ : Blk w j 81 (Js.rc r J n)) (hj : K j) (i : Nat) :
    (Calls Tryz.prog 10 #[.pointer (some ⟨j, 0, none⟩)] (w.drewN i) fun e w' => e = .returned (.int .i64 J.last) ∧ w' = w.drewN i) ∧ (Calls Tryz.prog 12 #[.pointer (some ⟨j, 0, none⟩)] (w.drewN i) fun e w' => e = .returned (.int .i64 J.synced) ∧ w' = w.drewN i) := by
  have S : Js.Rt B W0 (w.drewN i) r m' j J n K := (⟨h.sit2, hJ, hj⟩ : Js.Rt B W0 w r m' j J n K).dn i
  exact ⟨(Js.refLast_any S).mono fun e w' ⟨a, b⟩ => ⟨a, b.symm⟩, (Js.refSynced_any S).mono fun e w' ⟨a, b⟩ => ⟨a, b.symm⟩⟩
end
section
variable {a b : Dk.M}
/-- Two answers that are alike. -/
def Js.Like3 (x y : Dk.M × Jl.Js × Int) : Prop := Dp.Like x.1 y.1 ∧ x.2 = y.2
theorem Js.like3_ite {p : Prop} [Decidable p] {x y x' y' : Dk.M × Jl.Js × Int} (h1 : Js.Like3 x x') (h2 : Js.Like3 y y') : Js.Like3 (if p then x else y) (if p then x' else y') := by
  split
  · exact h1
  · exact h2
theorem Js.like_syncD (h : Dp.Like a b) (J : Jl.Js) : Js.Like3 (Jl.syncD a J) (Jl.syncD b J) := by
  obtain ⟨l1, l2⟩ := (Dp.like_ops h).2.2.1 J.nb.data.toList
  unfold Jl.syncD
  rw [l2]
  exact Js.like3_ite ⟨l1, rfl⟩ ⟨l1, rfl⟩
theorem Js.like_sync (h : Dp.Like a b) (J : Jl.Js) : Js.Like3 (Jl.sync a J) (Jl.sync b J) := by
  obtain ⟨l1, l2⟩ := Js.like_syncD h J
  unfold Jl.sync
  rw [h.off, h.age]
  refine Js.like3_ite ⟨h, rfl⟩ ⟨l1, ?_⟩
  show (_, _) = (_, _)
  rw [l2]
theorem Js.like_appD (h : Dp.Like a b) (J : Jl.Js) (l : Nat) (q k i : Int) (c : List UInt8) : Js.Like3 (Jl.appD a J l q k i c) (Jl.appD b J l q k i c) := by
  obtain ⟨l1, l2⟩ := (Dp.like_ops h).2.1 J.nb.data.toList (Jn.write q k i c).1
  unfold Jl.appD
  rw [l2]
  exact Js.like3_ite ⟨h, rfl⟩ (Js.like3_ite ⟨h, rfl⟩ (Js.like3_ite ⟨h, rfl⟩ (Js.like3_ite ⟨l1, rfl⟩ ⟨l1, rfl⟩)))
theorem Js.like_app (h : Dp.Like a b) (J : Jl.Js) (l : Nat) (q k i : Int) (c : List UInt8) : Js.Like3 (Jl.app a J l q k i c) (Jl.app b J l q k i c) := by
  obtain ⟨l1, l2⟩ := Js.like_appD h J l q k i c
  unfold Jl.app
  rw [h.off, h.age]
  refine Js.like3_ite ⟨h, rfl⟩ ⟨l1, ?_⟩
  show (_, _) = (_, _)
  rw [l2]
theorem Js.like_code (h : Dp.Like a b) (nm : List UInt8) : Dk.code a nm = Dk.code b nm := by unfold Dk.code; rw [h.off, h.files]
theorem Js.like_data (h : Dp.Like a b) (nm : List UInt8) : Dk.data a nm = Dk.data b nm := by unfold Dk.data; rw [h.files]
theorem Js.like_look (h : Dp.Like a b) (n sq l : Int) : Jl.lookR a n sq l = Jl.lookR b n sq l := by
  unfold Jl.lookR
  rw [Js.like_code h, Js.like_data h]
theorem Js.like_open (h : Dp.Like a b) (n sq l : Int) : Dp.Like (Js.openR a n sq l).1 (Js.openR b n sq l).1 ∧ (Js.openR a n sq l).2 = (Js.openR b n sq l).2 := by
  unfold Js.openR
  rw [Js.like_look h, Js.like_data h]
  obtain ⟨l1, l2⟩ := (Dp.like_ops h).2.2.2.1 (Jn.name n) (Jl.lookR b n sq l).2.1
  split
  · exact ⟨h, rfl⟩
  split
  · exact ⟨h, rfl⟩
  rw [l2]
  split
  · exact ⟨l1, rfl⟩
  · exact ⟨l1, rfl⟩
theorem Js.like_create (h : Dp.Like a b) (n sq l : Int) : Dp.Like2 (Jl.createR a n sq l) (Jl.createR b n sq l) := by
  unfold Jl.createR
  exact Dp.like_ite ((Dp.like_ops h).1 _) ⟨h, rfl⟩
end
/-- What always holds of a journal on the bench. -/
structure Js.Fine (J : Jl.Js) (n : Int) : Prop where
  nb : str (Jn.name n) = .string J.nb
  l : ∃ l : Nat, J.l = l ∧ Jn.wideB (l : Int) = true
  last : 0 ≤ J.last ∧ J.last ≤ 4611686018427387904
theorem Js.Fine.sync {J : Jl.Js} {n : Int} (h : Js.Fine J n) (m : Dk.M) : Js.Fine (Jl.sync m J).2.1 n := by
  obtain ⟨h1, h2, h3⟩ := h
  unfold Jl.sync
  split
  · exact ⟨h1, h2, h3⟩
  · unfold Jl.syncD
    split
    · exact ⟨h1, h2, h3⟩
    · exact ⟨h1, h2, h3⟩
theorem Js.Fine.app {J : Jl.Js} {n : Int} (h : Js.Fine J n) (m : Dk.M) (l : Nat) (q k i : Int) (c : List UInt8) : Js.Fine (Jl.app m J l q k i c).2.1 n := by
  obtain ⟨h1, h2, h3⟩ := h
  unfold Jl.app
  split
  · exact ⟨h1, h2, h3⟩
  · unfold Jl.appD
    split
    · exact ⟨h1, h2, h3⟩
    rename_i hw
    split
    · exact ⟨h1, h2, h3⟩
    split
    · exact ⟨h1, h2, h3⟩
    split
    · refine ⟨h1, h2, ?_⟩
      show 0 ≤ q ∧ q ≤ _
      unfold Jn.write at hw
      by_cases hq : q < 1 ∨ 1152921504606846976 < q
      · rw [if_pos hq] at hw
        exact absurd (by decide) hw
      · omega
    · exact ⟨h1, h2, h3⟩
/-- The journals' pointers on the bench. -/
def Js.jp : Option (Nat × Nat × Jl.Js × Int) → Value
  | none => .pointer none
  | some (j, _, _, _) => .pointer (some ⟨j, 0, none⟩)
def Js.rp : Option (Nat × Nat × Jl.Js × Int) → Value
  | none => .pointer none
  | some (_, j, _, _) => .pointer (some ⟨j, 0, none⟩)
/-- The bench's blocks beside the disks. -/
def Js.KO (bb : Nat) (o : Option (Nat × Nat × Jl.Js × Int)) (k : Nat) : Prop := k = bb ∨ ∃ j rj J n, o = some (j, rj, J, n) ∧ (k = j ∨ k = rj)
structure Js.Be (W0 w : World) (d r bb : Nat) (m m' : Dk.M) (o : Option (Nat × Nat × Jl.Js × Int)) (N : Int) : Prop where
  two : Mt.Two W0.heap.size W0 w d m r m' (Js.KO bb o)
  blk : Blk w bb 31 #[.pointer (some ⟨d, 0, none⟩), .pointer (some ⟨r, 0, none⟩), Js.jp o, Js.rp o, .int .i64 N]
  js : ∀ j rj J n, o = some (j, rj, J, n) → Blk w j 79 (J.cells d) ∧ Blk w rj 81 (Js.rc r J n) ∧ bb ≠ j ∧ bb ≠ rj ∧ j ≠ rj ∧ Js.Fine J n
end Go.Proofs.YtifkhjihgnnpfaaGreatDoor
