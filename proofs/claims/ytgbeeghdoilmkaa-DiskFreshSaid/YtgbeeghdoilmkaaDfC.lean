/- The law DiskFresh: rows that were handed out, beside the two disks; a file more or less. Conditions: each theorem's own hypotheses. -/
import Derived.Test.YtgbeeghdoilmkaaDfA
namespace Go.Proofs.Ytgbeeghdoilmkaa
open Go.RowKit Go.Maps Go.Sort
set_option linter.unusedVariables false
set_option linter.unusedSimpArgs false

/-- Blocks beside the disks are written over, or new. -/
theorem Df.redo {B d r : Nat} {W0 w w' : World} {m m' : Dk.M} {K K' : List (Nat × Obj)} (h : Dp.Duo B W0 w d m r m' K) (ho : Dk.Only (fun k => ∃ o, (k, o) ∈ K) w w') (hK : ∀ q ∈ K', w'.heap[q.1]? = some q.2 ∧ ((∃ o, (q.1, o) ∈ K) ∨ w.heap.size ≤ q.1)) : Dp.Duo B W0 w' d m r m' K' := by
  have hz := h.size
  obtain ⟨F, G, h1, h2, h3, h4, h5, h6, h7, h8⟩ := h
  refine ⟨F, G, h1.apart ho fun k hk e => ?_, h2.apart ho fun k hk e => ?_, h3, h4, fun q hq => ?_, h6, h7, h8.trans (ho.below hz fun k e => ?_)⟩
  · obtain ⟨o, e⟩ := e
    exact (h5 _ e).2.2.1 hk
  · obtain ⟨o, e⟩ := e
    exact (h5 _ e).2.2.2 hk
  · obtain ⟨a, b⟩ := hK q hq
    rcases b with ⟨o, b⟩ | b
    · obtain ⟨x, _, y⟩ := h5 _ b
      exact ⟨x, a, y⟩
    · exact ⟨Nat.le_trans hz b, a, fun hf => by have := h1.lt hf; omega, fun hf => by have := h2.lt hf; omega⟩
  · obtain ⟨o, e⟩ := e
    exact (h5 _ e).1
/-- A row that was handed out: elements of one cell. -/
structure Df.Row where
  e : TypeId
  v : Value
  xs : List Value
def Df.Row.own (R : Df.Row) (B : Nat) (X : World) : Prop := X.ownsRow B R.e 1 R.v R.xs.length R.xs
/-- Their blocks. -/
def Df.ks (rs : List Df.Row) (X : World) : List (Nat × Obj) := rs.filterMap fun R => R.v.ownBlock.bind fun b => (X.heap[b]?).map fun o => (b, o)
theorem Df.mem_ks {rs : List Df.Row} {X : World} {q : Nat × Obj} : q ∈ Df.ks rs X ↔ ∃ R ∈ rs, R.v.ownBlock = some q.1 ∧ X.heap[q.1]? = some q.2 := by
  unfold Df.ks
  rw [List.mem_filterMap]
  constructor
  · rintro ⟨R, hR, h⟩
    refine ⟨R, hR, ?_⟩
    cases hb : R.v.ownBlock with
    | none => rw [hb] at h; cases h
    | some b =>
      rw [hb] at h
      simp only [Option.bind_some] at h
      cases ho : X.heap[b]? with
      | none => rw [ho] at h; cases h
      | some o =>
        rw [ho] at h
        obtain rfl := Option.some.inj h
        exact ⟨rfl, ho⟩
  · rintro ⟨R, hR, h1, h2⟩
    exact ⟨R, hR, by rw [h1]; simp [h2]⟩
/-- Two disks and rows beside them. -/
structure Df.Lx (B : Nat) (W0 : World) (d : Nat) (m : Dk.M) (r : Nat) (m' : Dk.M) (rs : List Df.Row) (X : World) : Prop where
  duo : Dp.Duo B W0 X d m r m' (Df.ks rs X)
  rows : ∀ R ∈ rs, R.own B X
  dis : ∀ (i j : Nat) (R S : Df.Row) (b : Nat), rs[i]? = some R → rs[j]? = some S → R.v.ownBlock = some b → S.v.ownBlock = some b → i = j
section
variable {B d r : Nat} {W0 X X' : World} {m m' M1 M2 : Dk.M} {rs rs' : List Df.Row}
theorem Df.Row.own.lt {R : Df.Row} (h : R.own B X) {b : Nat} (hb : R.v.ownBlock = some b) : B ≤ b ∧ b < X.heap.size := World.ownsRow.lt h b hb
theorem Df.Lx.ink (h : Df.Lx B W0 d m r m' rs X) {R : Df.Row} (hR : R ∈ rs) {b : Nat} (hb : R.v.ownBlock = some b) : ∃ o, (b, o) ∈ Df.ks rs X :=
  ⟨X.heap[b]'((h.rows R hR).lt hb).2, Df.mem_ks.2 ⟨R, hR, hb, Array.getElem?_eq_getElem _⟩⟩
theorem Df.Lx.step (h : Df.Lx B W0 d m r m' rs X) (ho : Dk.Only (fun k => ∃ R ∈ rs, R.v.ownBlock = some k) X X') (hr : ∀ R ∈ rs', R.own B X') (hd : ∀ (i j : Nat) (R S : Df.Row) (b : Nat), rs'[i]? = some R → rs'[j]? = some S → R.v.ownBlock = some b → S.v.ownBlock = some b → i = j)
    (hn : ∀ R ∈ rs', ∀ b, R.v.ownBlock = some b → (∃ S ∈ rs, S.v.ownBlock = some b) ∨ X.heap.size ≤ b) : Df.Lx B W0 d m r m' rs' X' := by
  refine ⟨Df.redo h.duo (ho.wide fun k _ hk => ?_) fun q hq => ?_, hr, hd⟩
  · obtain ⟨R, hR, hb⟩ := hk
    exact h.ink hR hb
  · obtain ⟨R, hR, h1, h2⟩ := Df.mem_ks.1 hq
    refine ⟨h2, (hn R hR _ h1).imp (fun e => ?_) id⟩
    obtain ⟨S, hS, hb⟩ := e
    exact h.ink hS hb
theorem Df.Lx.later (h : Df.Lx B W0 d m r m' rs X) (hB : Below X.heap.size X X') : Df.Lx B W0 d m r m' rs X' :=
  h.step (.of hB) (fun R hR => Df.own_later (h.rows R hR) hB (Nat.le_refl _)) h.dis fun R hR b hb => .inl ⟨R, hR, hb⟩
theorem Df.Lx.push (h : Df.Lx B W0 d m r m' rs X) (hB : Below X.heap.size X X') {R : Df.Row} (hR : R.own X.heap.size X') : Df.Lx B W0 d m r m' (rs ++ [R]) X' := by
  have hz := h.duo.size
  have h2 := h.later hB
  have lo : ∀ S ∈ rs, ∀ b, S.v.ownBlock = some b → b < X.heap.size := fun S hS b hb => ((h.rows S hS).lt hb).2
  have hi : ∀ b, R.v.ownBlock = some b → X.heap.size ≤ b := fun b hb => (hR.lt hb).1
  have get : ∀ (i : Nat) (S : Df.Row), (rs ++ [R])[i]? = some S → rs[i]? = some S ∨ (i = rs.length ∧ S = R) := fun i S hp => by
    by_cases e : i < rs.length
    · rw [List.getElem?_append_left e] at hp; exact .inl hp
    · have hlen : i < (rs ++ [R]).length := (List.getElem?_eq_some_iff.1 hp).1
      rw [List.length_append] at hlen
      have hlen2 : i < rs.length + 1 := hlen
      obtain rfl : i = rs.length := by omega
      rw [List.getElem?_append_right (Nat.le_refl _), Nat.sub_self] at hp
      exact .inr ⟨rfl, (Option.some.inj hp).symm⟩
  refine h.step (.of hB) (fun S hS => ?_) (fun i j S T b hS hT h3 h4 => ?_) fun S hS b hb => ?_
  · rcases List.mem_append.1 hS with hS | hS
    · exact h2.rows S hS
    · obtain rfl := List.mem_singleton.1 hS
      exact Df.own_base hR hz
  · rcases get i S hS with h5 | ⟨rfl, rfl⟩ <;> rcases get j T hT with h6 | ⟨rfl, rfl⟩
    · exact h.dis i j S T b h5 h6 h3 h4
    · have := lo S (List.mem_of_getElem? h5) b h3; have := hi b h4; omega
    · have := lo T (List.mem_of_getElem? h6) b h4; have := hi b h3; omega
    · rfl
  · rcases List.mem_append.1 hS with hS | hS
    · exact .inl ⟨S, hS, hb⟩
    · obtain rfl := List.mem_singleton.1 hS
      exact .inr (hi b hb)
theorem Df.Lx.grow (h : Df.Lx B W0 d m r m' rs X) {i : Nat} {R R' : Df.Row} (hi : rs[i]? = some R) (ho : Dk.Only (fun k => R.v.ownBlock = some k) X X') (hR' : R'.own B X') (hb : ∀ b, R'.v.ownBlock = some b → R.v.ownBlock = some b ∨ X.heap.size ≤ b) : Df.Lx B W0 d m r m' (rs.set i R') X' := by
  have hm := List.mem_of_getElem? hi
  have get : ∀ (j : Nat) (S : Df.Row), (rs.set i R')[j]? = some S → (j = i ∧ S = R') ∨ (j ≠ i ∧ rs[j]? = some S) := fun j S hp => by
    by_cases e : i = j
    · subst e
      rw [List.getElem?_set_self (List.getElem?_eq_some_iff.1 hi).1] at hp
      exact .inl ⟨rfl, (Option.some.inj hp).symm⟩
    · rw [List.getElem?_set_ne e] at hp
      exact .inr ⟨fun e2 => e e2.symm, hp⟩
  have lo : ∀ S ∈ rs, ∀ b, S.v.ownBlock = some b → b < X.heap.size := fun S hS b hb => ((h.rows S hS).lt hb).2
  refine h.step (ho.wide fun k _ hk => ⟨R, hm, hk⟩) (fun S hS => ?_) (fun j l S T b hS hT h3 h4 => ?_) fun S hS b h3 => ?_
  · obtain ⟨j, hj⟩ := List.getElem?_of_mem hS
    rcases get j S hj with ⟨rfl, rfl⟩ | ⟨hne, h5⟩
    · exact hR'
    · have hS' := h.rows S (List.mem_of_getElem? h5)
      exact Df.own_of hS' fun k hk => ho.block k (hS'.lt hk).2 fun e => hne (h.dis j i S R k h5 hi hk e)
  · rcases get j S hS with ⟨rfl, rfl⟩ | ⟨n1, h5⟩ <;> rcases get l T hT with ⟨rfl, rfl⟩ | ⟨n2, h6⟩
    · rfl
    · rcases hb b h3 with e | e
      · exact h.dis _ _ R T b hi h6 e h4
      · have := lo T (List.mem_of_getElem? h6) b h4; omega
    · rcases hb b h4 with e | e
      · exact h.dis _ _ S R b h5 hi h3 e
      · have := lo S (List.mem_of_getElem? h5) b h3; omega
    · exact h.dis j l S T b h5 h6 h3 h4
  · obtain ⟨j, hj⟩ := List.getElem?_of_mem hS
    rcases get j S hj with ⟨rfl, rfl⟩ | ⟨hne, h5⟩
    · exact (hb b h3).imp (fun e => ⟨R, hm, e⟩) id
    · exact .inl ⟨S, List.mem_of_getElem? h5, h3⟩
theorem Df.Lx.moved (h : Df.Lx B W0 d m r m' rs X) (h2 : Dp.Duo B W0 X' d M1 r M2 (Df.ks rs X)) : Df.Lx B W0 d M1 r M2 rs X' := by
  have same : ∀ R ∈ rs, ∀ b, R.v.ownBlock = some b → X'.heap[b]? = X.heap[b]? := fun R hR b hb => by
    obtain ⟨o, ho⟩ := h.ink hR hb
    rw [h2.blk ho, h.duo.blk ho]
  refine ⟨h2.sub fun q hq => ?_, fun R hR => Df.own_of (h.rows R hR) fun b hb => same R hR b hb, h.dis⟩
  obtain ⟨R, hR, h3, h4⟩ := Df.mem_ks.1 hq
  exact Df.mem_ks.2 ⟨R, hR, h3, by rw [← same R hR _ h3]; exact h4⟩
theorem Df.Lx.start (h : Dp.Duo B W0 X d m r m' []) : Df.Lx B W0 d m r m' [] X := ⟨h, fun R hR => (List.not_mem_nil hR).elim, fun i j R S b hR => (by simp at hR)⟩
end
theorem Df.delete1 {B d r : Nat} {W0 w : World} {m m' : Dk.M} {K : List (Nat × Obj)} (h : Dp.Duo B W0 w d m r m' K) (nb : ByteArray) (hn : nb.size ≤ 9223372036854775807) {z : Int} {M : Dk.M} (hz : (Dk.delete m nb.data.toList).2 = z) (hM : (Dk.delete m nb.data.toList).1 = M) :
    Calls Try.prog 24 #[.pointer (some ⟨d, 0, none⟩), .string nb] w fun e W' => e = .returned (.int .i64 z) ∧ Dp.Duo B W0 W' d M r m' K := by
  subst hz hM
  exact h.call1 (Dk.delete_good h.good1 _) fun F hA hG => Dk.delete_any hA hG nb hn
theorem Df.delete2 {B d r : Nat} {W0 w : World} {m m' : Dk.M} {K : List (Nat × Obj)} (h : Dp.Duo B W0 w d m r m' K) (nb : ByteArray) (hn : nb.size ≤ 9223372036854775807) {z : Int} {M : Dk.M} (hz : (Dk.delete m' nb.data.toList).2 = z) (hM : (Dk.delete m' nb.data.toList).1 = M) :
    Calls Try.prog 69 #[.pointer (some ⟨r, 0, none⟩), .string nb] w fun e W' => e = .returned (.int .i64 z) ∧ Dp.Duo B W0 W' d m r M K := by
  subst hz hM
  exact h.call2 (Dk.delete_good h.good2 _) fun F hA hG => Dr.delete_any hA hG nb hn
set_option maxRecDepth 100000 in
set_option maxHeartbeats 4000000 in
theorem Df.changed_any {B d r : Nat} {W0 w : World} {m m' : Dk.M} (hl : Dp.Like m m') : ∃ M1 M2, Dp.Like M1 M2 ∧ ∀ (K : List (Nat × Obj)), Dp.Duo B W0 w d m r m' K →
    Calls Try.prog 35 #[.pointer (some ⟨d, 0, none⟩), .pointer (some ⟨r, 0, none⟩)] w fun e W' => e = .returned (.bool true) ∧ Dp.Duo B W0 W' d M1 r M2 K := by
  obtain ⟨nm, hnm⟩ : ∃ nm : ByteArray, (⟨#[97, 46, 102, 105, 108, 101]⟩ : ByteArray) = nm := ⟨_, rfl⟩
  have hns : nm.size ≤ 9223372036854775807 := by rw [← hnm]; decide
  obtain ⟨l1, e1⟩ := (Dp.like_ops hl).1 nm.data.toList
  obtain ⟨z, hz⟩ : ∃ z, (Dk.create m nm.data.toList).2 = z := ⟨_, rfl⟩
  obtain ⟨A1, hA1⟩ : ∃ A, (Dk.create m nm.data.toList).1 = A := ⟨_, rfl⟩
  obtain ⟨A2, hA2⟩ : ∃ A, (Dk.create m' nm.data.toList).1 = A := ⟨_, rfl⟩
  rw [hz] at e1
  rw [hA1, hA2] at l1
  obtain ⟨l2, e2⟩ := (Dp.like_ops l1).2.2.2.2.2.1 nm.data.toList
  obtain ⟨y, hy⟩ : ∃ y, (Dk.delete A1 nm.data.toList).2 = y := ⟨_, rfl⟩
  obtain ⟨D1, hD1⟩ : ∃ A, (Dk.delete A1 nm.data.toList).1 = A := ⟨_, rfl⟩
  obtain ⟨D2, hD2⟩ : ∃ A, (Dk.delete A2 nm.data.toList).1 = A := ⟨_, rfl⟩
  rw [hy] at e2
  rw [hD1, hD2] at l2
  by_cases h0 : z = 0
  · refine ⟨A1, A2, l1, fun K h => ?_⟩
    have k1 := Dp.Duo.create2 h nm hns e1.symm hA2
    have k2 := fun {w2 : World} (D : Dp.Duo B W0 w2 d m r A2 K) => D.create1 nm hns hz hA1
    subst h0
    clear hz hA1 hA2 e1 l1 hy hD1 hD2 e2 l2 h hns
    subst hnm
    go_enter Try.func35, Try.ntmps35
    go_wp2_with (first
      | (go_at_call 34; refine k1.mono ?_; clear k1; rintro e w2 ⟨rfl, E1⟩; have k3 := k2 E1; clear k2)
      | (go_at_call 23; refine k3.mono ?_; clear k3; rintro e w3 ⟨rfl, E2⟩))
    go_ret
    exact ⟨rfl, E2⟩
  · refine ⟨D1, D2, l2, fun K h => ?_⟩
    have k1 := Dp.Duo.create2 h nm hns e1.symm hA2
    have k2 := fun {w2 : World} (D : Dp.Duo B W0 w2 d m r A2 K) => D.create1 nm hns hz hA1
    have k5 := fun {w2 : World} (D : Dp.Duo B W0 w2 d A1 r A2 K) => Df.delete1 D nm hns hy hD1
    have k6 := fun {w2 : World} (D : Dp.Duo B W0 w2 d D1 r A2 K) => Df.delete2 D nm hns e2.symm hD2
    have u1 : (z == 0) = false := beq_eq_false_iff_ne.2 h0
    have u2 : (z == z) = true := beq_self_eq_true _
    have u3 : (y == y) = true := beq_self_eq_true _
    clear h0 hz hA1 hA2 e1 l1 hy hD1 hD2 e2 l2 h hns
    subst hnm
    go_enter Try.func35, Try.ntmps35
    go_wp2_with (first
      | (go_at_call 34; refine k1.mono ?_; clear k1; rintro e w2 ⟨rfl, E1⟩; have k3 := k2 E1; clear k2)
      | (go_at_call 23; refine k3.mono ?_; clear k3; rintro e w3 ⟨rfl, E2⟩; have k7 := k5 E2; clear k5)
      | (go_at_call 24; refine k7.mono ?_; clear k7; rintro e w4 ⟨rfl, E3⟩; have k8 := k6 E3; clear k6)
      | (go_at_call 69; refine k8.mono ?_; clear k8; rintro e w5 ⟨rfl, E4⟩))
    go_ret
    exact ⟨rfl, E4⟩
end Go.Proofs.Ytgbeeghdoilmkaa
/- The law DiskFresh: lists of names that were handed out, and the lists that hold them. Conditions: each theorem's own hypotheses. -/
namespace Go.Proofs.Ytgbeeghdoilmkaa
open Go.RowKit Go.Maps Go.Sort
set_option linter.unusedVariables false
set_option linter.unusedSimpArgs false

/-- A list of names, of the program and of the document: rows. -/
def Df.nr (v : Value) (l : List (List UInt8)) : Df.Row := ⟨9, v, l.map encStr⟩
def Df.nrs (ns : List (Value × Value × List (List UInt8))) : List Df.Row := ns.flatMap fun p => [Df.nr p.1 p.2.2, Df.nr p.2.1 p.2.2]
theorem Df.nrs_push (ns : List (Value × Value × List (List UInt8))) (v w : Value) (l : List (List UInt8)) : Df.nrs (ns ++ [(v, w, l)]) = (Df.nrs ns ++ [Df.nr v l]) ++ [Df.nr w l] := by
  unfold Df.nrs; rw [List.flatMap_append, List.append_assoc]; rfl
theorem Df.nrs_get : ∀ (ns : List (Value × Value × List (List UInt8))) (i : Nat) (p : Value × Value × List (List UInt8)), ns[i]? = some p → (Df.nrs ns)[2 * i]? = some (Df.nr p.1 p.2.2) ∧ (Df.nrs ns)[2 * i + 1]? = some (Df.nr p.2.1 p.2.2)
  | [], _, _, e => by simp at e
  | y :: L, 0, x, e => by
    obtain rfl : y = x := by simpa using e
    exact ⟨rfl, rfl⟩
  | y :: L, i + 1, x, e => by
    have ih := Df.nrs_get L i x (by simpa using e)
    have e1 : Df.nrs (y :: L) = Df.nr y.1 y.2.2 :: Df.nr y.2.1 y.2.2 :: Df.nrs L := rfl
    rw [e1, show 2 * (i + 1) = 2 * i + 2 by omega]
    exact ih
/-- All the rows. -/
def Df.all (vl vw : Value) (ns : List (Value × Value × List (List UInt8))) : List Df.Row := ⟨63, vl, ns.map fun p => p.1⟩ :: ⟨63, vw, ns.map fun p => p.2.1⟩ :: Df.nrs ns
section
variable {B d r : Nat} {W0 X X' : World} {m m' M1 M2 : Dk.M} {rs rs' : List Df.Row} {vl vw : Value} {ns : List (Value × Value × List (List UInt8))}
theorem Df.Lx.txs (h : Df.Lx B W0 d m r m' rs X) {v : Value} {l : List (List UInt8)} (hR : Df.nr v l ∈ rs) : Dw.Txs X B v l := by
  have h1 := h.rows _ hR
  unfold Df.Row.own Df.nr at h1
  simp only [List.length_map] at h1
  exact h1
theorem Df.own_nr {v : Value} {l : List (List UInt8)} (h : X.ownsRow B 9 1 v l.length (l.map encStr)) : (Df.nr v l).own B X := by
  unfold Df.Row.own Df.nr
  simp only [List.length_map]
  exact h
theorem Df.Lx.names1 (h : Df.Lx B W0 d m r m' rs X) :
    Calls Try.prog 31 #[.pointer (some ⟨d, 0, none⟩)] X fun e W' => ∃ v, e = .returned v ∧ Df.Lx B W0 d m r m' (rs ++ [Df.nr v (Dk.told m)]) W' := by
  have h0 := h
  obtain ⟨⟨F, G, h1, h2, h3, h4, h5, h6, h7, h8⟩, -, -⟩ := h
  exact (Dk.Names_any h1 h6).mono fun e W' ⟨v, he, hr, hb⟩ => ⟨v, he, h0.push hb (Df.own_nr hr)⟩
theorem Df.Lx.names2 (h : Df.Lx B W0 d m r m' rs X) {l : List (List UInt8)} (hl : Dk.told m' = l) :
    Calls Try.prog 36 #[.pointer (some ⟨r, 0, none⟩)] X fun e W' => ∃ v, e = .returned v ∧ Df.Lx B W0 d m r m' (rs ++ [Df.nr v l]) W' := by
  subst hl
  have h0 := h
  obtain ⟨⟨F, G, h1, h2, h3, h4, h5, h6, h7, h8⟩, -, -⟩ := h
  exact (Dr.names_any h2 h7.many).mono fun e W' ⟨v, he, hr, hb⟩ => ⟨v, he, h0.push hb (Df.own_nr hr)⟩
theorem Df.Lx.told_len (h : Df.Lx B W0 d m r m' rs X) : (Dk.told m).length ≤ 4096 := by
  have h1 := h.duo.good1.many
  unfold Dk.told
  split
  · exact Nat.zero_le _
  · rw [List.length_map]; exact h1
theorem Df.Lx.outer1 (h : Df.Lx B W0 d m r m' (Df.all vl vw ns) X) : X.ownsRow B 63 1 vl ns.length (ns.map fun p => p.1) := by
  have h1 := h.rows _ (List.mem_cons_self ..)
  unfold Df.Row.own at h1
  simp only [List.length_map] at h1
  exact h1
theorem Df.Lx.outer2 (h : Df.Lx B W0 d m r m' (Df.all vl vw ns) X) : X.ownsRow B 63 1 vw ns.length (ns.map fun p => p.2.1) := by
  have h1 := h.rows _ (List.mem_cons_of_mem _ (List.mem_cons_self ..))
  unfold Df.Row.own at h1
  simp only [List.length_map] at h1
  exact h1
/-- One of the outer rows is grown. -/
theorem Df.Lx.grown {R0 R1 : Df.Row} (h : Df.Lx B W0 d m r m' (R0 :: R1 :: rs) X) (o : Obj) {v' : Value} {n : Nat} {xs : List Value} (hn : xs.length = n) (hown : X'.ownsRow B R0.e 1 v' n xs) (hg : (X.alloc o).grownBy X' R0.v.ownBlock)
    (hat : v'.ownBlock = R0.v.ownBlock ∨ v'.ownBlock = some (X.alloc o).heap.size) : Df.Lx B W0 d m r m' (⟨R0.e, v', xs⟩ :: R1 :: rs) X' := by
  subst hn
  refine h.grow (i := 0) (R := R0) (R' := ⟨R0.e, v', xs⟩) rfl (((Dk.Only.refl _ X).alloc o).grown hg fun k hk => .inl hk) hown fun b hb => ?_
  rcases hat with e | e
  · exact .inl (e.symm.trans hb)
  · have e2 := Option.some.inj (e.symm.trans hb)
    rw [World.size_alloc] at e2
    exact .inr (by omega)
theorem Df.Lx.grown2 {R0 R1 : Df.Row} (h : Df.Lx B W0 d m r m' (R0 :: R1 :: rs) X) (o : Obj) {v' : Value} {n : Nat} {xs : List Value} (hn : xs.length = n) (hown : X'.ownsRow B R1.e 1 v' n xs) (hg : (X.alloc o).grownBy X' R1.v.ownBlock)
    (hat : v'.ownBlock = R1.v.ownBlock ∨ v'.ownBlock = some (X.alloc o).heap.size) : Df.Lx B W0 d m r m' (R0 :: ⟨R1.e, v', xs⟩ :: rs) X' := by
  subst hn
  refine h.grow (i := 1) (R := R1) (R' := ⟨R1.e, v', xs⟩) rfl (((Dk.Only.refl _ X).alloc o).grown hg fun k hk => .inl hk) hown fun b hb => ?_
  rcases hat with e | e
  · exact .inl (e.symm.trans hb)
  · have e2 := Option.some.inj (e.symm.trans hb)
    rw [World.size_alloc] at e2
    exact .inr (by omega)
/-- The lists as the law's apart wants them. -/
theorem Df.Lx.ap (h : Df.Lx B W0 d m r m' (Df.all vl vw ns) X) (hl : ∀ p ∈ ns, p.2.2.length ≤ 4096) : Df.Ap B (ns.map fun p => (p.1, p.2.2.length)) vl X := by
  have get : ∀ (i : Nat) (q : Value × Nat), (ns.map fun p => (p.1, p.2.2.length))[i]? = some q → ∃ p, ns[i]? = some p ∧ q = (p.1, p.2.2.length) := fun i q hq => by
    rw [List.getElem?_map] at hq
    cases hp : ns[i]? with
    | none => rw [hp] at hq; cases hq
    | some p => rw [hp] at hq; exact ⟨p, rfl, (Option.some.inj hq).symm⟩
  have at' : ∀ (i : Nat) (p : Value × Value × List (List UInt8)), ns[i]? = some p → (Df.all vl vw ns)[2 * i + 2]? = some (Df.nr p.1 p.2.2) := fun i p hp => (Df.nrs_get ns i p hp).1
  refine ⟨?_, fun i q hq => ?_, fun q hq => ?_, fun i j q s b hq hs h1 h2 => ?_, fun q hq b hb e => ?_⟩
  · have := h.outer1
    rw [List.length_map, List.map_map]
    exact this
  · obtain ⟨p, hp, rfl⟩ := get i q hq
    exact ⟨_, h.txs (List.mem_of_getElem? (at' i p hp))⟩
  · obtain ⟨p, hp, rfl⟩ := List.mem_map.1 hq
    exact Nat.le_trans (hl p hp) (by decide)
  · obtain ⟨p, hp, rfl⟩ := get i q hq
    obtain ⟨p', hp', rfl⟩ := get j s hs
    have := h.dis _ _ _ _ b (at' i p hp) (at' j p' hp') h1 h2
    omega
  · obtain ⟨i, hi⟩ := List.getElem?_of_mem hq
    obtain ⟨p, hp, rfl⟩ := get i q hi
    have := h.dis 0 _ _ _ b rfl (at' i p hp) e hb
    omega
theorem Df.Lx.apart (h : Df.Lx B W0 d m r m' (Df.all vl vw ns) X) (ho : Dk.Only (Df.Hb (ns.map fun p => (p.1, p.2.2.length))) X X') : Dp.Duo B W0 X' d m r m' [] := by
  refine Df.redo h.duo (ho.wide fun k _ hk => ?_) fun q hq => by cases hq
  obtain ⟨q, hq, hb⟩ := hk
  obtain ⟨p, hp, rfl⟩ := List.mem_map.1 hq
  obtain ⟨i, hi⟩ := List.getElem?_of_mem hp
  exact h.ink (List.mem_of_getElem? (show (Df.all vl vw ns)[2 * i + 2]? = some (Df.nr p.1 p.2.2) from (Df.nrs_get ns i p hi).1)) hb
end
/-- Between two rounds. -/
def Df.LR (B : Nat) (W0 : World) (d r : Nat) (m : Nat) (vl vw vi : Value) (X : World) : Prop :=
  ∃ (i : Nat) (M1 M2 : Dk.M) (ns : List (Value × Value × List (List UInt8))) (Av : Option Addr) (cv : Nat) (Aw : Option Addr) (cw : Nat),
    m + i = 5 ∧ ns.length = i ∧ vi = .int .i64 (i : Nat) ∧ vl = .slice Av ns.length cv ∧ vw = .slice Aw ns.length cw ∧ Dp.Like M1 M2 ∧ Df.Lx B W0 d M1 r M2 (Df.all vl vw ns) X ∧ ∀ p ∈ ns, p.2.2.length ≤ 4096
end Go.Proofs.Ytgbeeghdoilmkaa
