/- Disks: lists sorted by name, and the data of a map of files. Plain laws; conditions: each theorem's own hypotheses. -/
import Derived.Test.YtgbeeghdoilmkaaDkB
namespace Go.Proofs.Ytgbeeghdoilmkaa
open Go.RowKit Go.Maps Go.Sort
set_option linter.unusedVariables false

section
variable {α β : Type} (key : α → List UInt8)
/-- Into its place. -/
def Dk.ins (x : α) : List α → List α
  | [] => [x]
  | y :: r => if bytesBefore (key x) (key y) then x :: y :: r else y :: Dk.ins x r
def Dk.del (nm : List UInt8) (l : List α) : List α := l.filter fun y => !(key y == nm)
def Dk.put (x : α) (l : List α) : List α := Dk.ins key x (Dk.del key (key x) l)
def Dk.get (nm : List UInt8) (l : List α) : Option α := l.find? fun y => key y == nm
def Dk.Up (l : List α) : Prop := l.Pairwise fun a b => bytesBefore (key a) (key b) = true

theorem Dk.mem_ins {x y : α} : ∀ {l : List α}, y ∈ Dk.ins key x l ↔ y = x ∨ y ∈ l
  | [] => by simp [Dk.ins]
  | z :: r => by
    unfold Dk.ins
    split
    · simp
    · rw [List.mem_cons, Dk.mem_ins (l := r), List.mem_cons]
      constructor
      · rintro (h | h | h)
        · exact .inr (.inl h)
        · exact .inl h
        · exact .inr (.inr h)
      · rintro (h | h | h)
        · exact .inr (.inl h)
        · exact .inl h
        · exact .inr (.inr h)
theorem Dk.len_ins (x : α) : ∀ l : List α, (Dk.ins key x l).length = l.length + 1
  | [] => rfl
  | z :: r => by
    unfold Dk.ins
    split
    · rfl
    · rw [List.length_cons, Dk.len_ins x r, List.length_cons]
theorem Dk.mem_del {nm : List UInt8} {l : List α} {y : α} : y ∈ Dk.del key nm l ↔ y ∈ l ∧ key y ≠ nm := by
  unfold Dk.del
  rw [List.mem_filter]
  simp
theorem Dk.up_del {l : List α} (h : Dk.Up key l) (nm : List UInt8) : Dk.Up key (Dk.del key nm l) := List.Pairwise.filter _ h
theorem Dk.up_ins (x : α) : ∀ {l : List α}, Dk.Up key l → (∀ y ∈ l, key y ≠ key x) → Dk.Up key (Dk.ins key x l)
  | [], _, _ => List.pairwise_singleton _ _
  | z :: r, h, hne => by
    obtain ⟨h1, h2⟩ := List.pairwise_cons.1 h
    unfold Dk.ins
    split
    · rename_i hb
      refine List.pairwise_cons.2 ⟨fun y hy => ?_, h⟩
      rcases List.mem_cons.1 hy with rfl | hy
      · exact hb
      · exact WideShapes.bytes_trans _ _ _ hb (h1 y hy)
    · rename_i hb
      have hzx : bytesBefore (key z) (key x) = true := by
        rcases WideAt.bytes_total _ _ (hne z (List.mem_cons_self ..)) with h | h
        · exact h
        · exact absurd h hb
      refine List.pairwise_cons.2 ⟨fun y hy => ?_, Dk.up_ins x h2 fun y hy => hne y (List.mem_cons_of_mem _ hy)⟩
      rcases (Dk.mem_ins key).1 hy with rfl | hy
      · exact hzx
      · exact h1 y hy
theorem Dk.up_put {l : List α} (h : Dk.Up key l) (x : α) : Dk.Up key (Dk.put key x l) :=
  Dk.up_ins key x (Dk.up_del key h _) fun y hy => ((Dk.mem_del key).1 hy).2
variable {key}
theorem Dk.map_ins {key' : β → List UInt8} {g : α → β} (hg : ∀ y, key' (g y) = key y) (x : α) : ∀ l : List α, (Dk.ins key x l).map g = Dk.ins key' (g x) (l.map g)
  | [] => rfl
  | z :: r => by
    unfold Dk.ins
    rw [List.map_cons]
    simp only [hg]
    split
    · rfl
    · rw [List.map_cons, Dk.map_ins hg x r]
theorem Dk.map_del {key' : β → List UInt8} {g : α → β} (hg : ∀ y, key' (g y) = key y) (nm : List UInt8) (l : List α) : (Dk.del key nm l).map g = Dk.del key' nm (l.map g) := by
  unfold Dk.del
  rw [List.filter_map]
  exact congrArg (List.map g) (List.filter_congr fun y _ => by simp [hg])
theorem Dk.map_put {key' : β → List UInt8} {g : α → β} (hg : ∀ y, key' (g y) = key y) (x : α) (l : List α) : (Dk.put key x l).map g = Dk.put key' (g x) (l.map g) := by
  unfold Dk.put
  rw [Dk.map_ins hg, Dk.map_del hg, hg]
theorem Dk.get_mem {nm : List UInt8} {l : List α} {x : α} (h : Dk.get key nm l = some x) : x ∈ l ∧ key x = nm := by
  have h2 := List.find?_some h
  exact ⟨List.mem_of_find?_eq_some h, by simpa using h2⟩
theorem Dk.get_none {nm : List UInt8} {l : List α} (h : Dk.get key nm l = none) : ∀ x ∈ l, key x ≠ nm := fun x hx => by
  have h2 := List.find?_eq_none.1 h x hx
  simpa using h2
theorem Dk.del_none {nm : List UInt8} {l : List α} (h : ∀ x ∈ l, key x ≠ nm) : Dk.del key nm l = l := List.filter_eq_self.2 fun x hx => by simp [h x hx]
/-- The names of a sorted list are the sorting of whatever holds just these. -/
theorem Dk.names_sort {ns ss : List (List UInt8)} (h : ns.Pairwise fun a b => bytesBefore a b = true) (hp : ss.Perm ns) : ss.mergeSort leB = ns := by
  have tr : ∀ a b c : List UInt8, leB a b = true → leB b c = true → leB a c = true := fun a b c h1 h2 => by simp only [leB, decide_eq_true_eq] at *; exact List.le_trans h1 h2
  have to : ∀ a b : List UInt8, (leB a b || leB b a) = true := fun a b => by simp only [leB, Bool.or_eq_true, decide_eq_true_eq]; exact List.le_total a b
  have hb : ∀ a b : List UInt8, bytesBefore a b = true → leB a b = true := by
    intro a
    induction a with
    | nil => intro b _; simp only [leB, decide_eq_true_eq]; exact List.nil_le b
    | cons x r ih =>
      intro b h
      cases b with
      | nil => simp [bytesBefore] at h
      | cons y s =>
        simp only [bytesBefore, Bool.or_eq_true, Bool.and_eq_true, decide_eq_true_eq, beq_iff_eq] at h
        simp only [leB, decide_eq_true_eq]
        rcases h with h | ⟨rfl, h⟩
        · exact List.cons_le_cons_iff.2 (.inl h)
        · have := ih s h
          simp only [leB, decide_eq_true_eq] at this
          exact List.cons_le_cons_iff.2 (.inr ⟨rfl, this⟩)
  refine List.Perm.eq_of_pairwise (le := fun a b => leB a b = true) (fun a b _ _ h1 h2 => ?_) (List.pairwise_mergeSort tr to ss) (h.imp fun {a b} h => hb a b h) ((List.mergeSort_perm ss leB).trans hp)
  simp only [leB, decide_eq_true_eq] at h1 h2
  exact List.le_antisymm h1 h2
end

/-- A file: its name, its bytes, how many are durable. -/
structure Dk.F where
  name : List UInt8
  data : List UInt8
  sure : Nat
/-- .. in memory: its block, the slice of its bytes. -/
structure Dk.X where
  f : Dk.F
  blk : Nat
  v : Value
abbrev Dk.X.nm (x : Dk.X) : List UInt8 := x.f.name
/-- How the map of these reads. -/
def Dk.dat (l : List Dk.X) : DataW Unit := .map (l.map fun x => (.string x.nm, .lit (.int .i64 x.blk)))
theorem Dk.dat_ins (x : Dk.X) : ∀ l : List Dk.X, (Dk.ins Dk.X.nm x l).map (fun x => ((Lit.string x.nm, DataW.lit (.int .i64 x.blk)) : Lit × DataW Unit)) = DataW.insert (.string x.nm, .lit (.int .i64 x.blk)) (l.map fun x => (.string x.nm, .lit (.int .i64 x.blk)))
  | [] => rfl
  | z :: r => by
    unfold Dk.ins
    rw [List.map_cons]
    unfold DataW.insert
    by_cases h : bytesBefore x.nm z.nm = true
    · rw [if_pos h, if_pos (show (Lit.string x.nm).before (.string z.nm) = true from h)]; rfl
    · rw [if_neg h, if_neg (show ¬ (Lit.string x.nm).before (.string z.nm) = true from h), List.map_cons, Dk.dat_ins x r]
theorem Dk.dat_del (nm : List UInt8) (l : List Dk.X) : (Dk.dat l).del (.string nm) = Dk.dat (Dk.del Dk.X.nm nm l) := by
  unfold Dk.dat
  rw [DataW.del_eq]
  unfold ChangeMaps.delKey Dk.del
  rw [List.filter_map]
  exact congrArg DataW.map (congrArg (List.map _) (List.filter_congr fun y _ => rfl))
theorem Dk.dat_put (x : Dk.X) (l : List Dk.X) : (Dk.dat l).put (.string x.nm) (.lit (.int .i64 x.blk)) = Dk.dat (Dk.put Dk.X.nm x l) := by
  unfold Dk.dat
  rw [DataW.put_eq]
  unfold ChangeMaps.putKey Dk.put
  rw [Dk.dat_ins]
  refine congrArg DataW.map (congrArg (DataW.insert _) ?_)
  unfold Dk.del
  rw [List.filter_map]
  exact congrArg (List.map _) (List.filter_congr fun y _ => rfl)
theorem Dk.dat_has (nm : List UInt8) (l : List Dk.X) : Maps.has (Dk.dat l) (.string nm) = (Dk.get Dk.X.nm nm l).isSome := by
  unfold Dk.dat
  rw [has_eq]
  unfold Dk.get
  induction l with
  | nil => rfl
  | cons z r ih =>
    rw [List.map_cons, List.any_cons, List.find?_cons]
    show ((z.nm == nm) || _) = _
    rw [ih]
    cases z.nm == nm <;> rfl
theorem Dk.dat_at (nm : List UInt8) (l : List Dk.X) (z : DataW Unit) : (Dk.dat l).atKey (.string nm) z = match Dk.get Dk.X.nm nm l with | some x => .lit (.int .i64 x.blk) | none => z := by
  have h : (l.map fun x => ((Lit.string x.nm, DataW.lit (.int .i64 x.blk)) : Lit × DataW Unit)).find? (fun p => p.1.sameKey (.string nm)) = (Dk.get Dk.X.nm nm l).map fun x => (Lit.string x.nm, DataW.lit (.int .i64 x.blk)) := by
    rw [List.find?_map]
    rfl
  unfold Dk.dat DataW.atKey
  simp only [h]
  cases Dk.get Dk.X.nm nm l <;> rfl
theorem Dk.dat_size (l : List Dk.X) : Maps.size (Dk.dat l) = l.length := by
  unfold Dk.dat Maps.size
  simp
theorem Dk.dat_keys (l : List Dk.X) : strKeys (Dk.dat l) = l.map Dk.X.nm := by
  unfold Dk.dat strKeys
  simp [strOf, Function.comp_def]
end Go.Proofs.Ytgbeeghdoilmkaa
