/- Disks: a file put in; images read, as a plain function. Conditions: each theorem's own hypotheses. -/
import Derived.Test.YtgbeeghdoilmkaaDkM
namespace Go.Proofs.Ytgbeeghdoilmkaa
open Go.RowKit Go.Maps Go.Sort
set_option linter.unusedVariables false

section
variable {α : Type} {key : α → List UInt8}
theorem Dk.perm_ins (x : α) : ∀ l : List α, (Dk.ins key x l).Perm (x :: l)
  | [] => List.Perm.refl _
  | y :: r => by
    unfold Dk.ins
    split
    · exact List.Perm.refl _
    · exact ((Dk.perm_ins x r).cons y).trans (List.Perm.swap x y r)
theorem Dk.ins_last {x : α} : ∀ {l : List α}, (∀ y ∈ l, bytesBefore (key y) (key x) = true) → Dk.ins key x l = l ++ [x]
  | [], _ => rfl
  | y :: r, h => by
    have hy := h y (List.mem_cons_self ..)
    have hn : ¬ bytesBefore (key x) (key y) = true := fun hb => by
      have := WideShapes.bytes_trans _ _ _ hy hb
      rw [WideAt.bytes_irrefl] at this
      cases this
    unfold Dk.ins
    rw [if_neg hn, Dk.ins_last fun z hz => h z (List.mem_cons_of_mem _ hz), List.cons_append]
theorem Dk.get_none_iff {nm : List UInt8} {l : List α} : Dk.get key nm l = none ↔ ∀ x ∈ l, key x ≠ nm := by
  refine ⟨Dk.get_none, fun h => ?_⟩
  unfold Dk.get
  rw [List.find?_eq_none]
  intro x hx
  simpa using h x hx
end
/-- Two files lie apart. -/
def Dk.Apart (x y : Dk.X) : Prop := x.blk ≠ y.blk ∧ ∀ k, x.v.ownBlock = some k → y.v.ownBlock ≠ some k
theorem Dk.Apart.symm {x y : Dk.X} (h : Dk.Apart x y) : Dk.Apart y x := ⟨fun e => h.1 e.symm, fun k h1 h2 => h.2 k h2 h1⟩
theorem Dk.apart_perm {l r : List Dk.X} (h : l.Pairwise Dk.Apart) (hp : l.Perm r) : r.Pairwise Dk.Apart := (hp.pairwise_iff fun h => Dk.Apart.symm h).1 h
/-- A new file in the map. -/
theorem Dk.Stand.insert {W W' : World} {d b : Nat} {m m' : Dk.M} {L : List Dk.X} (h : Dk.Stand W d b m L) (x : Dk.X)
    (hd : Blk W' d 77 (Dk.cells b m')) (hm : W'.ownsMap Try.prog 9 Dk.R b (L.length + 1) ((Dk.dat L).put (.string x.nm) (.lit (.int .i64 x.blk))))
    (hn : Dk.get Dk.X.nm x.nm L = none) (hf : m'.files = Dk.ins Dk.F.name x.f m.files) (hx1 : Blk W' x.blk 83 #[x.v, .int .i64 x.f.sure]) (hx2 : Dk.Row W' x.v x.f.data)
    (hb : W.heap.size ≤ x.blk) (ho : ∀ k, x.v.ownBlock = some k → W.heap.size ≤ k) (hk : ∀ k, k < W.heap.size → k ≠ d → k ≠ b → W'.heap[k]? = W.heap[k]?) : Dk.Stand W' d b m' (Dk.ins Dk.X.nm x L) := by
  have hlone := h.lone
  have hput : Dk.put Dk.X.nm x L = Dk.ins Dk.X.nm x L := by
    unfold Dk.put
    rw [Dk.del_none (Dk.get_none hn)]
  have hbl : ∀ y ∈ L, (∀ k, (y.blk = k ∨ y.v.ownBlock = some k) → k ≠ b) := by
    intro y hy k hk2 hkb
    subst hkb
    obtain ⟨es, clock, hmb, _⟩ := h.map
    rcases hk2 with e | e
    · have h1 := (h.file y hy).1
      unfold Blk at h1
      rw [e, hmb] at h1
      cases h1
    · obtain ⟨cur, fz, h1⟩ := (h.file y hy).2.type e
      rw [hmb] at h1
      cases h1
  refine ⟨hd, ?_, ?_, ?_, ?_⟩
  · rw [Dk.len_ins]
    rw [Dk.dat_put, hput] at hm
    exact hm
  · rw [Dk.map_ins (g := fun x : Dk.X => x.f) (key' := Dk.F.name) (fun y => rfl) x L, h.fs, hf]
  · intro y hy
    rcases (Dk.mem_ins Dk.X.nm).1 hy with rfl | hy
    · exact ⟨hx1, hx2⟩
    · obtain ⟨h1, h2⟩ := h.file y hy
      refine ⟨?_, h2.keep fun k e => hk k (h2.lt k e) (hlone k (.inr ⟨y, hy, .inr e⟩)) (hbl y hy k (.inr e))⟩
      exact (hk y.blk h1.lt (hlone _ (.inr ⟨y, hy, .inl rfl⟩)) (hbl y hy _ (.inl rfl))).trans h1
  · refine Dk.apart_perm ?_ (Dk.perm_ins x L).symm
    refine List.pairwise_cons.2 ⟨fun y hy => ?_, h.apart⟩
    obtain ⟨h1, h2⟩ := h.file y hy
    refine ⟨fun e => ?_, fun k e1 e2 => ?_⟩
    · have := h1.lt; omega
    · have := h2.lt k e2
      have := ho k e1
      omega

/-- The last name. -/
def Dk.lastN (l : List Dk.F) : List UInt8 := (l.getLast?.map Dk.F.name).getD []
/-- The files of an image; none: it is none. -/
def Dk.scan : Nat → List Dk.F → List UInt8 → Option (List Dk.F)
  | 0, _, _ => none
  | n + 1, acc, l =>
    if l = [] then some acc
    else match Dk.one l with
      | none => none
      | some (nm, data, rest) => if bytesBefore (Dk.lastN acc) nm = true ∧ acc.length ≠ 4096 then Dk.scan n (acc ++ [⟨nm, data, data.length⟩]) rest else none
theorem Dk.scan_nil (n : Nat) (acc : List Dk.F) : Dk.scan (n + 1) acc [] = some acc := rfl
theorem Dk.scan_none {n : Nat} {acc : List Dk.F} {l : List UInt8} (hl : l ≠ []) (h : Dk.one l = none) : Dk.scan (n + 1) acc l = none := by
  show (if l = [] then _ else _) = _
  rw [if_neg hl, h]
theorem Dk.scan_some {n : Nat} {acc : List Dk.F} {l nm data rest : List UInt8} (hl : l ≠ []) (h : Dk.one l = some (nm, data, rest)) :
    Dk.scan (n + 1) acc l = if bytesBefore (Dk.lastN acc) nm = true ∧ acc.length ≠ 4096 then Dk.scan n (acc ++ [⟨nm, data, data.length⟩]) rest else none := by
  show (if l = [] then _ else _) = _
  rw [if_neg hl, h]
theorem Dk.one_good {l nm data rest : List UInt8} (h : Dk.one l = some (nm, data, rest)) : Dk.named nm = true ∧ data.length ≤ 268435456 ∧ l.length = 1 + nm.length + 4 + data.length + rest.length := by
  cases l with
  | nil => cases h
  | cons c r =>
    rw [Dk.one_cons] at h
    split at h
    · cases h
    · rename_i h1
      split at h
      · rename_i h2
        injection h with h
        injection h with e1 h
        injection h with e2 e3
        refine ⟨e1 ▸ h2.1, ?_, ?_⟩
        · rw [← e2, List.length_take]; omega
        · rw [← e1, ← e2, ← e3]
          simp only [List.length_cons, List.length_take, List.length_drop]
          omega
      · cases h
theorem Dk.lastN_snoc (l : List Dk.F) (f : Dk.F) : Dk.lastN (l ++ [f]) = f.name := by
  unfold Dk.lastN
  rw [List.getLast?_concat]; rfl
/-- What is read stays in order. -/
theorem Dk.up_snoc {l : List Dk.F} (h : Dk.Up Dk.F.name l) (f : Dk.F) (hb : bytesBefore (Dk.lastN l) f.name = true) : (∀ y ∈ l, bytesBefore y.name f.name = true) ∧ Dk.Up Dk.F.name (l ++ [f]) := by
  have hall : ∀ y ∈ l, bytesBefore y.name f.name = true := by
    rcases List.eq_nil_or_concat l with rfl | ⟨r, z, rfl⟩
    · intro y hy; cases hy
    · rw [List.concat_eq_append] at h hb ⊢
      rw [Dk.lastN_snoc] at hb
      intro y hy
      rcases List.mem_append.1 hy with hy | hy
      · have := (List.pairwise_append.1 h).2.2 y hy z (List.mem_singleton.2 rfl)
        exact WideShapes.bytes_trans _ _ _ this hb
      · rw [List.mem_singleton.1 hy]
        exact hb
  refine ⟨hall, List.pairwise_append.2 ⟨h, List.pairwise_singleton _ _, fun a ha y hy => ?_⟩⟩
  rw [List.mem_singleton.1 hy]
  exact hall a ha
/-- What Open makes of a scan. -/
def Dk.verdict (cap : Int) : Option (List Dk.F) → Except Int Dk.M
  | none => .error 46
  | some fs => if cap < Dk.used fs then .error 44 else .ok { Dk.fresh cap.toNat with files := fs }
/-- What Open makes of an image. -/
def Dk.opened (l : List UInt8) (cap : Int) : Except Int Dk.M :=
  if cap < 0 ∨ 1073741824 < cap then .error 13
  else match l with
    | [] => .error 46
    | c :: r =>
      if c = 68 then Dk.verdict cap (Dk.scan (r.length + 1) [] r) else .error 46
/-- Every list that a scan yields is a good one. -/
structure Dk.Fine (l : List Dk.F) : Prop where
  up : Dk.Up Dk.F.name l
  file : ∀ f ∈ l, Dk.named f.name = true ∧ f.data.length ≤ 268435456 ∧ f.sure = f.data.length
  many : l.length ≤ 4096
theorem Dk.Fine.nil : Dk.Fine [] := ⟨List.Pairwise.nil, fun f hf => (List.not_mem_nil hf).elim, by decide⟩
theorem Dk.Fine.snoc {l : List Dk.F} (h : Dk.Fine l) {nm data : List UInt8} (hn : Dk.named nm = true) (hd : data.length ≤ 268435456) (hb : bytesBefore (Dk.lastN l) nm = true) (hm : l.length ≠ 4096) : Dk.Fine (l ++ [⟨nm, data, data.length⟩]) := by
  refine ⟨(Dk.up_snoc h.up _ hb).2, fun f hf => ?_, by rw [List.length_append, List.length_singleton]; have := h.many; omega⟩
  rcases List.mem_append.1 hf with hf | hf
  · exact h.file f hf
  · rw [List.mem_singleton.1 hf]
    exact ⟨hn, hd, rfl⟩
theorem Dk.Fine.scan : ∀ (n : Nat) (acc : List Dk.F) (l : List UInt8) (fs : List Dk.F), Dk.Fine acc → Dk.scan n acc l = some fs → Dk.Fine fs
  | 0, acc, l, fs, ha, h => by cases h
  | n + 1, acc, l, fs, ha, h => by
    by_cases hl : l = []
    · subst hl
      rw [Dk.scan_nil] at h
      injection h with h
      exact h ▸ ha
    · cases ho : Dk.one l with
      | none => rw [Dk.scan_none hl ho] at h; cases h
      | some y =>
        obtain ⟨nm, data, rest⟩ := y
        rw [Dk.scan_some hl ho] at h
        obtain ⟨h1, h2, _⟩ := Dk.one_good ho
        split at h
        · rename_i hc
          exact Dk.Fine.scan n _ _ fs (ha.snoc h1 h2 hc.1 hc.2) h
        · cases h
set_option maxRecDepth 100000 in
theorem Dk.Fine.used {l : List Dk.F} (h : Dk.Fine l) : Dk.used l ≤ 1099511627776 := by
  have : ∀ l : List Dk.F, (∀ f ∈ l, f.data.length ≤ 268435456) → Dk.used l ≤ l.length * 268435456 := by
    intro l
    induction l with
    | nil => exact fun _ => Nat.le_refl _
    | cons f r ih =>
      intro h
      have h1 := h f (List.mem_cons_self ..)
      have h2 := ih fun g hg => h g (List.mem_cons_of_mem _ hg)
      rw [Dk.used_cons, List.length_cons]
      omega
  have h1 := this l fun f hf => (h.file f hf).2.1
  have := h.many
  omega
/-- A disk that was opened is a good one, and nothing of it is unsynced. -/
theorem Dk.opened_good {l : List UInt8} {cap : Int} {m : Dk.M} (h : Dk.opened l cap = .ok m) : Dk.Good m ∧ Dk.Fine m.files := by
  unfold Dk.opened at h
  split at h
  · cases h
  · rename_i hc
    cases l with
    | nil => cases h
    | cons c r =>
      simp only at h
      split at h
      · cases hs : Dk.scan (r.length + 1) [] r with
        | none => rw [hs] at h; cases h
        | some fs =>
          rw [hs] at h
          unfold Dk.verdict at h
          simp only at h
          split at h
          · cases h
          · rename_i hu
            injection h with h
            subst h
            have hF := Dk.Fine.scan _ _ _ _ Dk.Fine.nil hs
            exact ⟨⟨hF.up, fun f hf => ⟨(hF.file f hf).1, (hF.file f hf).2.1, Nat.le_of_eq (hF.file f hf).2.2⟩, hF.many, by show cap.toNat ≤ _; omega, by show Dk.used fs ≤ cap.toNat; omega, by show 0 ≤ 9223372036854775807; decide⟩, hF⟩
      · cases h
end Go.Proofs.Ytgbeeghdoilmkaa
