/- What a search by chunks finds, in plain Lean: no program in sight. Conditions: each theorem's own hypotheses. -/
import Derived.Test.YtlfeibaghfcpaaaDoorHpA
import Derived.Test.YtlfeibaghfcpaaaDoorBtE
import Derived.Test.YtlfeibaghfcpaaaDoorBkP
import Derived.Test.YtlfeibaghfcpaaaDoorMn
namespace Go.Proofs.YtlfeibaghfcpaaaDoor
open Go.RowKit
set_option linter.unusedVariables false
set_option linter.unusedSimpArgs false

/-- A pair, a hit. -/
structure Pb.P where
  id : Int
  c : List UInt8
  deriving DecidableEq, Inhabited
structure Pb.H where
  d : Int
  id : Int
  c : List UInt8
  deriving DecidableEq, Inhabited
def Pb.hit (q : List UInt8) (p : Pb.P) : Pb.H := ⟨(Bk.far q p.c : Nat), p.id, p.c⟩
theorem Pb.hit_inj (q : List UInt8) {a b : Pb.P} (h : Pb.hit q a = Pb.hit q b) : a = b := by
  cases a; cases b
  unfold Pb.hit at h
  injection h with h1 h2 h3
  simp_all

/-- In how many bits chunk j of two codes is unlike. -/
def Pb.apart (w m : Nat) (q c : List UInt8) (j : Nat) : Nat := Mm.wt 64 (Bt.val q w m j ^^^ Bt.val c w m j)
theorem Pb.apart_le (w m : Nat) (q c : List UInt8) (j : Nat) (hb : Bt.bits w m j ≤ 64) : Pb.apart w m q c j ≤ Bt.bits w m j := by
  unfold Pb.apart
  have h1 : Bt.val q w m j ^^^ Bt.val c w m j < 2 ^ Bt.bits w m j := Nat.xor_lt_two_pow (Bt.num_lt _ _ _) (Bt.num_lt _ _ _)
  rw [Mm.wt_64 _ _ h1 hb]
  exact Mm.wt_le _ _
def Pb.nearTo (w m : Nat) (q c : List UInt8) : Nat → Nat
  | 0 => 1048576
  | j + 1 => min (Pb.nearTo w m q c j) (Pb.apart w m q c j)
theorem Pb.nearTo_lt (w m : Nat) (q c : List UInt8) {n : Nat} (hn : n ≤ 1048576) : ∀ k, Pb.nearTo w m q c k < n ↔ ∃ j, j < k ∧ Pb.apart w m q c j < n
  | 0 => by simp [Pb.nearTo]; omega
  | k + 1 => by
    have ih := Pb.nearTo_lt w m q c hn k
    rw [Pb.nearTo, Nat.lt_iff_add_one_le, Nat.min_def]
    constructor
    · intro h
      split at h
      · obtain ⟨j, h1, h2⟩ := ih.1 (by omega)
        exact ⟨j, by omega, h2⟩
      · exact ⟨k, by omega, by omega⟩
    · rintro ⟨j, h1, h2⟩
      split
      · rename_i hle
        by_cases e : j = k
        · subst e; omega
        · exact Nat.lt_iff_add_one_le.1 (ih.2 ⟨j, by omega, h2⟩)
      · rename_i hle
        by_cases e : j = k
        · subst e; omega
        · have := ih.2 ⟨j, by omega, h2⟩
          omega
def Pb.near (w m : Nat) (q c : List UInt8) : Nat := Pb.nearTo w m q c m
theorem Pb.near_lt (w m : Nat) (q c : List UInt8) {n : Nat} (hn : n ≤ 1048576) : Pb.near w m q c < n ↔ ∃ j, j < m ∧ Pb.apart w m q c j < n := Pb.nearTo_lt w m q c hn m

/-- Is a code met ahead of chunk j of shell n? -/
def Pb.sn (w m : Nat) (q : List UInt8) (n j : Nat) (c : List UInt8) : Bool := decide (Pb.near w m q c < n) || (List.range j).any fun i => Pb.apart w m q c i == n
theorem Pb.sn_zero (w m : Nat) (q : List UInt8) (n : Nat) (c : List UInt8) : Pb.sn w m q n 0 c = decide (Pb.near w m q c < n) := by simp [Pb.sn]
theorem Pb.sn_succ (w m : Nat) (q : List UInt8) (n j : Nat) (c : List UInt8) : Pb.sn w m q n (j + 1) c = (Pb.sn w m q n j c || Pb.apart w m q c j == n) := by
  simp [Pb.sn, List.range_succ, List.any_append, Bool.or_assoc]
/-- A chunk that has fewer bits than the shell adds nothing. -/
theorem Pb.sn_skip (w m : Nat) (q : List UInt8) (n j : Nat) (c : List UInt8) (hb : Bt.bits w m j ≤ 64) (h : Bt.bits w m j < n) : Pb.sn w m q n (j + 1) c = Pb.sn w m q n j c := by
  rw [Pb.sn_succ]
  have := Pb.apart_le w m q c j hb
  have e : (Pb.apart w m q c j == n) = false := by rw [beq_eq_false_iff_ne]; omega
  rw [e, Bool.or_false]
theorem Pb.sn_all (w m : Nat) (q : List UInt8) (n : Nat) (c : List UInt8) (hn : n < 1048576) : Pb.sn w m q n m c = decide (Pb.near w m q c < n + 1) := by
  unfold Pb.sn
  rw [Bool.eq_iff_iff, Bool.or_eq_true, decide_eq_true_iff, decide_eq_true_iff, List.any_eq_true, Pb.near_lt w m q c (by omega), Pb.near_lt w m q c (by omega)]
  constructor
  · rintro (⟨j, h1, h2⟩ | ⟨j, h1, h2⟩)
    · exact ⟨j, h1, by omega⟩
    · rw [beq_iff_eq] at h2
      exact ⟨j, List.mem_range.1 h1, by omega⟩
  · rintro ⟨j, h1, h2⟩
    by_cases e : Pb.apart w m q c j = n
    · exact .inr ⟨j, List.mem_range.2 h1, by rw [beq_iff_eq]; exact e⟩
    · exact .inl ⟨j, h1, by omega⟩

/-- What stands for one test and what stands for another one and not for the first. -/
theorem Pb.filter_or {α : Type} (p r : α → Bool) : ∀ l : List α, (l.filter p ++ l.filter fun x => r x && !p x).Perm (l.filter fun x => p x || r x)
  | [] => List.Perm.refl _
  | x :: l => by
    have ih := Pb.filter_or p r l
    cases h1 : p x with
    | true => simp [h1]; exact ih
    | false =>
      cases h2 : r x with
      | true => simp [h1, h2]; exact List.perm_middle.trans (ih.cons x)
      | false => simp [h1, h2]; exact ih
/-- The candidates' pairs grow by what was found at a value. -/
theorem Pb.met_perm {PP L : List Pb.P} {A : List Pb.H} {q : List UInt8} {s v s' : List UInt8 → Bool} (hL : L.Perm (PP.filter fun p => v p.c)) (hA : A.Perm ((PP.filter fun p => s p.c).map (Pb.hit q))) (hs : ∀ c, s' c = (s c || v c)) :
    (A ++ (L.filter fun p => !s p.c).map (Pb.hit q)).Perm ((PP.filter fun p => s' p.c).map (Pb.hit q)) := by
  have e : (fun p : Pb.P => s' p.c) = fun p => s p.c || v p.c := funext fun p => hs p.c
  rw [e]
  refine (hA.append ((hL.filter _).map _)).trans ?_
  rw [← List.map_append, List.filter_filter]
  refine List.Perm.map _ ?_
  have := Pb.filter_or (fun p : Pb.P => s p.c) (fun p => v p.c) PP
  refine List.Perm.trans (List.Perm.of_eq ?_) this
  congr 1
  exact List.filter_congr fun x _ => Bool.and_comm _ _

/-- Steps of a shell, and of n shells: by shells; by chunks. -/
def Pb.cost (b d n : Nat) : Nat := if n ≤ b then min (Mm.C b n) d else 0
def Pb.shellTo (bits vals : Nat → Nat) (n : Nat) : Nat → Nat
  | 0 => 0
  | j + 1 => Pb.shellTo bits vals n j + Pb.cost (bits j) (vals j) n
def Pb.stepsTo (bits vals : Nat → Nat) (m : Nat) : Nat → Nat
  | 0 => 0
  | n + 1 => Pb.stepsTo bits vals m n + Pb.shellTo bits vals n m
def Pb.chunkTo (b d : Nat) : Nat → Nat
  | 0 => 0
  | n + 1 => Pb.chunkTo b d n + Pb.cost b d n
def Pb.sumTo (bits vals : Nat → Nat) (n : Nat) : Nat → Nat
  | 0 => 0
  | j + 1 => Pb.sumTo bits vals n j + Pb.chunkTo (bits j) (vals j) n
theorem Pb.sumTo_zero (bits vals : Nat → Nat) : ∀ m, Pb.sumTo bits vals 0 m = 0
  | 0 => rfl
  | m + 1 => by rw [Pb.sumTo, Pb.sumTo_zero bits vals m]; rfl
theorem Pb.sumTo_succ (bits vals : Nat → Nat) (n : Nat) : ∀ m, Pb.sumTo bits vals (n + 1) m = Pb.sumTo bits vals n m + Pb.shellTo bits vals n m
  | 0 => rfl
  | m + 1 => by rw [Pb.sumTo, Pb.sumTo, Pb.shellTo, Pb.sumTo_succ bits vals n m, Pb.chunkTo]; omega
theorem Pb.steps_is (bits vals : Nat → Nat) (m : Nat) : ∀ n, Pb.stepsTo bits vals m n = Pb.sumTo bits vals n m
  | 0 => (Pb.sumTo_zero bits vals m).symm
  | n + 1 => by rw [Pb.stepsTo, Pb.sumTo_succ, Pb.steps_is bits vals m n]
theorem Pb.chunkTo_stop (b d n : Nat) : ∀ k, b < n → Pb.chunkTo b d (n + k) = Pb.chunkTo b d n
  | 0, _ => rfl
  | k + 1, h => by
    rw [← Nat.add_assoc, Pb.chunkTo, Pb.chunkTo_stop b d n k h, Pb.cost, if_neg (by omega)]
    rfl

/-- The order of hits. -/
def Pb.cmpI (a b : Int) : Int := if a < b then -1 else if b < a then 1 else 0
def Pb.cmpS (a b : List UInt8) : Int := if a < b then -1 else if b < a then 1 else 0
def Pb.or (l : List Int) : Int := (l.find? fun x => x != 0).getD 0
def Pb.cmp (a b : Pb.H) : Int := if Pb.cmpI a.d b.d ≠ 0 then Pb.cmpI a.d b.d else if Pb.cmpI a.id b.id ≠ 0 then Pb.cmpI a.id b.id else Pb.cmpS a.c b.c
def Pb.gt (a b : Pb.H) : Bool := decide (0 < Pb.cmp a b)
theorem Pb.gt_iff (a b : Pb.H) : Pb.gt a b = true ↔ (b.d < a.d ∨ (b.d = a.d ∧ (b.id < a.id ∨ (b.id = a.id ∧ b.c < a.c)))) := by
  unfold Pb.gt Pb.cmp Pb.cmpI Pb.cmpS
  rw [decide_eq_true_iff]
  rcases Int.lt_trichotomy a.d b.d with h | h | h
  · simp only [if_pos h]; simp; omega
  · rw [if_neg (show ¬ a.d < b.d by omega), if_neg (show ¬ b.d < a.d by omega)]
    rcases Int.lt_trichotomy a.id b.id with h2 | h2 | h2
    · simp only [if_pos h2]; simp; omega
    · rw [if_neg (show ¬ a.id < b.id by omega), if_neg (show ¬ b.id < a.id by omega)]
      by_cases h3 : a.c < b.c
      · rw [if_pos h3]
        have : ¬ b.c < a.c := fun h4 => List.lt_asymm h3 h4
        simp [h.symm, h2.symm, this]
      · rw [if_neg h3]
        by_cases h4 : b.c < a.c
        · simp [if_pos h4, h.symm, h2.symm, h4]
        · simp [if_neg h4, h.symm, h2.symm, h4]
    · rw [if_neg (show ¬ a.id < b.id by omega), if_pos h2]; simp; omega
  · rw [if_neg (show ¬ a.d < b.d by omega), if_pos h]; simp; omega
theorem Pb.ord : Hp.Ord Pb.gt where
  irrefl a := by
    rw [Bool.eq_false_iff]
    intro h
    rw [Pb.gt_iff] at h
    rcases h with h | ⟨_, h | ⟨_, h⟩⟩
    · omega
    · omega
    · exact List.lt_irrefl _ h
  trans {a b c} h1 h2 := by
    rw [Pb.gt_iff] at *
    rcases h1 with h1 | ⟨h1, h1' | ⟨h1', h1''⟩⟩ <;> rcases h2 with h2 | ⟨h2, h2' | ⟨h2', h2''⟩⟩
    · exact .inl (by omega)
    · exact .inl (by omega)
    · exact .inl (by omega)
    · exact .inl (by omega)
    · exact .inr ⟨by omega, .inl (by omega)⟩
    · exact .inr ⟨by omega, .inl (by omega)⟩
    · exact .inl (by omega)
    · exact .inr ⟨by omega, .inl (by omega)⟩
    · exact .inr ⟨by omega, .inr ⟨by omega, List.lt_trans h2'' h1''⟩⟩
  total {a b} hab := by
    rw [Pb.gt_iff, Pb.gt_iff]
    rcases Int.lt_trichotomy a.d b.d with h | h | h
    · exact .inr (.inl h)
    · rcases Int.lt_trichotomy a.id b.id with h2 | h2 | h2
      · exact .inr (.inr ⟨h, .inl h2⟩)
      · by_cases h3 : a.c < b.c
        · exact .inr (.inr ⟨h, .inr ⟨h2, h3⟩⟩)
        · by_cases h4 : b.c < a.c
          · exact .inl (.inr ⟨h.symm, .inr ⟨h2.symm, h4⟩⟩)
          · refine absurd ?_ hab
            cases a; cases b
            simp only at h h2 h3 h4
            subst h h2
            rw [List.le_antisymm (List.not_lt.1 h4) (List.not_lt.1 h3)]
      · exact .inl (.inr ⟨h.symm, .inl h2⟩)
    · exact .inl (.inl h)

/-- The document's table: each hit put at its place. -/
def Pb.ahead (a b : Pb.H) : Bool := decide (a.d < b.d) || (decide (a.d = b.d) && decide (a.id < b.id))
def Pb.place (l : List Pb.H) (h : Pb.H) : Nat := (l.takeWhile fun x => Pb.ahead x h).length
def Pb.ins (l : List Pb.H) (h : Pb.H) : List Pb.H := (l.takeWhile fun x => Pb.ahead x h) ++ h :: l.dropWhile fun x => Pb.ahead x h
def Pb.hits (q : List UInt8) (l : List Pb.P) : List Pb.H := l.foldl (fun t p => Pb.ins t (Pb.hit q p)) []
theorem Pb.hits_snoc (q : List UInt8) (l : List Pb.P) (p : Pb.P) : Pb.hits q (l ++ [p]) = Pb.ins (Pb.hits q l) (Pb.hit q p) := by simp [Pb.hits]
theorem Pb.ins_perm (l : List Pb.H) (h : Pb.H) : (Pb.ins l h).Perm (h :: l) := by
  unfold Pb.ins
  refine List.perm_middle.trans (List.Perm.cons _ ?_)
  rw [List.takeWhile_append_dropWhile]
theorem Pb.ahead_gt {a b : Pb.H} (h : Pb.ahead a b = true) : Pb.gt b a = true := by
  rw [Pb.gt_iff]
  unfold Pb.ahead at h
  simp only [Bool.or_eq_true, decide_eq_true_eq, Bool.and_eq_true] at h
  rcases h with h | ⟨h1, h2⟩
  · exact .inl h
  · exact .inr ⟨h1, .inl h2⟩
theorem Pb.gt_ahead {a b : Pb.H} (h : Pb.gt b a = true) (hid : a.id ≠ b.id) : Pb.ahead a b = true := by
  rw [Pb.gt_iff] at h
  unfold Pb.ahead
  simp only [Bool.or_eq_true, decide_eq_true_eq, Bool.and_eq_true]
  rcases h with h | ⟨h1, h2 | ⟨h2, _⟩⟩
  · exact .inl h
  · exact .inr ⟨h1, h2⟩
  · exact absurd h2 hid
theorem Pb.dropWhile_all {α : Type} {p : α → Bool} : ∀ (l : List α), (∀ a b, a ∈ l → b ∈ l → True) → (∀ x r, l.dropWhile p = x :: r → p x = false)
  | [], _, x, r, h => by simp at h
  | y :: l, _, x, r, h => by
    rw [List.dropWhile_cons] at h
    split at h
    · exact Pb.dropWhile_all l (fun _ _ _ _ => trivial) x r h
    · rename_i hy
      injection h with h1 h2
      subst h1
      simpa using hy
theorem Pb.takeWhile_all {α : Type} {p : α → Bool} : ∀ (l : List α) (x : α), x ∈ l.takeWhile p → p x = true
  | [], x, h => by simp at h
  | y :: l, x, h => by
    rw [List.takeWhile_cons] at h
    split at h
    · rename_i hy
      rcases List.mem_cons.1 h with rfl | h
      · exact hy
      · exact Pb.takeWhile_all l x h
    · simp at h
theorem Pb.ins_sorted {l : List Pb.H} {h : Pb.H} (hl : l.Pairwise fun a b => Pb.gt b a = true) (hid : ∀ x ∈ l, x.id ≠ h.id) : (Pb.ins l h).Pairwise fun a b => Pb.gt b a = true := by
  have hsplit := List.takeWhile_append_dropWhile (p := fun x => Pb.ahead x h) (l := l)
  have hl2 := hl
  rw [← hsplit] at hl2
  obtain ⟨p1, p2, p3⟩ := List.pairwise_append.1 hl2
  have hdrop : ∀ y ∈ l.dropWhile (fun x => Pb.ahead x h), Pb.gt y h = true := by
    intro y hy
    cases hd : l.dropWhile (fun x => Pb.ahead x h) with
    | nil => rw [hd] at hy; exact absurd hy List.not_mem_nil
    | cons x r =>
      have hx : Pb.ahead x h = false := Pb.dropWhile_all l (fun _ _ _ _ => trivial) x r hd
      have hxm : x ∈ l := by
        have : x ∈ l.dropWhile (fun x => Pb.ahead x h) := by rw [hd]; exact List.mem_cons_self
        exact (List.dropWhile_sublist _).subset this
      have hxh : Pb.gt x h = true := by
        rcases Pb.ord.total (a := x) (b := h) (fun e => hid x hxm (by rw [e])) with h1 | h1
        · exact h1
        · rw [Pb.gt_ahead h1 (hid x hxm)] at hx; cases hx
      rw [hd] at hy p2
      rcases List.mem_cons.1 hy with rfl | hy
      · exact hxh
      · exact Pb.ord.trans ((List.pairwise_cons.1 p2).1 y hy) hxh
  unfold Pb.ins
  refine List.pairwise_append.2 ⟨p1, List.pairwise_cons.2 ⟨fun y hy => hdrop y hy, p2⟩, fun a ha b hb => ?_⟩
  have hat : Pb.ahead a h = true := Pb.takeWhile_all (p := fun x => Pb.ahead x h) l a ha
  rcases List.mem_cons.1 hb with rfl | hb
  · exact Pb.ahead_gt hat
  · exact p3 a ha b hb
theorem Pb.hits_perm (q : List UInt8) : ∀ (l : List Pb.P), (Pb.hits q l).Perm (l.map (Pb.hit q)) := by
  intro l
  have gen : ∀ (l : List Pb.P) (t : List Pb.H), (l.foldl (fun t p => Pb.ins t (Pb.hit q p)) t).Perm (t ++ l.map (Pb.hit q)) := by
    intro l
    induction l with
    | nil => intro t; simp
    | cons p l ih =>
      intro t
      rw [List.foldl_cons, List.map_cons]
      refine (ih _).trans ?_
      refine ((Pb.ins_perm t (Pb.hit q p)).append_right _).trans ?_
      rw [List.cons_append]
      exact List.perm_middle.symm
  exact gen l []
theorem Pb.hits_sorted (q : List UInt8) (l : List Pb.P) (hn : (l.map Pb.P.id).Nodup) : (Pb.hits q l).Pairwise fun a b => Pb.gt b a = true := by
  have gen : ∀ (l : List Pb.P) (t : List Pb.H), (t.Pairwise fun a b => Pb.gt b a = true) → (t.map Pb.H.id ++ l.map Pb.P.id).Nodup → (l.foldl (fun t p => Pb.ins t (Pb.hit q p)) t).Pairwise fun a b => Pb.gt b a = true := by
    intro l
    induction l with
    | nil => intro t ht _; exact ht
    | cons p l ih =>
      intro t ht hn
      rw [List.foldl_cons]
      rw [List.map_cons] at hn
      have hn2 := List.perm_middle.nodup_iff.1 hn
      rw [List.nodup_cons] at hn2
      refine ih _ (Pb.ins_sorted ht fun x hx e => hn2.1 ?_) ?_
      · refine List.mem_append_left _ (List.mem_map.2 ⟨x, hx, ?_⟩)
        exact e
      · refine ((((Pb.ins_perm t (Pb.hit q p)).map Pb.H.id).append_right _).trans ?_).nodup_iff.2 hn
        rw [List.map_cons, List.cons_append]
        exact List.perm_middle.symm
  exact gen l [] List.Pairwise.nil (by simpa using hn)
/-- The candidates' pairs behind n shells, in order. -/
def Pb.found (w m : Nat) (q : List UInt8) (l : List Pb.P) (n : Nat) : List Pb.H := (Pb.hits q l).filter fun h => decide (Pb.near w m q h.c < n)
theorem Pb.found_perm (w m : Nat) (q : List UInt8) (l : List Pb.P) (n : Nat) : (Pb.found w m q l n).Perm ((l.filter fun p => decide (Pb.near w m q p.c < n)).map (Pb.hit q)) := by
  unfold Pb.found
  refine ((Pb.hits_perm q l).filter _).trans (List.Perm.of_eq ?_)
  rw [List.filter_map]
  rfl
theorem Pb.found_sorted (w m : Nat) (q : List UInt8) (l : List Pb.P) (n : Nat) (hn : (l.map Pb.P.id).Nodup) : (Pb.found w m q l n).Pairwise fun a b => Pb.gt b a = true := (Pb.hits_sorted q l hn).filter _
/-- Put at its place among others that rise; once. -/
def Pb.putStep {α : Type} [DecidableEq α] (gt : α → α → Bool) (s : α) (r : List α × Bool) (x : α) : List α × Bool :=
  let o := if r.2 = false ∧ gt s x = false then r.1 ++ [s] else r.1
  (if x ≠ s then o ++ [x] else o, r.2 || !gt s x)
def Pb.putTo {α : Type} [DecidableEq α] (gt : α → α → Bool) (s : α) (l : List α) : List α × Bool := l.foldl (Pb.putStep gt s) ([], false)
theorem Pb.putTo_snoc {α : Type} [DecidableEq α] (gt : α → α → Bool) (s : α) (l : List α) (x : α) : Pb.putTo gt s (l ++ [x]) = Pb.putStep gt s (Pb.putTo gt s l) x := by simp [Pb.putTo]
def Pb.put {α : Type} [DecidableEq α] (gt : α → α → Bool) (l : List α) (s : α) : List α := if (Pb.putTo gt s l).2 then (Pb.putTo gt s l).1 else (Pb.putTo gt s l).1 ++ [s]
structure Pb.PutInv {α : Type} (gt : α → α → Bool) (s : α) (l : List α) (r : List α × Bool) : Prop where
  mem : ∀ x, x ∈ r.1 ↔ (x ∈ l ∧ x ≠ s) ∨ (r.2 = true ∧ x = s)
  sorted : r.1.Pairwise fun a b => gt b a = true
  not : r.2 = false → ∀ x ∈ l, gt s x = true
  yes : r.2 = true → ∃ x ∈ l, gt s x = false
theorem Pb.putTo_inv {α : Type} [DecidableEq α] {gt : α → α → Bool} (o : Hp.Ord gt) (s : α) (l : List α) (hl : l.Pairwise fun a b => gt b a = true) : ∀ k, k ≤ l.length → Pb.PutInv gt s (l.take k) (Pb.putTo gt s (l.take k))
  | 0, _ => by
    refine ⟨fun x => ?_, ?_, fun _ x hx => ?_, fun h => ?_⟩
    · simp [Pb.putTo]
    · simp [Pb.putTo]
    · simp at hx
    · simp [Pb.putTo] at h
  | k + 1, hk => by
    have ih := Pb.putTo_inv o s l hl k (by omega)
    have hlt : k < l.length := by omega
    have e : l.take (k + 1) = l.take k ++ [l[k]] := by rw [List.take_add_one, List.getElem?_eq_getElem hlt]; rfl
    have hbef : ∀ y ∈ l.take k, gt l[k] y = true := by
      have hp := hl.sublist (List.take_sublist (k + 1) l)
      rw [e] at hp
      exact fun y hy => (List.pairwise_append.1 hp).2.2 y hy _ (by simp)
    rw [e, Pb.putTo_snoc]
    generalize Pb.putTo gt s (l.take k) = r at ih
    generalize hx : l[k] = x at hbef
    obtain ⟨out, d⟩ := r
    obtain ⟨i1, i2, i3, i4⟩ := ih
    simp only at i1 i2 i3 i4
    cases hg : gt s x with
    | true =>
      have hne : x ≠ s := fun e => by rw [e, o.irrefl] at hg; cases hg
      have est : Pb.putStep gt s (out, d) x = (out ++ [x], d) := by simp [Pb.putStep, hg, hne]
      rw [est]
      have hd : d = false := by
        cases d with
        | false => rfl
        | true =>
          obtain ⟨y, hy, hys⟩ := i4 rfl
          have := o.trans hg (hbef y hy)
          rw [hys] at this; cases this
      refine ⟨fun y => ?_, ?_, ?_, ?_⟩
      · simp only [List.mem_append, List.mem_singleton, i1]
        constructor
        · rintro ((⟨h1, h2⟩ | ⟨h1, h2⟩) | h1)
          · exact .inl ⟨.inl h1, h2⟩
          · exact .inr ⟨h1, h2⟩
          · exact .inl ⟨.inr h1, h1 ▸ hne⟩
        · rintro (⟨h1 | h1, h2⟩ | h)
          · exact .inl (.inl ⟨h1, h2⟩)
          · exact .inr h1
          · exact .inl (.inr h)
      · refine List.pairwise_append.2 ⟨i2, by simp, fun a ha b hb => ?_⟩
        rw [List.mem_singleton] at hb
        subst hb
        rcases (i1 a).1 ha with ⟨h1, _⟩ | ⟨h1, _⟩
        · exact hbef a h1
        · rw [hd] at h1; cases h1
      · intro _ y hy
        simp only [List.mem_append, List.mem_singleton] at hy
        rcases hy with hy | rfl
        · exact i3 hd y hy
        · exact hg
      · intro h
        obtain ⟨y, hy, hys⟩ := i4 h
        exact ⟨y, List.mem_append_left _ hy, hys⟩
    | false =>
      have est : Pb.putStep gt s (out, d) x = (if x ≠ s then (if d = false then out ++ [s] else out) ++ [x] else (if d = false then out ++ [s] else out), true) := by simp [Pb.putStep, hg]
      rw [est]
      -- what stands there with s
      have hmid : ∀ y, y ∈ (if d = false then out ++ [s] else out) ↔ (y ∈ l.take k ∧ y ≠ s) ∨ y = s := by
        intro y
        cases d with
        | false => simp only [if_true, List.mem_append, List.mem_singleton, i1]; simp
        | true => rw [if_neg (by simp), i1]; simp
      have hms : (if d = false then out ++ [s] else out).Pairwise fun a b => gt b a = true := by
        cases d with
        | false =>
          rw [if_pos rfl]
          refine List.pairwise_append.2 ⟨i2, by simp, fun a ha b hb => ?_⟩
          rw [List.mem_singleton] at hb
          subst hb
          rcases (i1 a).1 ha with ⟨h1, _⟩ | ⟨h1, _⟩
          · exact i3 rfl a h1
          · cases h1
        | true => rw [if_neg (by simp)]; exact i2
      generalize (if d = false then out ++ [s] else out) = mid at hmid hms
      by_cases hxs : x = s
      · rw [if_neg (fun h => h hxs)]
        refine ⟨fun y => ?_, hms, fun h => (by cases h), fun _ => ⟨x, by simp, hg⟩⟩
        simp only [hmid, List.mem_append, List.mem_singleton]
        constructor
        · rintro (⟨h1, h2⟩ | h)
          · exact .inl ⟨.inl h1, h2⟩
          · exact .inr ⟨trivial, h⟩
        · rintro (⟨h1 | h1, h2⟩ | ⟨_, h⟩)
          · exact .inl ⟨h1, h2⟩
          · exact absurd (h1.trans hxs) h2
          · exact .inr h
      · rw [if_pos hxs]
        refine ⟨fun y => ?_, ?_, fun h => (by cases h), fun _ => ⟨x, by simp, hg⟩⟩
        · simp only [hmid, List.mem_append, List.mem_singleton]
          constructor
          · rintro ((⟨h1, h2⟩ | h) | h)
            · exact .inl ⟨.inl h1, h2⟩
            · exact .inr ⟨trivial, h⟩
            · exact .inl ⟨.inr h, h ▸ hxs⟩
          · rintro (⟨h1 | h1, h2⟩ | ⟨_, h⟩)
            · exact .inl (.inl ⟨h1, h2⟩)
            · exact .inr h1
            · exact .inl (.inr h)
        · refine List.pairwise_append.2 ⟨hms, by simp, fun a ha b hb => ?_⟩
          rw [List.mem_singleton] at hb
          subst hb
          rcases (hmid a).1 ha with ⟨h1, _⟩ | h1
          · exact hbef a h1
          · subst h1
            exact o.gt_of (fun e => hxs e.symm) hg
theorem Pb.put_is {α : Type} [DecidableEq α] {gt : α → α → Bool} (o : Hp.Ord gt) (s : α) (l : List α) (hl : l.Pairwise fun a b => gt b a = true) : ((Pb.put gt l s).Pairwise fun a b => gt b a = true) ∧ ∀ x, x ∈ Pb.put gt l s ↔ x = s ∨ x ∈ l := by
  have h := Pb.putTo_inv o s l hl l.length (Nat.le_refl _)
  rw [List.take_length] at h
  unfold Pb.put
  generalize Pb.putTo gt s l = r at h
  obtain ⟨out, d⟩ := r
  obtain ⟨i1, i2, i3, i4⟩ := h
  simp only at i1 i2 i3 i4
  cases d with
  | true =>
    rw [if_pos rfl]
    refine ⟨i2, fun x => ?_⟩
    simp only [i1]
    by_cases e : x = s
    · simp [e]
    · simp [e]
  | false =>
    simp only [Bool.false_eq_true, if_false]
    refine ⟨List.pairwise_append.2 ⟨i2, by simp, fun a ha b hb => ?_⟩, fun x => ?_⟩
    · rw [List.mem_singleton] at hb
      subst hb
      rcases (i1 a).1 ha with ⟨h1, _⟩ | ⟨h1, _⟩
      · exact i3 rfl a h1
      · cases h1
    · simp only [List.mem_append, List.mem_singleton, i1]
      by_cases e : x = s
      · simp [e]
      · simp [e]
theorem Pb.put_length {α : Type} [DecidableEq α] (gt : α → α → Bool) (s : α) (l : List α) : (Pb.put gt l s).length ≤ l.length + 1 ∧ ((Pb.putTo gt s l).2 = false → (Pb.putTo gt s l).1.length ≤ l.length) := by
  have gen : ∀ (l : List α) (r : List α × Bool), (l.foldl (Pb.putStep gt s) r).1.length + (if (l.foldl (Pb.putStep gt s) r).2 then 0 else 1) ≤ r.1.length + l.length + (if r.2 then 0 else 1) := by
    intro l
    induction l with
    | nil => intro r; simp only [List.foldl_nil, List.length_nil, Nat.add_zero]; exact Nat.le_refl _
    | cons x l ih =>
      intro r
      rw [List.foldl_cons]
      refine Nat.le_trans (ih _) ?_
      obtain ⟨out, d⟩ := r
      unfold Pb.putStep
      cases d <;> cases hg : gt s x <;> by_cases e : x = s <;> simp [e] <;> omega
  have := gen l ([], false)
  simp only [List.length_nil, Bool.false_eq_true, if_false] at this
  have h2 : l.foldl (Pb.putStep gt s) ([], false) = Pb.putTo gt s l := rfl
  rw [h2] at this
  unfold Pb.put
  cases hd : (Pb.putTo gt s l).2 with
  | true => rw [hd] at this; simp at this; simp; omega
  | false => rw [hd] at this; simp at this; simp; omega
/-- All of a list, rising, each once. -/
def Pb.uniq {α : Type} [DecidableEq α] (gt : α → α → Bool) (l : List α) : List α := l.foldl (Pb.put gt) []
theorem Pb.uniq_snoc {α : Type} [DecidableEq α] (gt : α → α → Bool) (l : List α) (x : α) : Pb.uniq gt (l ++ [x]) = Pb.put gt (Pb.uniq gt l) x := by simp [Pb.uniq]
theorem Pb.uniq_is {α : Type} [DecidableEq α] {gt : α → α → Bool} (o : Hp.Ord gt) (l : List α) : ((Pb.uniq gt l).Pairwise fun a b => gt b a = true) ∧ ∀ x, x ∈ Pb.uniq gt l ↔ x ∈ l := by
  have gen : ∀ (l t : List α), (t.Pairwise fun a b => gt b a = true) → ((l.foldl (Pb.put gt) t).Pairwise fun a b => gt b a = true) ∧ ∀ x, x ∈ l.foldl (Pb.put gt) t ↔ x ∈ t ∨ x ∈ l := by
    intro l
    induction l with
    | nil => intro t ht; exact ⟨ht, fun x => by simp⟩
    | cons y l ih =>
      intro t ht
      rw [List.foldl_cons]
      obtain ⟨p1, p2⟩ := Pb.put_is o y t ht
      obtain ⟨q1, q2⟩ := ih _ p1
      refine ⟨q1, fun x => ?_⟩
      rw [q2, p2, List.mem_cons]
      constructor
      · rintro ((h | h) | h)
        · exact .inr (.inl h)
        · exact .inl h
        · exact .inr (.inr h)
      · rintro (h | h | h)
        · exact .inl (.inr h)
        · exact .inl (.inl h)
        · exact .inr h
  obtain ⟨h1, h2⟩ := gen l [] List.Pairwise.nil
  exact ⟨h1, fun x => by rw [show Pb.uniq gt l = l.foldl (Pb.put gt) [] from rfl, h2]; simp⟩
theorem Pb.sorted_nodup {α : Type} {gt : α → α → Bool} (o : Hp.Ord gt) {l : List α} (h : l.Pairwise fun a b => gt b a = true) : l.Nodup := h.imp fun {a b} hab e => by
  subst e
  rw [o.irrefl] at hab; cases hab
theorem Pb.sorted_one {α : Type} [DecidableEq α] {gt : α → α → Bool} (o : Hp.Ord gt) {a b : List α} (ha : a.Pairwise fun x y => gt y x = true) (hb : b.Pairwise fun x y => gt y x = true) (hm : ∀ x, x ∈ a ↔ x ∈ b) : a = b := by
  have hp : a.Perm b := (List.perm_ext_iff_of_nodup (Pb.sorted_nodup o ha) (Pb.sorted_nodup o hb)).2 hm
  exact List.Perm.eq_of_pairwise (le := fun x y => gt y x = true) (fun x y _ _ h1 h2 => absurd h2 (by rw [o.asymm h1]; decide)) ha hb hp
def Pb.gtS (a b : List UInt8) : Bool := decide (b < a)
def Pb.gtN (a b : Nat) : Bool := decide (b < a)
theorem Pb.ordS : Hp.Ord Pb.gtS where
  irrefl a := decide_eq_false (List.lt_irrefl _)
  trans h1 h2 := by
    unfold Pb.gtS at *
    rw [decide_eq_true_iff] at *
    exact List.lt_trans h2 h1
  total {a b} hab := by
    unfold Pb.gtS
    rw [decide_eq_true_iff, decide_eq_true_iff]
    by_cases h1 : b < a
    · exact .inl h1
    · by_cases h2 : a < b
      · exact .inr h2
      · exact absurd (List.le_antisymm (List.not_lt.1 h1) (List.not_lt.1 h2)) hab
theorem Pb.ordN : Hp.Ord Pb.gtN where
  irrefl a := decide_eq_false (Nat.lt_irrefl _)
  trans h1 h2 := by
    unfold Pb.gtN at *
    rw [decide_eq_true_iff] at *
    omega
  total {a b} hab := by
    unfold Pb.gtN
    rw [decide_eq_true_iff, decide_eq_true_iff]
    omega
/-- The unlike codes of pairs; the values of chunk j. -/
def Pb.codes (l : List Pb.P) : List (List UInt8) := Pb.uniq Pb.gtS (l.map Pb.P.c)
def Pb.values (w m j : Nat) (cs : List (List UInt8)) : List Nat := Pb.uniq Pb.gtN (cs.map fun c => Bt.val c w m j)
theorem Pb.mem_codes (l : List Pb.P) (c : List UInt8) : c ∈ Pb.codes l ↔ ∃ p ∈ l, p.c = c := by
  unfold Pb.codes
  rw [(Pb.uniq_is Pb.ordS _).2, List.mem_map]
theorem Pb.mem_values (w m j : Nat) (l : List Pb.P) (v : Nat) : v ∈ Pb.values w m j (Pb.codes l) ↔ ∃ p ∈ l, Bt.val p.c w m j = v := by
  unfold Pb.values
  rw [(Pb.uniq_is Pb.ordN _).2, List.mem_map]
  constructor
  · rintro ⟨c, hc, e⟩
    obtain ⟨p, hp, e2⟩ := (Pb.mem_codes l c).1 hc
    exact ⟨p, hp, by rw [e2]; exact e⟩
  · rintro ⟨p, hp, e⟩
    exact ⟨p.c, (Pb.mem_codes l _).2 ⟨p, hp, rfl⟩, e⟩
end Go.Proofs.YtlfeibaghfcpaaaDoor
