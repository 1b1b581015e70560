/- Rows of marked hits, one beside the other: the plain facts behind the law's apart. Conditions: each theorem's own hypotheses. -/
import Derived.Test.YtgbeeghdoilmkaaDpF
import Derived.Deep.AppendLies
namespace Go.Proofs.Ytgbeeghdoilmkaa
open Go.RowKit Go.Maps Go.Sort
set_option linter.unusedVariables false
set_option linter.unusedSimpArgs false

theorem Df.next_le {n : Nat} (h : 256 ≤ n) : Builtin.nextslicecap (n + 1) n ≤ n + (n + 768) / 4 := by
  unfold Builtin.nextslicecap
  rw [if_neg (by omega), if_neg (by omega), growBy_four, if_neg (by omega), if_pos (by omega)]
  exact Nat.le_refl _
theorem Df.own_of {w w' : World} {base : Nat} {e : TypeId} {size n : Nat} {v : Value} {xs : List Value} (h : w.ownsRow base e size v n xs) (hk : ∀ k, v.ownBlock = some k → w'.heap[k]? = w.heap[k]?) : w'.ownsRow base e size v n xs := by
  rcases h.2 with ⟨e1, e2⟩ | ⟨g, cap', cur, e1, e2, e3, r⟩
  · exact ⟨h.1, .inl ⟨e1, e2⟩⟩
  · exact ⟨h.1, .inr ⟨g, cap', cur, e1, e2, (hk g (by rw [e1]; rfl)).trans e3, r⟩⟩
theorem Df.own_later {w w' : World} {B B' : Nat} {e : TypeId} {size n : Nat} {v : Value} {xs : List Value} (h : w.ownsRow B e size v n xs) (hb : Below B' w w') (hB : w.heap.size ≤ B') : w'.ownsRow B e size v n xs :=
  Df.own_of h fun k hk => hb.block k (Nat.lt_of_lt_of_le (h.lt k hk).2 hB)
theorem Df.own_base {w : World} {B B' : Nat} {e : TypeId} {size n : Nat} {v : Value} {xs : List Value} (h : w.ownsRow B e size v n xs) (hB : B' ≤ B) : w.ownsRow B' e size v n xs := by
  rcases h.2 with h1 | ⟨g, cap, cur, e1, e2, r⟩
  · exact ⟨h.1, .inl h1⟩
  · exact ⟨h.1, .inr ⟨g, cap, cur, e1, by omega, r⟩⟩
theorem Df.row_form {w : World} {B size : Nat} {e : TypeId} {v : Value} {n : Nat} {xs : List Value} (h : w.ownsRow B e size v n xs) : ∃ A cap, v = .slice A n cap := by
  rcases h.2 with ⟨rfl, h0⟩ | ⟨g, cap, cur, rfl, _⟩
  · rw [h0]; exact ⟨_, _, rfl⟩
  · exact ⟨_, _, rfl⟩
theorem Df.addr_add (g j : Nat) : (⟨g, 0, none⟩ : Addr).add j = ⟨g, j, none⟩ := by
  unfold Addr.add; split
  · subst_vars; rfl
  · simp
theorem Df.row_some {w : World} {B size : Nat} {e : TypeId} {A : Option Addr} {n cap : Nat} {xs : List Value} (h : w.ownsRow B e size (.slice A n cap) n xs) (hn : 0 < n) : ∃ g, A = some ⟨g, 0, none⟩ ∧ n ≤ cap ∧ cap ≤ maxLen := by
  rcases h.2 with ⟨h', h0⟩ | ⟨g, cap', cur, h', hb, hg, h1, h2, _⟩
  · omega
  · injection h' with h1' h2' h3'
    subst h3' h1'
    exact ⟨g, rfl, h1, h2⟩
/-- One element more at a row's end: in its place, or in a new place with the old one untouched. -/
theorem Df.run_append_fit {P : Program} (w : World) (base : Nat) (t ty e : TypeId) (i : TypeInfo) (z : Value) (size bytes : Nat) (ht : P.underlying t = some (.slice e)) (hi : P.info? e = some i) (hz : i.zero = some z)
    (hsize : i.size = size) (hby : i.bytes = bytes) (hzs : z.cells.size = size) (hsz : 0 < size) (v : Value) (n : Nat) (xs : List Value) (hown : w.ownsRow base e size v n xs)
    (a : Addr) (c : Nat) (news : List Value) (hl : news.length = 1 * size) (hnews : ∀ j u, news[j]? = some u → w.cell? (a.add j) = some u) (h1 : ∀ u ∈ news, u.oneCell' = true)
    (h63 : n + 1 ≤ maxLen) (hb1 : bytes ≤ 140737488355328) (hb2 : 256 ≤ n → (n + (n + 768) / 4) * bytes ≤ 281474976710656) (hb3 : n < 256 → (n + 1) * bytes ≤ 140737488355328) (hbase : base ≤ w.heap.size) :
    ∃ v' w', (Builtin.append_ #[t, t] ty #[v, .slice (some a) 1 c]).run P w = .ok v' w' ∧ w'.ownsRow base e size v' (n + 1) (xs ++ news) ∧ ((v'.ownBlock = v.ownBlock ∧ w.grownBy w' v.ownBlock) ∨ (v'.ownBlock = some w.heap.size ∧ w.grownBy w' none)) := by
  subst hsize hby
  have hall : (xs ++ news).length = (n + 1) * i.size := by rw [List.length_append, hown.1, hl, Nat.add_mul]
  have hml : maxLen = 9223372036854775807 := rfl
  rcases hown.2 with ⟨rfl, rfl⟩ | ⟨g, cap, cur, rfl, q1, q2, q3, q4, q5, q6⟩
  · obtain rfl : xs = [] := List.eq_nil_of_length_eq_zero (by simpa using hown.1)
    have hrun := run_append_nil (P := P) w t ty e i z ht hi hz a 1 c news hl hnews (by omega) (by omega) (by omega)
    refine ⟨_, _, hrun, ⟨hall, .inr ⟨w.heap.size, _, _, rfl, hbase, heap_alloc_new w.drew _, ?_, ?_, ?_, ?_⟩⟩, .inr ⟨rfl, rfl, rfl, rfl, by simp, fun k hk _ => heap_alloc_old w.drew _ hk⟩⟩
    · exact grownCap_ge w 1 0 e
    · exact grownCap_le_maxLen w 1 0 e (by omega)
    · have hge := grownCap_ge w 1 0 e
      rw [Array.size_append, size_zeroCells, hzs, List.size_toArray, hl, ← Nat.add_mul]
      congr 1
      omega
    · rw [Array.toList_append, List.nil_append]
      have : (0 + 1) * i.size = news.length := by rw [hl]
      rw [this]
      exact List.take_left
  · by_cases hroom : n + 1 ≤ cap
    · have hin : n * i.size + news.length ≤ cur.size := by rw [hl, q5, ← Nat.add_mul]; exact Nat.mul_le_mul_right _ hroom
      have hrun := run_append_room (P := P) w t ty e i ht hi g n cap cur q2 a 1 c news hl hnews h1 hroom hin
      refine ⟨_, _, hrun, ⟨hall, .inr ⟨g, cap, _, rfl, q1, setRow_heap w g cur _ e _ q2, hroom, q4, ?_, ?_⟩⟩, .inl ⟨rfl, rfl, rfl, rfl, by simp, fun k _ hk => setRow_other w g k _ fun e => hk (by rw [e]; rfl)⟩⟩
      · rw [List.size_toArray, List.length_append, List.length_append, List.length_take, List.length_drop, Array.length_toList]; omega
      · rw [q6, ← hall]; exact List.take_left
    · have hcap : cap = n := by omega
      have hfit : Builtin.nextslicecap (n + 1) cap * i.bytes ≤ 281474976710656 := by
        rw [hcap]
        rcases Nat.lt_or_ge n 256 with hn | hn
        · exact growslice_fits (by omega) (hb3 hn)
        · exact Nat.le_trans (Nat.mul_le_mul_right _ (Df.next_le hn)) (hb2 hn)
      have hrun := run_append_grow (P := P) w t ty e i z ht hi hz ⟨g, 0, none⟩ n cap xs hown.1 (hown.cells (g := g) rfl) a 1 c news hl hnews (by omega) (by omega) hfit
      refine ⟨_, _, hrun, ⟨hall, .inr ⟨w.heap.size, _, _, rfl, hbase, heap_alloc_new w.drew _, grownCap_ge w (n + 1) cap e, grownCap_le_maxLen w (n + 1) cap e h63, ?_, ?_⟩⟩, .inr ⟨rfl, rfl, rfl, rfl, by simp, fun k hk _ => heap_alloc_old w.drew _ hk⟩⟩
      · have hge := grownCap_ge w (n + 1) cap e
        rw [Array.size_append, Array.size_append, size_zeroCells, hzs, List.size_toArray, List.size_toArray, hown.1, hl, ← Nat.add_mul, ← Nat.add_mul]
        congr 1
        omega
      · rw [Array.toList_append, Array.toList_append, List.append_assoc, ← List.append_assoc, ← hall]
        exact List.take_left
theorem Df.wpList_append_fit {P : Program} {w : World} {ops : Array Oper} {rest : List Oper} {o : Oper} {a : Act} {Q : Exit → Act → World → Prop} (hgd : o.guard = none) (s x : Operand) (t : TypeId)
    (ho : o.op = .call { callee := .builtin .append, args := #[s, x], argTypes := #[t, t] })
    (base : Nat) (e : TypeId) (i : TypeInfo) (z : Value) (size bytes : Nat) (ht : P.underlying t = some (.slice e)) (hi : P.info? e = some i) (hz : i.zero = some z)
    (hsize : i.size = size) (hby : i.bytes = bytes) (hzs : z.cells.size = size) (hsz : 0 < size)
    (v : Value) (n : Nat) (xs : List Value) (hs : a.eval s = v) (hown : w.ownsRow base e size v n xs)
    (ad : Addr) (c : Nat) (news : List Value) (hx : a.eval x = .slice (some ad) 1 c) (hl : news.length = 1 * size) (hnews : ∀ j u, news[j]? = some u → w.cell? (ad.add j) = some u) (h1 : ∀ u ∈ news, u.oneCell' = true)
    (h63 : n + 1 ≤ maxLen) (hb1 : bytes ≤ 140737488355328) (hb2 : 256 ≤ n → (n + (n + 768) / 4) * bytes ≤ 281474976710656) (hb3 : n < 256 → (n + 1) * bytes ≤ 140737488355328) (hbase : base ≤ w.heap.size)
    (h : ∀ v' w', w'.ownsRow base e size v' (n + 1) (xs ++ news) → ((v'.ownBlock = v.ownBlock ∧ w.grownBy w' v.ownBlock) ∨ (v'.ownBlock = some w.heap.size ∧ w.grownBy w' none)) → wpList P ops Q rest (a.put o.dst v') w') :
    wpList P ops Q (o :: rest) a w := by
  refine wpList_plain hgd fun K hK => ?_
  obtain ⟨v', w', hr, h2, h3⟩ := Df.run_append_fit (P := P) w base t o.type e i z size bytes ht hi hz hsize hby hzs hsz v n xs hown ad c news hl hnews h1 h63 hb1 hb2 hb3 hbase
  unfold Oper.wp execOp
  simp only [ho, resolve, invoke, builtin, Sem.run_bind, Sem.run_pure, Result.andThen_ok, List.map_toArray, List.map_cons, List.map_nil, hs, hx, hr]
  exact hK _ _ (h v' w' h2 h3)
/-- So many of them. -/
def Df.mk (a : Value) (n : Nat) : List Value := List.replicate n a
theorem Df.mk_zero (a : Value) : Df.mk a 0 = [] := rfl
theorem Df.mk_succ (a : Value) (n : Nat) : Df.mk a (n + 1) = Df.mk a n ++ [a] := by unfold Df.mk; rw [List.replicate_succ']
theorem Df.mk_len (a : Value) (n : Nat) : (Df.mk a n).length = n := List.length_replicate
theorem Df.mk_get (a : Value) (n k : Nat) (h : k < n) : (Df.mk a n)[k]? = some a := by unfold Df.mk; rw [List.getElem?_replicate, if_pos h]
theorem Df.mk_set (a : Value) (k : Nat) (xs : List Value) (h : k < xs.length) : (Df.mk a k ++ xs.drop k).set k a = Df.mk a (k + 1) ++ xs.drop (k + 1) := by
  have hl := Df.mk_len a k
  rw [List.drop_eq_getElem_cons h, List.set_append_right _ _ (by omega), hl, Nat.sub_self, List.set_cons_zero, Df.mk_succ, List.append_assoc]
  rfl
/-- The cells of n hits that are marked so. -/
def Df.See (X : World) (v : Value) (n : Nat) (a : Value) : Prop := ∀ k, k < n → ∃ g, v.ownBlock = some g ∧ X.cell? ⟨g, k, none⟩ = some a
theorem Df.See.keep {X X' : World} {v : Value} {n : Nat} {a : Value} (h : Df.See X v n a) (hk : ∀ g, v.ownBlock = some g → X'.heap[g]? = X.heap[g]?) : Df.See X' v n a := fun k hkn => by
  obtain ⟨g, h1, h2⟩ := h k hkn
  exact ⟨g, h1, (World.cell?_of_block (a := ⟨g, k, none⟩) (hk g h1)).trans h2⟩
theorem Df.See.of {X : World} {B : Nat} {v v' : Value} {n m : Nat} {a : Value} {ys : List Value} (h : X.ownsRow B 9 1 v' m (Df.mk a n ++ ys)) (hv : 0 < n → v'.ownBlock = v.ownBlock ∧ ∃ g, v.ownBlock = some g) : Df.See X v n a := fun k hk => by
  obtain ⟨h1, g, h2⟩ := hv (by omega)
  refine ⟨g, h2, ?_⟩
  have := h.cells (g := g) (h1.trans h2) (k) a (by rw [List.getElem?_append_left (by rw [Df.mk_len]; omega)]; exact Df.mk_get a n k hk)
  rwa [Df.addr_add] at this
end Go.Proofs.Ytgbeeghdoilmkaa
/- Contract of the law's apart. Conditions: each theorem's own hypotheses. -/
namespace Go.Proofs.Ytgbeeghdoilmkaa
open Go.RowKit Go.Maps Go.Sort
set_option linter.unusedVariables false
set_option linter.unusedSimpArgs false

theorem Df.listInfo : (Try.prog.info? 63).map (fun i => (i.zero, i.size, i.bytes)) = some (some (.slice none 0 0), 1, 24) := by kernel_rfl
/-- The blocks of the lists. -/
def Df.Hb (vs : List (Value × Nat)) (b : Nat) : Prop := ∃ p ∈ vs, p.1.ownBlock = some b
/-- What the lists are. -/
structure Df.Ap (B : Nat) (vs : List (Value × Nat)) (vl : Value) (W : World) : Prop where
  row : W.ownsRow B 63 1 vl vs.length (vs.map fun p => p.1)
  rows : ∀ (i : Nat) (p : Value × Nat), vs[i]? = some p → ∃ xs, W.ownsRow B 9 1 p.1 p.2 xs
  len : ∀ p ∈ vs, p.2 ≤ 4398046511104
  dis : ∀ (i j : Nat) (p q : Value × Nat) (b : Nat), vs[i]? = some p → vs[j]? = some q → p.1.ownBlock = some b → q.1.ownBlock = some b → i = j
  off : ∀ p ∈ vs, ∀ b, p.1.ownBlock = some b → vl.ownBlock ≠ some b
/-- The first i lists are marked. -/
structure Df.A1 (u : Nat → Value) (W0 : World) (B : Nat) (vs : List (Value × Nat)) (vl : Value) (i : Nat) (X : World) : Prop where
  row : X.ownsRow B 63 1 vl vs.length (vs.map fun p => p.1)
  done : ∀ (j : Nat) (p : Value × Nat), j < i → vs[j]? = some p → X.ownsRow B 9 1 p.1 p.2 (Df.mk (u j) p.2)
  todo : ∀ (j : Nat) (p : Value × Nat), i ≤ j → vs[j]? = some p → ∃ xs, X.ownsRow B 9 1 p.1 p.2 xs
  only : Dk.Only (Df.Hb vs) W0 X
/-- And of the next one the first k hits. -/
structure Df.A2 (u : Nat → Value) (W0 : World) (B : Nat) (vs : List (Value × Nat)) (vl : Value) (i : Nat) (p : Value × Nat) (xs : List Value) (k : Nat) (X : World) : Prop where
  row : X.ownsRow B 63 1 vl vs.length (vs.map fun p => p.1)
  done : ∀ (j : Nat) (p : Value × Nat), j < i → vs[j]? = some p → X.ownsRow B 9 1 p.1 p.2 (Df.mk (u j) p.2)
  todo : ∀ (j : Nat) (p : Value × Nat), i + 1 ≤ j → vs[j]? = some p → ∃ xs, X.ownsRow B 9 1 p.1 p.2 xs
  cur : X.ownsRow B 9 1 p.1 p.2 (Df.mk (u i) k ++ xs.drop k)
  only : Dk.Only (Df.Hb vs) W0 X
section
variable {u : Nat → Value} {W W0 X X' : World} {B : Nat} {vs : List (Value × Nat)} {vl : Value}
theorem Df.lcell {Al : Option Addr} {cl : Nat} {ls : List Value} {n : Nat} (h : X.ownsRow B 63 1 (.slice Al n cl) n ls) {i : Nat} {v : Value} (hi : ls[i]? = some v) : ∃ g, Al = some ⟨g, 0, none⟩ ∧ n ≤ cl ∧ cl ≤ maxLen ∧ X.cell? ⟨g, i, none⟩ = some v := by
  have hl := h.1
  have hlt := (List.getElem?_eq_some_iff.1 hi).1
  obtain ⟨g, rfl, h1, h2⟩ := Df.row_some h (by omega)
  have := h.cells (g := g) rfl i v hi
  rw [Df.addr_add] at this
  exact ⟨g, rfl, h1, h2, this⟩
theorem Df.A1.next {i : Nat} (h : Df.A1 u W0 B vs vl i X) {p : Value × Nat} (hp : vs[i]? = some p) : ∃ xs, xs.length = p.2 ∧ Df.A2 u W0 B vs vl i p xs 0 X := by
  obtain ⟨xs, hx⟩ := h.todo i p (Nat.le_refl _) hp
  exact ⟨xs, hx.1.trans (Nat.mul_one _), h.row, h.done, fun j q hj hq => h.todo j q (by omega) hq, by rw [Df.mk_zero, List.drop_zero]; exact hx, h.only⟩
theorem Df.A2.full {i : Nat} {p : Value × Nat} {xs : List Value} (h : Df.A2 u W0 B vs vl i p xs p.2 X) (hp : vs[i]? = some p) (hx : xs.length = p.2) : Df.A1 u W0 B vs vl (i + 1) X :=
  ⟨h.row, fun j q hj hq => by
    by_cases e : j = i
    · subst e
      rw [hp] at hq
      obtain rfl := Option.some.inj hq
      have := h.cur
      rw [List.drop_of_length_le (by omega), List.append_nil] at this
      exact this
    · exact h.done j q (by omega) hq, h.todo, h.only⟩
theorem Df.A2.step (hA : Df.Ap B vs vl W0) {i : Nat} {p : Value × Nat} {xs : List Value} {k g : Nat} (h : Df.A2 u W0 B vs vl i p xs k X) (hp : vs[i]? = some p) (hg : p.1.ownBlock = some g) (hx : xs.length = p.2) (hk : k < p.2) {c : Nat} (hv : p.1 = .slice (some ⟨g, 0, none⟩) p.2 c) :
    Df.A2 u W0 B vs vl i p xs (k + 1) (X.setCell ⟨g, k, none⟩ (u i)) := by
  have far : ∀ j, j ≠ g → (X.setCell ⟨g, k, none⟩ (u i)).heap[j]? = X.heap[j]? := fun j hj => by
    rw [Below.heap_setCell _ ⟨g, k, none⟩ _ j hj]
  have hm := List.mem_of_getElem? hp
  have hH : Df.Hb vs g := ⟨p, hm, hg⟩
  refine ⟨Df.own_of h.row fun b hb => far b fun e => hA.off p hm g hg (by rw [← e]; exact hb), fun j q hj hq => Df.own_of (h.done j q hj hq) fun b hb => far b fun e => ?_, fun j q hj hq => ?_, ?_, ?_⟩
  · have := hA.dis i j p q g hp hq hg (by rw [← e]; exact hb)
    omega
  · obtain ⟨ys, hy⟩ := h.todo j q hj hq
    exact ⟨ys, Df.own_of hy fun b hb => far b fun e => by
      have := hA.dis i j p q g hp hq hg (by rw [← e]; exact hb)
      omega⟩
  · have hc := h.cur
    rw [hv] at hc ⊢
    have hs := hc.stored k (u i)
    have := hs.1
    rw [Df.mk_set _ _ _ (by omega)] at this
    exact this
  · exact h.only.setCell (p := ⟨g, k, none⟩) (.inl hH) _
end
/-- The first i lists have been grown too. -/
structure Df.B1 (u : Nat → Value) (W0 : World) (B B2 : Nat) (vs : List (Value × Nat)) (vl : Value) (i : Nat) (ls : List Value) (vm : Value) (X : World) : Prop where
  row : X.ownsRow B 63 1 vl vs.length (vs.map fun p => p.1)
  done : ∀ (j : Nat) (p : Value × Nat), j < i → vs[j]? = some p → ∃ l, ls[j]? = some l ∧ X.ownsRow B 9 1 l (p.2 + 70) (Df.mk (u j) p.2 ++ Df.mk (u j) 70) ∧ Df.See X p.1 p.2 (u j) ∧ (l.ownBlock = p.1.ownBlock ∨ ∃ b, l.ownBlock = some b ∧ B2 ≤ b) ∧ ∀ b, l.ownBlock = some b → vm.ownBlock ≠ some b
  todo : ∀ (j : Nat) (p : Value × Nat), i ≤ j → vs[j]? = some p → X.ownsRow B 9 1 p.1 p.2 (Df.mk (u j) p.2)
  more : X.ownsRow B2 63 1 vm ls.length ls
  len : ls.length = i
  only : Dk.Only (Df.Hb vs) W0 X
  old : ∀ p ∈ vs, ∀ b, p.1.ownBlock = some b → b < B2
  oldl : ∀ b, vl.ownBlock = some b → b < B2
  size : B2 ≤ X.heap.size
  base : W0.heap.size ≤ B2
/-- And of the next one's growth the first k. -/
structure Df.B3 (u : Nat → Value) (B : Nat) (p : Value × Nat) (i : Nat) (Y : World) (l : Value) (k : Nat) (X : World) : Prop where
  only : Dk.Only (fun b => p.1.ownBlock = some b) Y X
  cur : X.ownsRow B 9 1 l (p.2 + k) (Df.mk (u i) p.2 ++ Df.mk (u i) k)
  see : Df.See X p.1 p.2 (u i)
  lies : l.ownBlock = p.1.ownBlock ∨ ∃ b, l.ownBlock = some b ∧ Y.heap.size ≤ b
section
variable {u : Nat → Value} {W W0 X X' : World} {B B2 : Nat} {vs : List (Value × Nat)} {vl : Value}
theorem Df.A1.turn (hA : Df.Ap B vs vl W0) (h : Df.A1 u W0 B vs vl vs.length X) (hB : B ≤ X.heap.size) : Df.B1 u W0 B X.heap.size vs vl 0 [] (.slice none 0 0) X :=
  ⟨h.row, fun j p hj => by omega, fun j p _ hp => h.done j p (List.getElem?_eq_some_iff.1 hp).1 hp, ⟨rfl, .inl ⟨rfl, rfl⟩⟩, rfl, h.only, fun p hp b hb => by
    obtain ⟨j, hj⟩ := List.getElem?_of_mem hp
    exact ((h.done j p (List.getElem?_eq_some_iff.1 hj).1 hj).lt b hb).2, fun b hb => (h.row.lt b hb).2, Nat.le_refl _, h.only.size⟩
theorem Df.B1.next {i : Nat} {ls : List Value} {vm : Value} (h : Df.B1 u W0 B B2 vs vl i ls vm X) {p : Value × Nat} (hp : vs[i]? = some p) : Df.B3 u B p i X p.1 0 X := by
  have hr := h.todo i p (Nat.le_refl _) hp
  refine ⟨Dk.Only.refl _ _, by rw [Df.mk_zero, List.append_nil]; exact hr, ?_, .inl rfl⟩
  rw [← List.append_nil (Df.mk (u i) p.2)] at hr
  exact Df.See.of hr fun hn => ⟨rfl, by
    rcases hr.2 with ⟨_, h0⟩ | ⟨g, cap, cur, e, _⟩
    · omega
    · exact ⟨g, by rw [e]; rfl⟩⟩
theorem Df.B3.step {p : Value × Nat} {i k : Nat} {Y : World} {l l' : Value} (h : Df.B3 u B p i Y l k X) (o : Obj) (hr : X'.ownsRow B 9 1 l' (p.2 + (k + 1)) (Df.mk (u i) p.2 ++ Df.mk (u i) (k + 1)))
    (hg : (l'.ownBlock = l.ownBlock ∧ (X.alloc o).grownBy X' l.ownBlock) ∨ (l'.ownBlock = some (X.alloc o).heap.size ∧ (X.alloc o).grownBy X' none)) : Df.B3 u B p i Y l' (k + 1) X' := by
  have hs := h.only.size
  have hal : ∀ b, b < X.heap.size → (X.alloc o).heap[b]? = X.heap[b]? := fun b hb => Below.heap_alloc X o b hb
  have hsz : (X.alloc o).heap.size = X.heap.size + 1 := World.size_alloc _ _
  have hv : ∀ b, p.1.ownBlock = some b → 0 < p.2 → b < X.heap.size := fun b hb hn => by
    obtain ⟨g, h1, h2⟩ := h.see 0 hn
    rw [hb] at h1
    rw [Option.some.inj h1]
    exact World.block_lt_of_cell? X _ h2
  rcases hg with ⟨e1, g1⟩ | ⟨e1, g1⟩
  · refine ⟨⟨g1.os.trans h.only.os, g1.tape.trans h.only.tape, g1.output.trans h.only.output, by have := g1.size; omega, fun b hb hn => ?_⟩, hr, ?_, by rw [e1]; exact h.lies⟩
    · have hne : some b ≠ l.ownBlock := fun e => by
        rcases h.lies with h1 | ⟨b', h1, h2⟩
        · exact hn (h1.symm.trans e.symm)
        · rw [h1] at e
          have := Option.some.inj e
          omega
      exact (g1.block b (by omega) hne).trans ((hal b (by omega)).trans (h.only.block b hb hn))
    · by_cases hlv : l.ownBlock = p.1.ownBlock
      · refine Df.See.of hr fun hn => ⟨e1.trans hlv, ?_⟩
        obtain ⟨g, h1, _⟩ := h.see 0 hn
        exact ⟨g, h1⟩
      · intro k' hk'
        obtain ⟨g, h1, h2⟩ := h.see k' hk'
        have hb := hv g h1 (by omega)
        exact ⟨g, h1, (World.cell?_of_block (a := ⟨g, k', none⟩) ((g1.block g (by omega) fun e => hlv (e.symm.trans h1.symm)).trans (hal g hb))).trans h2⟩
  · refine ⟨⟨g1.os.trans h.only.os, g1.tape.trans h.only.tape, g1.output.trans h.only.output, by have := g1.size; omega, fun b hb hn => ?_⟩, hr, ?_, .inr ⟨_, e1, by omega⟩⟩
    · exact (g1.block b (by omega) (by simp)).trans ((hal b (by omega)).trans (h.only.block b hb hn))
    · intro k' hk'
      obtain ⟨g, h1, h2⟩ := h.see k' hk'
      have hb := hv g h1 (by omega)
      exact ⟨g, h1, (World.cell?_of_block (a := ⟨g, k', none⟩) ((g1.block g (by omega) (by simp)).trans (hal g hb))).trans h2⟩
theorem Df.B1.more' {i : Nat} {ls : List Value} {vm : Value} (h : Df.B1 u W0 B B2 vs vl i ls vm W) {p : Value × Nat} (hp : vs[i]? = some p) (ho : Dk.Only (fun b => p.1.ownBlock = some b) W X) : X.ownsRow B2 63 1 vm ls.length ls :=
  Df.own_of h.more fun b hb => ho.block b (h.more.lt b hb).2 fun e => by
    have h1 := h.old p (List.mem_of_getElem? hp) b e
    have h2 := (h.more.lt b hb).1
    omega
theorem Df.B1.row' (hA : Df.Ap B vs vl W0) {i : Nat} {ls : List Value} {vm : Value} (h : Df.B1 u W0 B B2 vs vl i ls vm W) {p : Value × Nat} (hp : vs[i]? = some p) (ho : Dk.Only (fun b => p.1.ownBlock = some b) W X) : X.ownsRow B 63 1 vl vs.length (vs.map fun p => p.1) :=
  Df.own_of h.row fun b hb => ho.block b (h.row.lt b hb).2 fun e => hA.off p (List.mem_of_getElem? hp) b e hb
theorem Df.B1.grow (hA : Df.Ap B vs vl W0) {i : Nat} {ls : List Value} {vm vm' l : Value} (h : Df.B1 u W0 B B2 vs vl i ls vm W) {p : Value × Nat} (hp : vs[i]? = some p) (h3 : Df.B3 u B p i W l 70 X) (o : Obj)
    (hr : X'.ownsRow B2 63 1 vm' (ls.length + 1) (ls ++ [l])) (hg : (vm'.ownBlock = vm.ownBlock ∧ (X.alloc o).grownBy X' vm.ownBlock) ∨ (vm'.ownBlock = some (X.alloc o).heap.size ∧ (X.alloc o).grownBy X' none)) :
    Df.B1 u W0 B B2 vs vl (i + 1) (ls ++ [l]) vm' X' := by
  have hs := h3.only.size
  have hz := h.size
  have hbz := h.base
  have hsz : (X.alloc o).heap.size = X.heap.size + 1 := World.size_alloc _ _
  have hm := List.mem_of_getElem? hp
  have hmore := h.more' hp h3.only
  have hsz' : X.heap.size + 1 ≤ X'.heap.size := by
    rcases hg with ⟨_, g1⟩ | ⟨_, g1⟩
    · have := g1.size; omega
    · have := g1.size; omega
  have keep : ∀ b, b < X.heap.size → vm.ownBlock ≠ some b → X'.heap[b]? = X.heap[b]? := fun b hb hn => by
    rcases hg with ⟨_, g1⟩ | ⟨_, g1⟩
    · exact (g1.block b (by omega) fun e => hn e.symm).trans (Below.heap_alloc X o b hb)
    · exact (g1.block b (by omega) (by simp)).trans (Below.heap_alloc X o b hb)
  have hvm : ∀ b, vm.ownBlock = some b → B2 ≤ b ∧ b < W.heap.size := fun b hb => h.more.lt b hb
  have hvm' : ∀ b, b < X.heap.size → vm.ownBlock ≠ some b → vm'.ownBlock ≠ some b := fun b hb hn e => by
    rcases hg with ⟨e1, _⟩ | ⟨e1, _⟩
    · exact hn (e1.symm.trans e)
    · rw [e1] at e
      have := Option.some.inj e
      omega
  have low : ∀ b, b < B2 → vm.ownBlock ≠ some b := fun b hb e => by have := (hvm b e).1; omega
  refine ⟨?_, fun j q hj hq => ?_, fun j q hj hq => ?_, by rw [List.length_append]; exact hr, by rw [List.length_append, h.len]; rfl, ?_, h.old, h.oldl, by omega, h.base⟩
  · have hr1 := h.row' hA hp h3.only
    exact Df.own_of hr1 fun b hb => keep b (hr1.lt b hb).2 (low b (h.oldl b hb))
  · by_cases e : j = i
    · subst e
      rw [hp] at hq
      obtain rfl := Option.some.inj hq
      have hl : ∀ b, l.ownBlock = some b → vm.ownBlock ≠ some b := fun b hb e => by
        rcases h3.lies with h1 | ⟨b', h1, h2⟩
        · exact low b (h.old p hm b (h1.symm.trans hb)) e
        · rw [h1] at hb
          have := Option.some.inj hb
          have := (hvm b e).2
          omega
      refine ⟨l, by rw [← h.len, List.getElem?_append_right (Nat.le_refl _), Nat.sub_self]; rfl, Df.own_of h3.cur fun b hb => keep b (h3.cur.lt b hb).2 (hl b hb), fun k hk => ?_, ?_, fun b hb => hvm' b (h3.cur.lt b hb).2 (hl b hb)⟩
      · obtain ⟨g, g1, g2⟩ := h3.see k hk
        exact ⟨g, g1, (World.cell?_of_block (a := ⟨g, k, none⟩) (keep g (World.block_lt_of_cell? X _ g2) (low g (h.old p hm g g1)))).trans g2⟩
      · exact h3.lies.imp id fun ⟨b, h1, h2⟩ => ⟨b, h1, by omega⟩
    · obtain ⟨lj, k1, k2, k3, k4, k5⟩ := h.done j q (by omega) hq
      have hjl : j < ls.length := (List.getElem?_eq_some_iff.1 k1).1
      have hlj : ∀ b, lj.ownBlock = some b → p.1.ownBlock ≠ some b := fun b hb e2 => by
        rcases k4 with h1 | ⟨b', h1, h2⟩
        · exact e (hA.dis j i q p b hq hp (h1.symm.trans hb) e2)
        · rw [h1] at hb
          have := Option.some.inj hb
          have := h.old p hm b e2
          omega
      have row1 := Df.own_of k2 fun b hb => h3.only.block b (k2.lt b hb).2 (hlj b hb)
      refine ⟨lj, by rw [List.getElem?_append_left hjl]; exact k1, Df.own_of row1 fun b hb => keep b (row1.lt b hb).2 (k5 b hb), fun k hk => ?_, k4, fun b hb => hvm' b (row1.lt b hb).2 (k5 b hb)⟩
      obtain ⟨g, g1, g2⟩ := k3 k hk
      have hg1 := World.block_lt_of_cell? W _ g2
      have e1 := h3.only.block g hg1 fun e2 => e (hA.dis j i q p g hq hp g1 e2)
      exact ⟨g, g1, (World.cell?_of_block (a := ⟨g, k, none⟩) ((keep g (by have h9 : g < W.heap.size := hg1; omega) (low g (h.old q (List.mem_of_getElem? hq) g g1))).trans e1)).trans g2⟩
  · have k2 := h.todo j q (by omega) hq
    have row1 := Df.own_of k2 fun b hb => h3.only.block b (k2.lt b hb).2 fun e2 => by
      have := hA.dis j i q p b hq hp hb e2
      omega
    exact Df.own_of row1 fun b hb => keep b (row1.lt b hb).2 (low b (h.old q (List.mem_of_getElem? hq) b hb))
  · have o1 : Dk.Only (Df.Hb vs) W0 X := h.only.trans (h3.only.wide fun b _ hb => ⟨p, hm, hb⟩)
    have hos : X'.os = X.os ∧ X'.tape = X.tape ∧ X'.output = X.output := by
      rcases hg with ⟨_, g1⟩ | ⟨_, g1⟩ <;> exact ⟨g1.os, g1.tape, g1.output⟩
    have := o1.size
    exact ⟨hos.1.trans o1.os, hos.2.1.trans o1.tape, hos.2.2.trans o1.output, by omega, fun b hb hn => (keep b (by omega) (low b (by omega))).trans (o1.block b hb hn)⟩
end
end Go.Proofs.Ytgbeeghdoilmkaa
