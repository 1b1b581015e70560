/- Disks: their images, as the program writes them. Conditions: each theorem's own hypotheses. -/
import Derived.Test.YtgbeeghdoilmkaaDkH
import Derived.RegionTactic
import Derived.Deep.RegionHeld3
import Derived.Laws.BitsAllLaws
import Derived.Deep.AppendLies
import Derived.Deep.RegionHeldLaw
namespace Go.Proofs.Ytgbeeghdoilmkaa
open Go.RowKit Go.Maps Go.Sort
set_option linter.unusedVariables false

/-- A number as four bytes, the highest first. -/
def Dk.be4 (n : Nat) : List UInt8 := [UInt8.ofNat (n / 16777216 % 256), UInt8.ofNat (n / 65536 % 256), UInt8.ofNat (n / 256 % 256), UInt8.ofNat (n % 256)]
/-- A file in an image. -/
def Dk.img (f : Dk.F) : List UInt8 := UInt8.ofNat f.name.length :: (f.name ++ Dk.be4 f.sure ++ f.data.take f.sure)
def Dk.imgs : List Dk.F → List UInt8
  | [] => []
  | f :: r => Dk.img f ++ Dk.imgs r
/-- An image. -/
def Dk.image (m : Dk.M) : List UInt8 := 68 :: Dk.imgs m.files
theorem Dk.imgs_append (a b : List Dk.F) : Dk.imgs (a ++ b) = Dk.imgs a ++ Dk.imgs b := by
  induction a with
  | nil => rfl
  | cons f r ih => rw [List.cons_append, Dk.imgs, Dk.imgs, ih, List.append_assoc]
theorem Dk.img_len (f : Dk.F) (h : Dk.named f.name = true) : (Dk.img f).length ≤ 37 + f.data.length := by
  have h2 : f.name.length ≤ 32 := by
    unfold Dk.named at h
    rw [Bool.and_eq_true, decide_eq_true_iff] at h
    exact h.2.2
  unfold Dk.img Dk.be4
  simp only [List.length_cons, List.length_append, List.length_take, List.length_nil]
  omega
theorem Dk.used_cons (f : Dk.F) (r : List Dk.F) : Dk.used (f :: r) = f.data.length + Dk.used r := by unfold Dk.used; rw [List.map_cons, List.sum_cons]
theorem Dk.used_append (a b : List Dk.F) : Dk.used (a ++ b) = Dk.used a + Dk.used b := by
  unfold Dk.used
  rw [List.map_append, List.sum_append]
theorem Dk.imgs_len : ∀ l : List Dk.F, (∀ f ∈ l, Dk.named f.name = true) → (Dk.imgs l).length ≤ 37 * l.length + Dk.used l
  | [], _ => Nat.zero_le _
  | f :: r, h => by
    have h1 := Dk.img_len f (h f (List.mem_cons_self ..))
    have h2 := Dk.imgs_len r fun g hg => h g (List.mem_cons_of_mem _ hg)
    rw [Dk.imgs, List.length_append, Dk.used_cons, List.length_cons]
    omega
theorem Dk.imgs_take {m : Dk.M} (hG : Dk.Good m) (k : Nat) : (Dk.imgs (m.files.take k)).length ≤ 1074000000 := by
  have h1 := Dk.imgs_len (m.files.take k) fun f hf => (hG.file f (List.mem_of_mem_take hf)).1
  have h2 : Dk.used (m.files.take k) ≤ Dk.used m.files := by
    have := Dk.used_append (m.files.take k) (m.files.drop k)
    rw [List.take_append_drop] at this
    omega
  have h3 := List.length_take_le k m.files
  have h4 := List.length_take_le' k m.files
  have := hG.many
  have := hG.used
  have := hG.cap
  omega
/-- Rows of two types lie apart. -/
theorem Dk.own_ne {w : World} {b1 b2 : Nat} {e1 e2 : TypeId} {s1 s2 n1 n2 : Nat} {v1 v2 : Value} {x1 x2 : List Value} (h1 : w.ownsRow b1 e1 s1 v1 n1 x1) (h2 : w.ownsRow b2 e2 s2 v2 n2 x2) (he : e1 ≠ e2) : v1.ownBlock = none ∨ v1.ownBlock ≠ v2.ownBlock := by
  rcases h1.2 with ⟨rfl, _⟩ | ⟨g, cap, cur, rfl, _, hg, _⟩
  · exact .inl rfl
  · rcases h2.2 with ⟨rfl, _⟩ | ⟨g2, cap2, cur2, rfl, _, hg2, _⟩
    · exact .inr (fun h => by cases h)
    · refine .inr fun h => he ?_
      injection h with h
      subst h
      rw [hg] at hg2
      injection hg2 with hg2
      injection hg2
/-- A byte as a value. -/
def Dk.bv (c : UInt8) : Value := .int .u8 (c.toNat : Int)
theorem Dk.conv_own {w : World} {base n : Nat} {v : Value} {l : List UInt8} (h : w.ownsRow base 5 1 v n (l.map Dk.bv)) (hl : l.length = n) :
    (convert 81 9 v).run Try.prog w = .ok (Tx.v l) w := by
  subst hl
  rcases h.2 with ⟨rfl, h0⟩ | ⟨g, cap, cur, rfl, _⟩
  · rw [List.length_eq_zero_iff.1 h0]
    exact Dk.conv_nil w
  · refine run_convert_bytes_back w 81 9 5 ⟨g, 0, none⟩ cap l Try.underlying81 Try.underlying5 Try.underlying9 fun j hj => ?_
    have := h.cellAt j (by omega)
    rw [show (⟨g, 0, none⟩ : Addr).add j = ⟨g, j, none⟩ from by unfold Addr.add; split <;> simp_all, this]
    simp [Dk.bv, hj]
theorem Dk.strCells_bv (s : ByteArray) : Lib.strCells s = s.data.toList.map Dk.bv := rfl
end Go.Proofs.Ytgbeeghdoilmkaa
/- Own rows of bytes: appended to, at any source. Conditions: each theorem's own hypotheses. -/
namespace Go.Proofs.Ytgbeeghdoilmkaa
open Go.RowKit Go.Maps Go.Sort
set_option linter.unusedVariables false

section
variable {P : Program} {w : World}
/-- append, by any law of its run. -/
theorem Dk.wp_append {o : Oper} {a : Act} {K : Act → World → Prop} {Q : Exit → Act → World → Prop} (s x : Operand) (t u : TypeId)
    (ho : o.op = .call { callee := .builtin .append, args := #[s, x], argTypes := #[t, u] }) (v src : Value) (hs : a.eval s = v) (hx : a.eval x = src)
    (R : Value → World → Prop) (hr : ∀ ty, ∃ v' w', (Builtin.append_ #[t, u] ty #[v, src]).run P w = .ok v' w' ∧ R v' w')
    (h : ∀ v' w', R v' w' → K (a.put o.dst v') w') : o.wp P a w K Q := by
  obtain ⟨v', w', hr, h2⟩ := hr o.type
  unfold Oper.wp execOp
  simp only [ho, resolve, invoke, builtin, Sem.run_bind, Sem.run_pure, Result.andThen_ok, List.map_toArray, List.map_cons, List.map_nil, hs, hx, hr]
  exact h v' w' h2
theorem Dk.wpList_append {ops : Array Oper} {rest : List Oper} {o : Oper} {a : Act} {Q : Exit → Act → World → Prop} (hgd : o.guard = none) (s x : Operand) (t u : TypeId)
    (ho : o.op = .call { callee := .builtin .append, args := #[s, x], argTypes := #[t, u] }) (v src : Value) (hs : a.eval s = v) (hx : a.eval x = src)
    (R : Value → World → Prop) (hr : ∀ ty, ∃ v' w', (Builtin.append_ #[t, u] ty #[v, src]).run P w = .ok v' w' ∧ R v' w')
    (h : ∀ v' w', R v' w' → wpList P ops Q rest (a.put o.dst v') w') : wpList P ops Q (o :: rest) a w :=
  wpList_plain hgd fun _ hK => Dk.wp_append s x t u ho v src hs hx R hr fun v' w' h2 => hK _ _ (h v' w' h2)
theorem Dk.step_append {ops : Array Oper} {o : Oper} {a : Act} {K : Act → World → Prop} {Q : Exit → Act → World → Prop} {E : Prop} (hgd : o.guard = none) (s x : Operand) (t u : TypeId)
    (ho : o.op = .call { callee := .builtin .append, args := #[s, x], argTypes := #[t, u] }) (v src : Value) (hs : a.eval s = v) (hx : a.eval x = src)
    (R : Value → World → Prop) (hr : ∀ ty, ∃ v' w', (Builtin.append_ #[t, u] ty #[v, src]).run P w = .ok v' w' ∧ R v' w')
    (h : ∀ v' w', R v' w' → K (a.put o.dst v') w') :
    if Region.wanted o (yielded ops a.tmps) = true then Oper.wp P o a w K Q else E := by
  have hw : Region.wanted o (yielded ops a.tmps) = true := by simp [Region.wanted, hgd]
  rw [if_pos hw]
  exact Dk.wp_append s x t u ho v src hs hx R hr h
end

/-- A slice from which these bytes are read. -/
def Dk.Src (W : World) (src : Value) (l : List UInt8) : Prop :=
  (src = .slice none 0 0 ∧ l = []) ∨ ∃ g off c, src = .slice (some ⟨g, off, none⟩) l.length c ∧ ∀ j u, (l.map Dk.bv)[j]? = some u → W.cell? ((⟨g, off, none⟩ : Addr).add j) = some u
theorem Dk.Src.keep {W W' : World} {src : Value} {l : List UInt8} (h : Dk.Src W src l) (hk : ∀ k, src.ownBlock = some k → W'.heap[k]? = W.heap[k]?) : Dk.Src W' src l := by
  rcases h with h | ⟨g, off, c, rfl, h⟩
  · exact .inl h
  · refine .inr ⟨g, off, c, rfl, fun j u hu => ?_⟩
    rw [World.cell?_of_block (w := W) (by have hb : ((⟨g, off, none⟩ : Addr).add j).block = g := by (unfold Addr.add; split <;> rfl)
                                          rw [hb]; exact hk g rfl)]
    exact h j u hu
/-- An own row of bytes. -/
def Dk.Own (W : World) (B : Nat) (v : Value) (l : List UInt8) : Prop := W.ownsRow B 5 1 v l.length (l.map Dk.bv)
theorem Dk.Own.cat {w : World} {B : Nat} {v : Value} {l : List UInt8} (h : Dk.Own w B v l) {src : Value} {r : List UInt8} (hs : Dk.Src w src r) (hl : l.length + r.length ≤ 140737488355328) (hB : B ≤ w.heap.size) (ty : TypeId) :
    ∃ v' w', (Builtin.append_ #[81, 81] ty #[v, src]).run Try.prog w = .ok v' w' ∧ Dk.Own w' B v' (l ++ r) ∧ w.grownBy w' v.ownBlock := by
  obtain ⟨i, hi, hz0, hz1, hz2⟩ := info_parts Dk.u8Info
  rcases hs with ⟨rfl, rfl⟩ | ⟨g, off, c, rfl, hc⟩
  · refine ⟨v, w, ?_, by rw [List.append_nil]; exact h, ⟨rfl, rfl, rfl, Nat.le_refl _, fun _ _ _ => rfl⟩⟩
    have h2 := h
    unfold Dk.Own at h2
    rcases h2.2 with ⟨rfl, hn⟩ | ⟨g, cap, cur, rfl, hbg, hg, hnc, hcm, hcs, htake⟩
    · simp [Builtin.append_, run_underlying Try.underlying81, sizeOf, typeInfo, hi, Builtin.lenOf, Builtin.firstCells]
    · simp [Builtin.append_, run_underlying Try.underlying81, sizeOf, typeInfo, hi, Builtin.lenOf, Builtin.firstCells, loadCells, hnc, storeCells]
  · obtain ⟨v', w', h1, h2, h3, _⟩ := run_append_own (P := Try.prog) w B 81 ty 5 i (.int .u8 0) 1 1 Try.underlying81 hi hz0 hz1 hz2 rfl (by decide) v l.length (l.map Dk.bv) h ⟨g, off, none⟩ r.length c (r.map Dk.bv) (by simp) hc (by intro u hu; obtain ⟨x, _, rfl⟩ := List.mem_map.1 hu; rfl) (by unfold maxLen; omega) (by omega) hB
    refine ⟨v', w', h1, ?_, h3⟩
    unfold Dk.Own
    rw [List.length_append, List.map_append]
    exact h2
theorem Dk.Own.text {w : World} {B : Nat} {v : Value} {l : List UInt8} (h : Dk.Own w B v l) (s : ByteArray) (hl : l.length + s.size ≤ 140737488355328) (hB : B ≤ w.heap.size) (ty : TypeId) :
    ∃ v' w', (Builtin.append_ #[81, 9] ty #[v, .string s]).run Try.prog w = .ok v' w' ∧ Dk.Own w' B v' (l ++ s.data.toList) ∧ w.grownBy w' v.ownBlock := by
  obtain ⟨i, hi, hz0, hz1, hz2⟩ := info_parts Dk.u8Info
  obtain ⟨v', w', h1, h2, h3, _⟩ := Lib.run_append_own_string (P := Try.prog) w B 81 9 ty 5 i Try.underlying81 Try.underlying9 hi hz0 hz1 hz2 v l.length (l.map Dk.bv) h s (by unfold maxLen; omega) (by omega) hB
  refine ⟨v', w', h1, ?_, h3⟩
  unfold Dk.Own
  rw [List.length_append, List.map_append, ← Tx.size]
  exact h2
/-- A fresh block of bytes as a source. -/
theorem Dk.Src.new (w : World) (l : List UInt8) (n c : Nat) (hn : n = l.length) : Dk.Src (w.alloc (.cells (l.map Dk.bv).toArray 5)) (.slice (some ⟨w.heap.size, 0, none⟩) n c) l := by
  subst hn
  refine .inr ⟨_, _, _, rfl, fun j u hu => ?_⟩
  exact World.news_of_block (heap_alloc_new w _) j u hu
theorem Dk.Own.new (w : World) (x : UInt8) : Dk.Own (w.alloc (.cells #[Dk.bv x] 5)) w.heap.size (.slice (some ⟨w.heap.size, 0, none⟩) 1 1) [x] :=
  ⟨rfl, .inr ⟨_, 1, _, rfl, Nat.le_refl _, heap_alloc_new w _, Nat.le_refl _, by unfold maxLen; omega, rfl, rfl⟩⟩
theorem Dk.Own.keep {W W' : World} {B : Nat} {v : Value} {l : List UInt8} (h : Dk.Own W B v l) (hk : ∀ k, v.ownBlock = some k → W'.heap[k]? = W.heap[k]?) : Dk.Own W' B v l := by
  refine ⟨h.1, ?_⟩
  rcases h.2 with h | ⟨g, cap, cur, rfl, hb, hg, r⟩
  · exact .inl h
  · exact .inr ⟨g, cap, cur, rfl, hb, (hk g rfl).trans hg, r⟩
theorem Dk.Own.alloc {W : World} {B : Nat} {v : Value} {l : List UInt8} (h : Dk.Own W B v l) (o : Obj) : Dk.Own (W.alloc o) B v l := h.keep fun k hk => Below.heap_alloc W o k (World.ownsRow.lt h k hk).2
/-- A part of a disk's row as a source. -/
theorem Dk.Row.src {W : World} {g cap : Nat} {l : List UInt8} {n : Nat} (h : Dk.Row W (.slice (some ⟨g, 0, none⟩) n cap) l) (k c : Nat) (hk : k ≤ l.length) : Dk.Src W (.slice (some ⟨g, 0, none⟩) k c) (l.take k) := by
  refine .inr ⟨g, 0, c, by rw [List.length_take, Nat.min_eq_left hk], fun j u hu => ?_⟩
  rw [show (⟨g, 0, none⟩ : Addr).add j = ⟨g, j, none⟩ from by unfold Addr.add; split <;> simp_all]
  rw [List.getElem?_map, List.getElem?_take] at hu
  split at hu
  · cases hx : l[j]? with
    | none => rw [hx] at hu; cases hu
    | some x =>
      rw [hx] at hu
      cases hu
      exact h.cells.2 j x hx
  · cases hu
end Go.Proofs.Ytgbeeghdoilmkaa
