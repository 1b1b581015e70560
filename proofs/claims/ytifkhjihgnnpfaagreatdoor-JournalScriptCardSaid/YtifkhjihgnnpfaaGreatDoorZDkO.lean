/- Disks: their images, as the program writes them. Conditions: each theorem's own hypotheses. -/
import Derived.Test.YtifkhjihgnnpfaaGreatDoorZDkH
import Derived.RegionTactic
import Derived.Deep.RegionHeld3
import Derived.Laws.BitsAllLaws
import Derived.Deep.AppendLies
import Derived.Deep.RegionHeldLaw
import Derived.Maps.Own
namespace Go.Proofs.YtifkhjihgnnpfaaGreatDoor
open Go.RowKit Go.Maps Go.Sort
set_option linter.unusedVariables false

/-- A number as four bytes, the highest first. -/
def Dk.be4 (n : Nat) : List UInt8 := [UInt8.ofNat (n / 16777216 % 256), UInt8.ofNat (n / 65536 % 256), UInt8.ofNat (n / 256 % 256), UInt8.ofNat (n % 256)]
/-- A file in an image. -/
def Dk.img (f : Dk.F) : List UInt8 := UInt8.ofNat f.name.length :: (f.name ++ Dk.be4 f.sure ++ f.data.take f.sure)
def Dk.imgs : List Dk.F → List UInt8
  | [] => []
  | f :: r => Dk.img f ++ Dk.imgs r
/-- An image. -/
def Dk.image (m : Dk.M) : List UInt8 := 68 :: Dk.imgs m.files
theorem Dk.imgs_append (a b : List Dk.F) : Dk.imgs (a ++ b) = Dk.imgs a ++ Dk.imgs b := by
  induction a with
  | nil => rfl
  | cons f r ih => rw [List.cons_append, Dk.imgs, Dk.imgs, ih, List.append_assoc]
theorem Dk.img_len (f : Dk.F) (h : Dk.named f.name = true) : (Dk.img f).length ≤ 37 + f.data.length := by
  have h2 : f.name.length ≤ 32 := by
    unfold Dk.named at h
    rw [Bool.and_eq_true, decide_eq_true_iff] at h
    exact h.2.2
  unfold Dk.img Dk.be4
  simp only [List.length_cons, List.length_append, List.length_take, List.length_nil]
  omega
theorem Dk.used_cons (f : Dk.F) (r : List Dk.F) : Dk.used (f :: r) = f.data.length + Dk.used r := by unfold Dk.used; rw [List.map_cons, List.sum_cons]
theorem Dk.used_append (a b : List Dk.F) : Dk.used (a ++ b) = Dk.used a + Dk.used b := by
  unfold Dk.used
  rw [List.map_append, List.sum_append]
theorem Dk.imgs_len : ∀ l : List Dk.F, (∀ f ∈ l, Dk.named f.name = true) → (Dk.imgs l).length ≤ 37 * l.length + Dk.used l
  | [], _ => Nat.zero_le _
  | f :: r, h => by
    have h1 := Dk.img_len f (h f (List.mem_cons_self ..))
    have h2 := Dk.imgs_len r fun g hg => h g (List.mem_cons_of_mem _ hg)
    rw [Dk.imgs, List.length_append, Dk.used_cons, List.length_cons]
    omega
theorem Dk.imgs_take {m : Dk.M} (hG : Dk.Good m) (k : Nat) : (Dk.imgs (m.files.take k)).length ≤ 1074000000 := by
  have h1 := Dk.imgs_len (m.files.take k) fun f hf => (hG.file f (List.mem_of_mem_take hf)).1
  have h2 : Dk.used (m.files.take k) ≤ Dk.used m.files := by
    have := Dk.used_append (m.files.take k) (m.files.drop k)
    rw [List.take_append_drop] at this
    omega
  have h3 := List.length_take_le k m.files
  have h4 := List.length_take_le' k m.files
  have := hG.many
  have := hG.used
  have := hG.cap
  omega
/-- Rows of two types lie apart. -/
theorem Dk.own_ne {w : World} {b1 b2 : Nat} {e1 e2 : TypeId} {s1 s2 n1 n2 : Nat} {v1 v2 : Value} {x1 x2 : List Value} (h1 : w.ownsRow b1 e1 s1 v1 n1 x1) (h2 : w.ownsRow b2 e2 s2 v2 n2 x2) (he : e1 ≠ e2) : v1.ownBlock = none ∨ v1.ownBlock ≠ v2.ownBlock := by
  rcases h1.2 with ⟨rfl, _⟩ | ⟨g, cap, cur, rfl, _, hg, _⟩
  · exact .inl rfl
  · rcases h2.2 with ⟨rfl, _⟩ | ⟨g2, cap2, cur2, rfl, _, hg2, _⟩
    · exact .inr (fun h => by cases h)
    · refine .inr fun h => he ?_
      injection h with h
      subst h
      rw [hg] at hg2
      injection hg2 with hg2
      injection hg2
/-- A byte as a value. -/
def Dk.bv (c : UInt8) : Value := .int .u8 (c.toNat : Int)
theorem Dk.conv_own {w : World} {base n : Nat} {v : Value} {l : List UInt8} (h : w.ownsRow base 5 1 v n (l.map Dk.bv)) (hl : l.length = n) :
    (convert 84 9 v).run Tryz.prog w = .ok (Tx.v l) w := by
  subst hl
  rcases h.2 with ⟨rfl, h0⟩ | ⟨g, cap, cur, rfl, _⟩
  · rw [List.length_eq_zero_iff.1 h0]
    exact Dk.conv_nil w
  · refine run_convert_bytes_back w 84 9 5 ⟨g, 0, none⟩ cap l Tryz.underlying84 Tryz.underlying5 Tryz.underlying9 fun j hj => ?_
    have := h.cellAt j (by omega)
    rw [show (⟨g, 0, none⟩ : Addr).add j = ⟨g, j, none⟩ from by unfold Addr.add; split <;> simp_all, this]
    simp [Dk.bv, hj]
theorem Dk.strCells_bv (s : ByteArray) : Lib.strCells s = s.data.toList.map Dk.bv := rfl
end Go.Proofs.YtifkhjihgnnpfaaGreatDoor
/- Own rows of bytes: appended to, at any source. Conditions: each theorem's own hypotheses. -/
namespace Go.Proofs.YtifkhjihgnnpfaaGreatDoor
open Go.RowKit Go.Maps Go.Sort
set_option linter.unusedVariables false

section
variable {P : Program} {w : World}
/-- append, by any law of its run. -/
theorem Dk.wp_append {o : Oper} {a : Act} {K : Act → World → Prop} {Q : Exit → Act → World → Prop} (s x : Operand) (t u : TypeId)
    (ho : o.op = .call { callee := .builtin .append, args := #[s, x], argTypes := #[t, u] }) (v src : Value) (hs : a.eval s = v) (hx : a.eval x = src)
    (R : Value → World → Prop) (hr : ∀ ty, ∃ v' w', (Builtin.append_ #[t, u] ty #[v, src]).run P w = .ok v' w' ∧ R v' w')
    (h : ∀ v' w', R v' w' → K (a.put o.dst v') w') : o.wp P a w K Q := by
  obtain ⟨v', w', hr, h2⟩ := hr o.type
  unfold Oper.wp execOp
  simp only [ho, resolve, invoke, builtin, Sem.run_bind, Sem.run_pure, Result.andThen_ok, List.map_toArray, List.map_cons, List.map_nil, hs, hx, hr]
  exact h v' w' h2
theorem Dk.wpList_append {ops : Array Oper} {rest : List Oper} {o : Oper} {a : Act} {Q : Exit → Act → World → Prop} (hgd : o.guard = none) (s x : Operand) (t u : TypeId)
    (ho : o.op = .call { callee := .builtin .append, args := #[s, x], argTypes := #[t, u] }) (v src : Value) (hs : a.eval s = v) (hx : a.eval x = src)
    (R : Value → World → Prop) (hr : ∀ ty, ∃ v' w', (Builtin.append_ #[t, u] ty #[v, src]).run P w = .ok v' w' ∧ R v' w')
    (h : ∀ v' w', R v' w' → wpList P ops Q rest (a.put o.dst v') w') : wpList P ops Q (o :: rest) a w :=
  wpList_plain hgd fun _ hK => Dk.wp_append s x t u ho v src hs hx R hr fun v' w' h2 => hK _ _ (h v' w' h2)
theorem Dk.step_append {ops : Array Oper} {o : Oper} {a : Act} {K : Act → World → Prop} {Q : Exit → Act → World → Prop} {E : Prop} (hgd : o.guard = none) (s x : Operand) (t u : TypeId)
    (ho : o.op = .call { callee := .builtin .append, args := #[s, x], argTypes := #[t, u] }) (v src : Value) (hs : a.eval s = v) (hx : a.eval x = src)
    (R : Value → World → Prop) (hr : ∀ ty, ∃ v' w', (Builtin.append_ #[t, u] ty #[v, src]).run P w = .ok v' w' ∧ R v' w')
    (h : ∀ v' w', R v' w' → K (a.put o.dst v') w') :
    if Region.wanted o (yielded ops a.tmps) = true then Oper.wp P o a w K Q else E := by
  have hw : Region.wanted o (yielded ops a.tmps) = true := by simp [Region.wanted, hgd]
  rw [if_pos hw]
  exact Dk.wp_append s x t u ho v src hs hx R hr h
end

/-- A slice from which these bytes are read. -/
def Dk.Src (W : World) (src : Value) (l : List UInt8) : Prop :=
  (src = .slice none 0 0 ∧ l = []) ∨ ∃ g off c, src = .slice (some ⟨g, off, none⟩) l.length c ∧ ∀ j u, (l.map Dk.bv)[j]? = some u → W.cell? ((⟨g, off, none⟩ : Addr).add j) = some u
theorem Dk.Src.keep {W W' : World} {src : Value} {l : List UInt8} (h : Dk.Src W src l) (hk : ∀ k, src.ownBlock = some k → W'.heap[k]? = W.heap[k]?) : Dk.Src W' src l := by
  rcases h with h | ⟨g, off, c, rfl, h⟩
  · exact .inl h
  · refine .inr ⟨g, off, c, rfl, fun j u hu => ?_⟩
    rw [World.cell?_of_block (w := W) (by have hb : ((⟨g, off, none⟩ : Addr).add j).block = g := by (unfold Addr.add; split <;> rfl)
                                          rw [hb]; exact hk g rfl)]
    exact h j u hu
/-- An own row of bytes. -/
def Dk.Own (W : World) (B : Nat) (v : Value) (l : List UInt8) : Prop := W.ownsRow B 5 1 v l.length (l.map Dk.bv)
theorem Dk.Own.cat {w : World} {B : Nat} {v : Value} {l : List UInt8} (h : Dk.Own w B v l) {src : Value} {r : List UInt8} (hs : Dk.Src w src r) (hl : l.length + r.length ≤ 140737488355328) (hB : B ≤ w.heap.size) (ty : TypeId) :
    ∃ v' w', (Builtin.append_ #[84, 84] ty #[v, src]).run Tryz.prog w = .ok v' w' ∧ Dk.Own w' B v' (l ++ r) ∧ w.grownBy w' v.ownBlock := by
  obtain ⟨i, hi, hz0, hz1, hz2⟩ := info_parts Dk.u8Info
  rcases hs with ⟨rfl, rfl⟩ | ⟨g, off, c, rfl, hc⟩
  · refine ⟨v, w, ?_, by rw [List.append_nil]; exact h, ⟨rfl, rfl, rfl, Nat.le_refl _, fun _ _ _ => rfl⟩⟩
    have h2 := h
    unfold Dk.Own at h2
    rcases h2.2 with ⟨rfl, hn⟩ | ⟨g, cap, cur, rfl, hbg, hg, hnc, hcm, hcs, htake⟩
    · simp [Builtin.append_, run_underlying Tryz.underlying84, sizeOf, typeInfo, hi, Builtin.lenOf, Builtin.firstCells]
    · simp [Builtin.append_, run_underlying Tryz.underlying84, sizeOf, typeInfo, hi, Builtin.lenOf, Builtin.firstCells, loadCells, hnc, storeCells]
  · obtain ⟨v', w', h1, h2, h3, _⟩ := run_append_own (P := Tryz.prog) w B 84 ty 5 i (.int .u8 0) 1 1 Tryz.underlying84 hi hz0 hz1 hz2 rfl (by decide) v l.length (l.map Dk.bv) h ⟨g, off, none⟩ r.length c (r.map Dk.bv) (by simp) hc (by intro u hu; obtain ⟨x, _, rfl⟩ := List.mem_map.1 hu; rfl) (by unfold maxLen; omega) (by omega) hB
    refine ⟨v', w', h1, ?_, h3⟩
    unfold Dk.Own
    rw [List.length_append, List.map_append]
    exact h2
theorem Dk.Own.text {w : World} {B : Nat} {v : Value} {l : List UInt8} (h : Dk.Own w B v l) (s : ByteArray) (hl : l.length + s.size ≤ 140737488355328) (hB : B ≤ w.heap.size) (ty : TypeId) :
    ∃ v' w', (Builtin.append_ #[84, 9] ty #[v, .string s]).run Tryz.prog w = .ok v' w' ∧ Dk.Own w' B v' (l ++ s.data.toList) ∧ w.grownBy w' v.ownBlock := by
  obtain ⟨i, hi, hz0, hz1, hz2⟩ := info_parts Dk.u8Info
  obtain ⟨v', w', h1, h2, h3, _⟩ := Lib.run_append_own_string (P := Tryz.prog) w B 84 9 ty 5 i Tryz.underlying84 Tryz.underlying9 hi hz0 hz1 hz2 v l.length (l.map Dk.bv) h s (by unfold maxLen; omega) (by omega) hB
  refine ⟨v', w', h1, ?_, h3⟩
  unfold Dk.Own
  rw [List.length_append, List.map_append, ← Tx.size]
  exact h2
/-- A fresh block of bytes as a source. -/
theorem Dk.Src.new (w : World) (l : List UInt8) (n c : Nat) (hn : n = l.length) : Dk.Src (w.alloc (.cells (l.map Dk.bv).toArray 5)) (.slice (some ⟨w.heap.size, 0, none⟩) n c) l := by
  subst hn
  refine .inr ⟨_, _, _, rfl, fun j u hu => ?_⟩
  exact World.news_of_block (heap_alloc_new w _) j u hu
theorem Dk.Own.new (w : World) (x : UInt8) : Dk.Own (w.alloc (.cells #[Dk.bv x] 5)) w.heap.size (.slice (some ⟨w.heap.size, 0, none⟩) 1 1) [x] :=
  ⟨rfl, .inr ⟨_, 1, _, rfl, Nat.le_refl _, heap_alloc_new w _, Nat.le_refl _, by unfold maxLen; omega, rfl, rfl⟩⟩
theorem Dk.Own.keep {W W' : World} {B : Nat} {v : Value} {l : List UInt8} (h : Dk.Own W B v l) (hk : ∀ k, v.ownBlock = some k → W'.heap[k]? = W.heap[k]?) : Dk.Own W' B v l := by
  refine ⟨h.1, ?_⟩
  rcases h.2 with h | ⟨g, cap, cur, rfl, hb, hg, r⟩
  · exact .inl h
  · exact .inr ⟨g, cap, cur, rfl, hb, (hk g rfl).trans hg, r⟩
theorem Dk.Own.alloc {W : World} {B : Nat} {v : Value} {l : List UInt8} (h : Dk.Own W B v l) (o : Obj) : Dk.Own (W.alloc o) B v l := h.keep fun k hk => Below.heap_alloc W o k (World.ownsRow.lt h k hk).2
/-- A part of a disk's row as a source. -/
theorem Dk.Row.src {W : World} {g cap : Nat} {l : List UInt8} {n : Nat} (h : Dk.Row W (.slice (some ⟨g, 0, none⟩) n cap) l) (k c : Nat) (hk : k ≤ l.length) : Dk.Src W (.slice (some ⟨g, 0, none⟩) k c) (l.take k) := by
  refine .inr ⟨g, 0, c, by rw [List.length_take, Nat.min_eq_left hk], fun j u hu => ?_⟩
  rw [show (⟨g, 0, none⟩ : Addr).add j = ⟨g, j, none⟩ from by unfold Addr.add; split <;> simp_all]
  rw [List.getElem?_map, List.getElem?_take] at hu
  split at hu
  · cases hx : l[j]? with
    | none => rw [hx] at hu; cases hu
    | some x =>
      rw [hx] at hu
      cases hu
      exact h.cells.2 j x hx
  · cases hu
end Go.Proofs.YtifkhjihgnnpfaaGreatDoor
/- Disks: Image, the program's. Conditions: each theorem's own hypotheses. -/
namespace Go.Proofs.YtifkhjihgnnpfaaGreatDoor
open Go.RowKit Go.Maps Go.Sort
set_option linter.unusedVariables false

/-- A name, looked up for the file alone. -/
theorem Dk.Stand.run_find {W : World} {d b : Nat} {m : Dk.M} {L : List Dk.X} (h : Dk.Stand W d b m L) (s : ByteArray) (hs : s.size ≤ maxLen) :
    (Instr.lookup 42 (.map (some b)) (.string s) false).run Tryz.prog W = .ok (Dk.ptr (Dk.get Dk.X.nm s.data.toList L)) W := by
  have hkey : keyOf Tryz.prog 9 (.string s) = some (.string s.data.toList) := by
    simp [keyOf, Tryz.underlying9, mapKey, hs]
  obtain ⟨v, ps, hrun, hv⟩ := h.map.lookup Dk.strKeyed Tryz.underlying42 (Dk.zero_ptr W) Dk.R_nil hkey
  rw [hrun]
  rw [Dk.dat_at] at hv
  cases hg : Dk.get Dk.X.nm s.data.toList L with
  | some x =>
    rw [hg] at hv
    rw [Dk.R_lit hv]
    rfl
  | none =>
    rw [hg] at hv
    obtain ⟨c, rfl⟩ := Dk.R_inv hv
    cases c with
    | none => rfl
    | some a => simp [Dk.R] at hv
/-- In a sorted list each name finds its own. -/
theorem Dk.get_at {α : Type} {key : α → List UInt8} : ∀ {l : List α}, Dk.Up key l → ∀ {k : Nat} {x : α}, l[k]? = some x → Dk.get key (key x) l = some x
  | [], _, k, x, h => by cases h
  | y :: r, hu, 0, x, h => by
    obtain rfl : y = x := Option.some.inj h
    unfold Dk.get
    rw [List.find?_cons]
    simp
  | y :: r, hu, k + 1, x, h => by
    have h2 := List.pairwise_cons.1 hu
    have hx : x ∈ r := List.mem_of_getElem? h
    have hne : (key y == key x) = false := by
      rw [beq_eq_false_iff_ne]
      intro e
      have := h2.1 x hx
      rw [e] at this
      rw [WideAt.bytes_irrefl] at this
      cases this
    unfold Dk.get
    rw [List.find?_cons, hne]
    exact Dk.get_at h2.2 h
/-- The byte that stands at a place of a number. -/
theorem Dk.be4_at (n q : Nat) (hn : n ≤ 268435456) (hq : q < 4) : (Dk.be4 n)[q]? = some (UInt8.ofNat (n / 2 ^ (8 * (3 - q)) % 256)) := by
  rcases q with _ | _ | _ | _ | q
  · rfl
  · rfl
  · rfl
  · show some (UInt8.ofNat (n % 256)) = _
    rw [show 8 * (3 - (0 + 1 + 1 + 1)) = 0 from rfl, Nat.pow_zero, Nat.div_one]
  · omega
theorem Dk.take_more {α : Type} {l : List α} {q : Nat} {x : α} (h : l[q]? = some x) : l.take (q + 1) = l.take q ++ [x] := by
  obtain ⟨h1, h2⟩ := List.getElem?_eq_some_iff.1 h
  rw [List.take_succ_eq_append_getElem h1, h2]
theorem Dk.imgs_more {l : List Dk.F} {k : Nat} {f : Dk.F} (h : l[k]? = some f) : Dk.imgs (l.take (k + 1)) = Dk.imgs (l.take k) ++ Dk.img f := by
  rw [Dk.take_more h, Dk.imgs_append]
  show _ ++ (Dk.img f ++ []) = _
  rw [List.append_nil]
theorem Dk.two_far {w w' : World} {row : Option Nat} {a : Nat} {v0 v1 : Value} (hg : w.grownBy w' row) (ha : a < w.heap.size) (hr : ∀ k, row = some k → k ≠ a) (h : w.cell? ⟨a, 0, none⟩ = some v0 ∧ w.cell? ⟨a, 1, none⟩ = some v1) : w'.cell? ⟨a, 0, none⟩ = some v0 ∧ w'.cell? ⟨a, 1, none⟩ = some v1 := by
  have hb : some a ≠ row := fun e => hr a e.symm rfl
  exact ⟨(hg.cell_far ⟨a, 0, none⟩ ha hb).trans h.1, (hg.cell_far ⟨a, 1, none⟩ ha hb).trans h.2⟩

set_option maxRecDepth 100000 in
set_option maxHeartbeats 4000000 in
theorem Dk.image_any {W : World} {d : Nat} {m : Dk.M} {F : Nat → Prop} (h : Dk.At W d m F) (hG : Dk.Good m) :
    Calls Tryz.prog 19 #[.pointer (some ⟨d, 0, none⟩)] W fun e W' => e = .returned (Tx.v (Dk.image m)) ∧ Below W.heap.size W W' := by
  have hnm : ∀ B : World, Below W.heap.size W B → _ := fun B hB => Dk.names_of (h.later hB (Nat.le_refl _)) hG
  obtain ⟨b, L, hS, rfl⟩ := h
  go_enter Tryz.func19, Tryz.ntmps19
  go_upto_region 2 with fail
  obtain ⟨W1, hW1⟩ : ∃ W1, W.alloc (.cells #[.int .u8 68] 5) = W1 := ⟨_, rfl⟩
  have o1 : Dk.Own W1 W.heap.size (.slice (some ⟨W.heap.size, 0, none⟩) 1 1) [68] := by rw [← hW1]; exact Dk.Own.new W 68
  have hB1 : Below W.heap.size W W1 := by rw [← hW1]; exact (Below.refl _ _).alloc (Nat.le_refl _) _
  rw [hW1]
  have hc := hnm W1 hB1
  clear hnm hW1
  go_wp2_with (go_at_call 45; refine hc.mono ?_; rintro e w2 ⟨nv, rfl, hr, hB2⟩; obtain ⟨A, c, rfl⟩ : ∃ A c, nv = .slice A m.files.length c := by (rcases hr.2 with ⟨h1, h2⟩ | ⟨g, c, cur, h1, _⟩; exact ⟨none, 0, by rw [h1, h2]⟩; exact ⟨_, _, h1⟩))
  have hB2' : Below W.heap.size W w2 := hB1.trans (hB2.mono hB1.size)
  have o2 : Dk.Own w2 W.heap.size (.slice (some ⟨W.heap.size, 0, none⟩) 1 1) [68] := o1.keep fun k hk => hB2.block k (World.ownsRow.lt o1 k hk).2
  have hLl : L.length = m.files.length := by rw [← hS.fs, List.length_map]
  have hLu : Dk.Up Dk.X.nm L := by
    have := hG.up
    unfold Dk.Up at this ⊢
    rw [← hS.fs, List.pairwise_map] at this
    exact this
  have hm0 := hG.many
  have hle := Dk.imgs_take hG
  obtain ⟨B1, hBB⟩ : ∃ B1, W1.heap.size = B1 := ⟨_, rfl⟩
  rw [hBB] at hr
  clear hBB hB2 o1 hB1 hc
  go_loopw [3, 12] (fun v i wr => ∃ k, k ≤ m.files.length ∧ i = .int .i64 k ∧ Dk.Own wr W.heap.size v (68 :: Dk.imgs (m.files.take k)) ∧ wr.ownsRow B1 9 1 (.slice A m.files.length c) m.files.length ((m.files.map Dk.F.name).map encStr) ∧ Below W.heap.size W wr) (fun _ i _ => m.files.length - (intOf i).toNat)
  case atStart => exact ⟨0, Nat.zero_le _, rfl, o2, hr, hB2'⟩
  case round =>
    obtain ⟨k, hk, rfl, hown, hrw, hB⟩ := hrel
    by_cases hlt : k < m.files.length
    · obtain ⟨f, hf⟩ : ∃ f, m.files[k]? = some f := ⟨_, List.getElem?_eq_getElem hlt⟩
      obtain ⟨x, hx⟩ : ∃ x, L[k]? = some x := ⟨_, List.getElem?_eq_getElem (by omega)⟩
      have hxf : x.f = f := by
        have h1 : (L.map fun x => x.f)[k]? = some x.f := by rw [List.getElem?_map, hx]; rfl
        rw [hS.fs, hf] at h1
        exact (Option.some.inj h1).symm
      have hget := Dk.get_at hLu hx
      have hxL := List.mem_of_getElem? hx
      have hSr := hS.later hB (Nat.le_refl _)
      obtain ⟨c0, _⟩ := hSr.eight
      obtain ⟨q1, q2⟩ := hSr.two hxL
      obtain ⟨hf1, hf2, hf3⟩ := hG.file f (List.mem_of_getElem? hf)
      have hf4 : f.name.length ≤ 32 := by
        have h := hf1
        unfold Dk.named at h
        rw [Bool.and_eq_true, decide_eq_true_iff] at h
        exact h.2.2
      obtain ⟨s, hsl, hss⟩ := Tx.of f.name
      have hxs : s.data.toList = x.nm := by rw [hsl, ← hxf]
      have hlook := hSr.run_find s (by unfold maxLen; omega)
      rw [hxs, hget] at hlook
      unfold Dk.ptr at hlook
      simp only at hlook
      have hR := (hSr.file x hxL).2
      rw [hxf] at q2 hR
      obtain ⟨g, c', hA, _, _⟩ := hrw.form (by omega)
      injection hA with hA _ hcc
      subst hA hcc
      have hcell := hrw.cellAt k (by omega)
      have hev : ((m.files.map Dk.F.name).map encStr)[k]? = some (.string s) := by
        rw [List.getElem?_map, List.getElem?_map, hf]
        exact congrArg some (Tx.v_eq hsl)
      rw [hev] at hcell
      obtain ⟨z, hz⟩ : ∃ z, UInt8.ofNat f.name.length = z := ⟨_, rfl⟩
      have hzn : IntKind.u8.wrap (s.size : Int) = (z.toNat : Int) := by
        rw [← hz, UInt8.toNat_ofNat', hss, Nat.mod_eq_of_lt (by omega)]
        unfold IntKind.wrap; simp [IntKind.bits, IntKind.signed]; omega
      obtain ⟨l, hl⟩ : ∃ l, (68 : UInt8) :: Dk.imgs (m.files.take k) = l := ⟨_, rfl⟩
      rw [hl] at hown
      have hll : l.length ≤ 1074000001 := by rw [← hl, List.length_cons]; have := hle k; omega
      have hnext : Hid ((68 : UInt8) :: Dk.imgs (m.files.take (k + 1)) = l ++ (z :: (f.name ++ Dk.be4 f.sure ++ f.data.take f.sure))) := by
        show _ = _
        rw [Dk.imgs_more hf, ← hl, ← hz]; rfl
      have HZ := Lib.hid hz
      have HL := Lib.hid hl
      have HX := Lib.hid hxf
      have HSL := Lib.hid hsl
      have HSS := Lib.hid hss
      have HF := Lib.hid hf
      have HLX := Lib.hid hx
      have HG := Lib.hid hget
      have HEV := Lib.hid hev
      clear hz hl hxf hsl hss hf hx hget hev hxs hle hLu
      go_upto_region 8 with (first
        | (at_builtin; refine Dk.wpList_append rfl _ _ 84 9 rfl _ _ rfl rfl _ (fun ty => ho1.text s (by rw [List.length_append]; simp; have := HSS.out; omega) (by have := hB.size; have := hg1.size; simp at this; omega) ty) ?_; intro v2 w5 ho2; obtain ⟨ho2, hg2⟩ := ho2)
        | (at_builtin; refine Dk.wpList_append rfl _ _ 84 84 rfl _ _ rfl rfl _ (fun ty => (hown.alloc _).cat (Dk.Src.new _ [z] 1 1 rfl) (by simp; omega) (by have := hB.size; simp; omega) ty) ?_; intro v1 w4 ho1; obtain ⟨ho1, hg1⟩ := ho1))
      have hB4 := (hB.alloc (by have := hB.size; omega) (.cells #[.int .u8 (z.toNat : Int)] 5)).grown hg1 (by have := hB.size; simp; omega) (fun k hk => (World.ownsRow.lt hown k hk).1)
      have hB5 := hB4.grown hg2 (by have := hB4.size; omega) (fun k hk => (World.ownsRow.lt ho1 k hk).1)
      have hr4 := (World.ownsRow.kept (World.ownsRow.kept hrw ((Below.refl wr.heap.size wr).alloc (Nat.le_refl _) (.cells #[.int .u8 (z.toNat : Int)] 5) |> fun h => ⟨h.os, h.tape, h.output, h.size, fun k hk _ => h.block k hk⟩) (Dk.own_ne hrw hown (by decide))) hg1 (Dk.own_ne (World.ownsRow.kept hrw ((Below.refl wr.heap.size wr).alloc (Nat.le_refl _) (.cells #[.int .u8 (z.toNat : Int)] 5) |> fun h => ⟨h.os, h.tape, h.output, h.size, fun k hk _ => h.block k hk⟩) (Dk.own_ne hrw hown (by decide))) (hown.alloc _) (by decide)))
      have hr5 := World.ownsRow.kept hr4 hg2 (Dk.own_ne hr4 ho1 (by decide))
      obtain ⟨l2, hl2⟩ : ∃ l2, l ++ [z] ++ s.data.toList = l2 := ⟨_, rfl⟩
      rw [hl2] at ho2
      have hll2 : l2.length ≤ 1074000034 := by
        rw [← hl2, List.length_append, List.length_append, ← Tx.size]
        have := HSS.out
        simp
        omega
      have HL2 := Lib.hid hl2
      have hS5 := hS.later hB5 (Nat.le_refl _)
      clear hl2 hr4 hrw hg1 hg2 hB4 ho1 hlook hcell hSr hR q1 q2 c0 hB hown
      go_wp2_with fail
      go_loopw [3, 7] (fun v j wq => ∃ q : Nat, q ≤ 4 ∧ j = .int .i64 (3 - (q : Int)) ∧ Dk.Own wq W.heap.size v (l2 ++ (Dk.be4 f.sure).take q) ∧ wq.ownsRow B1 9 1 (.slice (some ⟨g, 0, none⟩) m.files.length c) m.files.length ((m.files.map Dk.F.name).map encStr) ∧ Below W.heap.size W wq) (fun _ j _ => (intOf j + 1).toNat)
      case atStart => exact ⟨0, by omega, rfl, by rw [List.take_zero, List.append_nil]; exact ho2, hr5, hB5⟩
      case round =>
        obtain ⟨q, hq, rfl, hownq, hrq, hBq⟩ := hrel
        have hSq := hS.later hBq (Nat.le_refl _)
        obtain ⟨q1, q2⟩ := hSq.two hxL
        have hRq := (hSq.file x hxL).2
        rw [HX.out] at q2 hRq
        by_cases hq4 : q < 4
        · have hbe := Dk.be4_at f.sure q (by omega) hq4
          obtain ⟨y, hy⟩ : ∃ y, UInt8.ofNat (f.sure / 2 ^ (8 * (3 - q)) % 256) = y := ⟨_, rfl⟩
          rw [hy] at hbe
          have hmore := Lib.hid (Dk.take_more hbe)
          clear hbe
          have hj1 : IntKind.i64.wrap (8 * (3 - (q : Int))) = 8 * (3 - (q : Int)) := IntWalk.i64_in _ (by omega)
          have hj2 : IntKind.i64.wrap (3 - (q : Int) - 1) = 3 - ((q + 1 : Nat) : Int) := (IntWalk.i64_in _ (by omega)).trans (by omega)
          have u1 : decide ((0 : Int) ≤ 3 - (q : Int)) = true := decide_eq_true (by omega)
          have hyv : ((f.sure : Int) / 2 ^ (8 * (3 - q)) % 256) = (y.toNat : Int) := by
            rw [← hy, UInt8.toNat_ofNat', Nat.mod_eq_of_lt (Nat.mod_lt _ (by decide))]
            simp
          have hql : (l2 ++ (Dk.be4 f.sure).take q).length ≤ 1074000040 := by
            rw [List.length_append]
            have := List.length_take_le q (Dk.be4 f.sure)
            omega
          clear hy
          go_wp2_with (at_builtin; refine Dk.wpList_append rfl _ _ 84 84 rfl _ _ rfl rfl _ (fun ty => (hownq.alloc _).cat (Dk.Src.new _ [y] 1 1 rfl) (by simp only [List.length_singleton]; omega) (by have := hBq.size; simp; omega) ty) ?_; intro v3 w6 ho3; obtain ⟨ho3, hg3⟩ := ho3)
          have hBq1 := hBq.alloc (by have := hBq.size; omega) (.cells #[Dk.bv y] 5)
          have hBq2 := hBq1.grown hg3 (by have := hBq1.size; omega) (fun k hk => (World.ownsRow.lt hownq k hk).1)
          have hrq1 := World.ownsRow.kept hrq ((Below.refl wr.heap.size wr).alloc (Nat.le_refl _) (.cells #[Dk.bv y] 5) |> fun h => ⟨h.os, h.tape, h.output, h.size, fun k hk _ => h.block k hk⟩) (Dk.own_ne hrq hownq (by decide))
          have hrq2 := World.ownsRow.kept hrq1 hg3 (Dk.own_ne hrq1 (hownq.alloc (.cells #[Dk.bv y] 5)) (by decide))
          go_roundw
          case rel => exact ⟨q + 1, by omega, by go_num, by rw [hmore.out, ← List.append_assoc]; exact ho3, hrq2, hBq2⟩
          case measure => simp [intOf]; omega
        · obtain rfl : q = 4 := by omega
          have u1 : decide ((0 : Int) ≤ 3 - ((4 : Nat) : Int)) = false := rfl
          rw [show (Dk.be4 f.sure).take 4 = Dk.be4 f.sure from rfl] at hownq
          have hl3 : (l2 ++ Dk.be4 f.sure).length ≤ 1074000040 := by
            rw [List.length_append]
            have : (Dk.be4 f.sure).length = 4 := rfl
            omega
          obtain ⟨l3, hll3⟩ : ∃ l3, l2 ++ Dk.be4 f.sure = l3 := ⟨_, rfl⟩
          rw [hll3] at hownq hl3
          have HL3 := Lib.hid hll3
          clear hll3
          have hxw : x.blk < W.heap.size := (hS.file x hxL).1.lt
          have hxo : ∀ k, u3.ownBlock = some k → k ≠ x.blk := fun k hk => by have := (World.ownsRow.lt hownq k hk).1; omega
          rcases hRq.form with ⟨hv, hd⟩ | ⟨g2, cap2, hv, hc1, hc2⟩
          · rw [hv] at q1 hRq
            have hs0 : f.sure = 0 := by rw [hd] at hf3; simpa using hf3
            rw [hs0] at q2
            have hsrc : Dk.Src wr (.slice none 0 0) (f.data.take f.sure) := .inl ⟨rfl, by rw [hs0, List.take_zero]⟩
            go_wp2_with fail
            go_region_held_law (fun W' => W'.cell? ⟨x.blk, 0, none⟩ = some (.slice none 0 0) ∧ W'.cell? ⟨x.blk, 1, none⟩ = some (.int .i64 ((0 : Nat) : Int)))
              (first
                | with_reducible assumption
                | exact ⟨q1, q2⟩
                | exact Dk.two_far hg4 (Nat.lt_of_lt_of_le hxw hBq.size) hxo ⟨q1, q2⟩)
              (first
                | (refine Dk.step_append rfl (.tmp 46) (.tmp 55) 84 84 rfl u3 (.slice none 0 0) (by simp [Act.eval]) (by simp [Act.eval]) _ (fun ty => Dk.Own.cat (w := wr.drew) hownq hsrc (by rw [List.length_take]; omega) hBq.size ty) ?_; intro v4 w7 ho4; obtain ⟨ho4, hg4⟩ := ho4))
            go_wp2_with fail
            go_roundw
            case rel =>
              refine ⟨k + 1, hlt, by go_num, ?_, World.ownsRow.kept (w := wr.drew) hrq hg4 (Dk.own_ne hrq hownq (by decide)), (hBq.drew).grown hg4 hBq.size (fun k hk => (World.ownsRow.lt hownq k hk).1)⟩
              rw [hnext.out, ← HSL.out]
              rw [← HL3.out, ← HL2.out] at ho4
              simpa using ho4
            case measure => simp [intOf]; omega
          · rw [hv] at q1 hRq
            have hsrc := hRq.src f.sure cap2 hf3
            have s1 : (f.sure : Int) ≤ (cap2 : Int) := by omega
            go_wp2_with fail
            go_region_held_law (fun W' => W'.cell? ⟨x.blk, 0, none⟩ = some (.slice (some ⟨g2, 0, none⟩) f.data.length cap2) ∧ W'.cell? ⟨x.blk, 1, none⟩ = some (.int .i64 (f.sure : Int)))
              (first
                | with_reducible assumption
                | exact ⟨q1, q2⟩
                | exact Dk.two_far hg4 (Nat.lt_of_lt_of_le hxw hBq.size) hxo ⟨q1, q2⟩)
              (first
                | (refine Dk.step_append rfl (.tmp 46) (.tmp 55) 84 84 rfl u3 (.slice (some ⟨g2, 0, none⟩) f.sure cap2) (by simp [Act.eval]) (by simp [Act.eval]) _ (fun ty => Dk.Own.cat (w := wr.drew) hownq hsrc (by rw [List.length_take]; omega) hBq.size ty) ?_; intro v4 w7 ho4; obtain ⟨ho4, hg4⟩ := ho4))
            go_wp2_with fail
            go_roundw
            case rel =>
              refine ⟨k + 1, hlt, by go_num, ?_, World.ownsRow.kept (w := wr.drew) hrq hg4 (Dk.own_ne hrq hownq (by decide)), (hBq.drew).grown hg4 hBq.size (fun k hk => (World.ownsRow.lt hownq k hk).1)⟩
              rw [hnext.out, ← HSL.out]
              rw [← HL3.out, ← HL2.out] at ho4
              simpa using ho4
            case measure => simp [intOf]; omega
    · obtain rfl : k = m.files.length := by omega
      rw [List.take_length] at hown
      have hcv := Dk.conv_own hown rfl
      go_wp2_with fail
      go_ret
      exact ⟨rfl, hB⟩
end Go.Proofs.YtifkhjihgnnpfaaGreatDoor
/- Disks: a file put in; images read, as a plain function. Conditions: each theorem's own hypotheses. -/
namespace Go.Proofs.YtifkhjihgnnpfaaGreatDoor
open Go.RowKit Go.Maps Go.Sort
set_option linter.unusedVariables false

section
variable {α : Type} {key : α → List UInt8}
theorem Dk.perm_ins (x : α) : ∀ l : List α, (Dk.ins key x l).Perm (x :: l)
  | [] => List.Perm.refl _
  | y :: r => by
    unfold Dk.ins
    split
    · exact List.Perm.refl _
    · exact ((Dk.perm_ins x r).cons y).trans (List.Perm.swap x y r)
theorem Dk.ins_last {x : α} : ∀ {l : List α}, (∀ y ∈ l, bytesBefore (key y) (key x) = true) → Dk.ins key x l = l ++ [x]
  | [], _ => rfl
  | y :: r, h => by
    have hy := h y (List.mem_cons_self ..)
    have hn : ¬ bytesBefore (key x) (key y) = true := fun hb => by
      have := WideShapes.bytes_trans _ _ _ hy hb
      rw [WideAt.bytes_irrefl] at this
      cases this
    unfold Dk.ins
    rw [if_neg hn, Dk.ins_last fun z hz => h z (List.mem_cons_of_mem _ hz), List.cons_append]
theorem Dk.get_none_iff {nm : List UInt8} {l : List α} : Dk.get key nm l = none ↔ ∀ x ∈ l, key x ≠ nm := by
  refine ⟨Dk.get_none, fun h => ?_⟩
  unfold Dk.get
  rw [List.find?_eq_none]
  intro x hx
  simpa using h x hx
end
/-- Two files lie apart. -/
def Dk.Apart (x y : Dk.X) : Prop := x.blk ≠ y.blk ∧ ∀ k, x.v.ownBlock = some k → y.v.ownBlock ≠ some k
theorem Dk.Apart.symm {x y : Dk.X} (h : Dk.Apart x y) : Dk.Apart y x := ⟨fun e => h.1 e.symm, fun k h1 h2 => h.2 k h2 h1⟩
theorem Dk.apart_perm {l r : List Dk.X} (h : l.Pairwise Dk.Apart) (hp : l.Perm r) : r.Pairwise Dk.Apart := (hp.pairwise_iff fun h => Dk.Apart.symm h).1 h
/-- A new file in the map. -/
theorem Dk.Stand.insert {W W' : World} {d b : Nat} {m m' : Dk.M} {L : List Dk.X} (h : Dk.Stand W d b m L) (x : Dk.X)
    (hd : Blk W' d 44 (Dk.cells b m')) (hm : W'.ownsMap Tryz.prog 9 Dk.R b (L.length + 1) ((Dk.dat L).put (.string x.nm) (.lit (.int .i64 x.blk))))
    (hn : Dk.get Dk.X.nm x.nm L = none) (hf : m'.files = Dk.ins Dk.F.name x.f m.files) (hx1 : Blk W' x.blk 89 #[x.v, .int .i64 x.f.sure]) (hx2 : Dk.Row W' x.v x.f.data)
    (hb : W.heap.size ≤ x.blk) (ho : ∀ k, x.v.ownBlock = some k → W.heap.size ≤ k) (hk : ∀ k, k < W.heap.size → k ≠ d → k ≠ b → W'.heap[k]? = W.heap[k]?) : Dk.Stand W' d b m' (Dk.ins Dk.X.nm x L) := by
  have hlone := h.lone
  have hput : Dk.put Dk.X.nm x L = Dk.ins Dk.X.nm x L := by
    unfold Dk.put
    rw [Dk.del_none (Dk.get_none hn)]
  have hbl : ∀ y ∈ L, (∀ k, (y.blk = k ∨ y.v.ownBlock = some k) → k ≠ b) := by
    intro y hy k hk2 hkb
    subst hkb
    obtain ⟨es, clock, hmb, _⟩ := h.map
    rcases hk2 with e | e
    · have h1 := (h.file y hy).1
      unfold Blk at h1
      rw [e, hmb] at h1
      cases h1
    · obtain ⟨cur, fz, h1⟩ := (h.file y hy).2.type e
      rw [hmb] at h1
      cases h1
  refine ⟨hd, ?_, ?_, ?_, ?_⟩
  · rw [Dk.len_ins]
    rw [Dk.dat_put, hput] at hm
    exact hm
  · rw [Dk.map_ins (g := fun x : Dk.X => x.f) (key' := Dk.F.name) (fun y => rfl) x L, h.fs, hf]
  · intro y hy
    rcases (Dk.mem_ins Dk.X.nm).1 hy with rfl | hy
    · exact ⟨hx1, hx2⟩
    · obtain ⟨h1, h2⟩ := h.file y hy
      refine ⟨?_, h2.keep fun k e => hk k (h2.lt k e) (hlone k (.inr ⟨y, hy, .inr e⟩)) (hbl y hy k (.inr e))⟩
      exact (hk y.blk h1.lt (hlone _ (.inr ⟨y, hy, .inl rfl⟩)) (hbl y hy _ (.inl rfl))).trans h1
  · refine Dk.apart_perm ?_ (Dk.perm_ins x L).symm
    refine List.pairwise_cons.2 ⟨fun y hy => ?_, h.apart⟩
    obtain ⟨h1, h2⟩ := h.file y hy
    refine ⟨fun e => ?_, fun k e1 e2 => ?_⟩
    · have := h1.lt; omega
    · have := h2.lt k e2
      have := ho k e1
      omega

/-- The last name. -/
def Dk.lastN (l : List Dk.F) : List UInt8 := (l.getLast?.map Dk.F.name).getD []
/-- The files of an image; none: it is none. -/
def Dk.scan : Nat → List Dk.F → List UInt8 → Option (List Dk.F)
  | 0, _, _ => none
  | n + 1, acc, l =>
    if l = [] then some acc
    else match Dk.one l with
      | none => none
      | some (nm, data, rest) => if bytesBefore (Dk.lastN acc) nm = true ∧ acc.length ≠ 4096 then Dk.scan n (acc ++ [⟨nm, data, data.length⟩]) rest else none
theorem Dk.scan_nil (n : Nat) (acc : List Dk.F) : Dk.scan (n + 1) acc [] = some acc := rfl
theorem Dk.scan_none {n : Nat} {acc : List Dk.F} {l : List UInt8} (hl : l ≠ []) (h : Dk.one l = none) : Dk.scan (n + 1) acc l = none := by
  show (if l = [] then _ else _) = _
  rw [if_neg hl, h]
theorem Dk.scan_some {n : Nat} {acc : List Dk.F} {l nm data rest : List UInt8} (hl : l ≠ []) (h : Dk.one l = some (nm, data, rest)) :
    Dk.scan (n + 1) acc l = if bytesBefore (Dk.lastN acc) nm = true ∧ acc.length ≠ 4096 then Dk.scan n (acc ++ [⟨nm, data, data.length⟩]) rest else none := by
  show (if l = [] then _ else _) = _
  rw [if_neg hl, h]
theorem Dk.one_good {l nm data rest : List UInt8} (h : Dk.one l = some (nm, data, rest)) : Dk.named nm = true ∧ data.length ≤ 268435456 ∧ l.length = 1 + nm.length + 4 + data.length + rest.length := by
  cases l with
  | nil => cases h
  | cons c r =>
    rw [Dk.one_cons] at h
    split at h
    · cases h
    · rename_i h1
      split at h
      · rename_i h2
        injection h with h
        injection h with e1 h
        injection h with e2 e3
        refine ⟨e1 ▸ h2.1, ?_, ?_⟩
        · rw [← e2, List.length_take]; omega
        · rw [← e1, ← e2, ← e3]
          simp only [List.length_cons, List.length_take, List.length_drop]
          omega
      · cases h
theorem Dk.lastN_snoc (l : List Dk.F) (f : Dk.F) : Dk.lastN (l ++ [f]) = f.name := by
  unfold Dk.lastN
  rw [List.getLast?_concat]; rfl
/-- What is read stays in order. -/
theorem Dk.up_snoc {l : List Dk.F} (h : Dk.Up Dk.F.name l) (f : Dk.F) (hb : bytesBefore (Dk.lastN l) f.name = true) : (∀ y ∈ l, bytesBefore y.name f.name = true) ∧ Dk.Up Dk.F.name (l ++ [f]) := by
  have hall : ∀ y ∈ l, bytesBefore y.name f.name = true := by
    rcases List.eq_nil_or_concat l with rfl | ⟨r, z, rfl⟩
    · intro y hy; cases hy
    · rw [List.concat_eq_append] at h hb ⊢
      rw [Dk.lastN_snoc] at hb
      intro y hy
      rcases List.mem_append.1 hy with hy | hy
      · have := (List.pairwise_append.1 h).2.2 y hy z (List.mem_singleton.2 rfl)
        exact WideShapes.bytes_trans _ _ _ this hb
      · rw [List.mem_singleton.1 hy]
        exact hb
  refine ⟨hall, List.pairwise_append.2 ⟨h, List.pairwise_singleton _ _, fun a ha y hy => ?_⟩⟩
  rw [List.mem_singleton.1 hy]
  exact hall a ha
/-- What Open makes of a scan. -/
def Dk.verdict (cap : Int) : Option (List Dk.F) → Except Int Dk.M
  | none => .error 46
  | some fs => if cap < Dk.used fs then .error 44 else .ok { Dk.fresh cap.toNat with files := fs }
/-- What Open makes of an image. -/
def Dk.opened (l : List UInt8) (cap : Int) : Except Int Dk.M :=
  if cap < 0 ∨ 1073741824 < cap then .error 13
  else match l with
    | [] => .error 46
    | c :: r =>
      if c = 68 then Dk.verdict cap (Dk.scan (r.length + 1) [] r) else .error 46
/-- Every list that a scan yields is a good one. -/
structure Dk.Fine (l : List Dk.F) : Prop where
  up : Dk.Up Dk.F.name l
  file : ∀ f ∈ l, Dk.named f.name = true ∧ f.data.length ≤ 268435456 ∧ f.sure = f.data.length
  many : l.length ≤ 4096
theorem Dk.Fine.nil : Dk.Fine [] := ⟨List.Pairwise.nil, fun f hf => (List.not_mem_nil hf).elim, by decide⟩
theorem Dk.Fine.snoc {l : List Dk.F} (h : Dk.Fine l) {nm data : List UInt8} (hn : Dk.named nm = true) (hd : data.length ≤ 268435456) (hb : bytesBefore (Dk.lastN l) nm = true) (hm : l.length ≠ 4096) : Dk.Fine (l ++ [⟨nm, data, data.length⟩]) := by
  refine ⟨(Dk.up_snoc h.up _ hb).2, fun f hf => ?_, by rw [List.length_append, List.length_singleton]; have := h.many; omega⟩
  rcases List.mem_append.1 hf with hf | hf
  · exact h.file f hf
  · rw [List.mem_singleton.1 hf]
    exact ⟨hn, hd, rfl⟩
theorem Dk.Fine.scan : ∀ (n : Nat) (acc : List Dk.F) (l : List UInt8) (fs : List Dk.F), Dk.Fine acc → Dk.scan n acc l = some fs → Dk.Fine fs
  | 0, acc, l, fs, ha, h => by cases h
  | n + 1, acc, l, fs, ha, h => by
    by_cases hl : l = []
    · subst hl
      rw [Dk.scan_nil] at h
      injection h with h
      exact h ▸ ha
    · cases ho : Dk.one l with
      | none => rw [Dk.scan_none hl ho] at h; cases h
      | some y =>
        obtain ⟨nm, data, rest⟩ := y
        rw [Dk.scan_some hl ho] at h
        obtain ⟨h1, h2, _⟩ := Dk.one_good ho
        split at h
        · rename_i hc
          exact Dk.Fine.scan n _ _ fs (ha.snoc h1 h2 hc.1 hc.2) h
        · cases h
set_option maxRecDepth 100000 in
theorem Dk.Fine.used {l : List Dk.F} (h : Dk.Fine l) : Dk.used l ≤ 1099511627776 := by
  have : ∀ l : List Dk.F, (∀ f ∈ l, f.data.length ≤ 268435456) → Dk.used l ≤ l.length * 268435456 := by
    intro l
    induction l with
    | nil => exact fun _ => Nat.le_refl _
    | cons f r ih =>
      intro h
      have h1 := h f (List.mem_cons_self ..)
      have h2 := ih fun g hg => h g (List.mem_cons_of_mem _ hg)
      rw [Dk.used_cons, List.length_cons]
      omega
  have h1 := this l fun f hf => (h.file f hf).2.1
  have := h.many
  omega
/-- A disk that was opened is a good one, and nothing of it is unsynced. -/
theorem Dk.opened_good {l : List UInt8} {cap : Int} {m : Dk.M} (h : Dk.opened l cap = .ok m) : Dk.Good m ∧ Dk.Fine m.files := by
  unfold Dk.opened at h
  split at h
  · cases h
  · rename_i hc
    cases l with
    | nil => cases h
    | cons c r =>
      simp only at h
      split at h
      · cases hs : Dk.scan (r.length + 1) [] r with
        | none => rw [hs] at h; cases h
        | some fs =>
          rw [hs] at h
          unfold Dk.verdict at h
          simp only at h
          split at h
          · cases h
          · rename_i hu
            injection h with h
            subst h
            have hF := Dk.Fine.scan _ _ _ _ Dk.Fine.nil hs
            exact ⟨⟨hF.up, fun f hf => ⟨(hF.file f hf).1, (hF.file f hf).2.1, Nat.le_of_eq (hF.file f hf).2.2⟩, hF.many, by show cap.toNat ≤ _; omega, by show Dk.used fs ≤ cap.toNat; omega, by show 0 ≤ 9223372036854775807; decide⟩, hF⟩
      · cases h
end Go.Proofs.YtifkhjihgnnpfaaGreatDoor
/- Disks: Open, the program's. Conditions: each theorem's own hypotheses. -/
namespace Go.Proofs.YtifkhjihgnnpfaaGreatDoor
open Go.RowKit Go.Maps Go.Sort
set_option linter.unusedVariables false

theorem Dk.less_eq : ∀ a b : List UInt8, Op.bytesLess a b = bytesBefore a b
  | [], [] => rfl
  | [], _ :: _ => rfl
  | _ :: _, [] => rfl
  | a :: x, b :: y => by
    show (_ || (_ && Op.bytesLess x y)) = (_ || (_ && bytesBefore x y))
    rw [Dk.less_eq x y]
/-- How a test 'a <= b' of texts comes out: by its two parts. -/
theorem Dk.leq_cases (a b : ByteArray) :
    (bytesBefore b.data.toList a.data.toList = true ∧ Op.bytesLess a.toList b.toList = false ∧ (a.toList == b.toList) = false) ∨
    (bytesBefore b.data.toList a.data.toList = false ∧ Op.bytesLess a.toList b.toList = false ∧ (a.toList == b.toList) = true) ∨
    (bytesBefore b.data.toList a.data.toList = false ∧ Op.bytesLess a.toList b.toList = true ∧ (a.toList == b.toList) = false) := by
  rw [Dk.less_eq, ByteArray.toList_eq, ByteArray.toList_eq]
  by_cases h : a.data.toList = b.data.toList
  · rw [h, WideAt.bytes_irrefl]
    exact .inr (.inl ⟨rfl, rfl, by simp⟩)
  · have hne : (a.data.toList == b.data.toList) = false := by simpa using h
    rcases WideAt.bytes_total _ _ h with h1 | h1
    · refine .inr (.inr ⟨?_, h1, hne⟩)
      cases h2 : bytesBefore b.data.toList a.data.toList with
      | false => rfl
      | true =>
        have := WideShapes.bytes_trans _ _ _ h1 h2
        rw [WideAt.bytes_irrefl] at this
        cases this
    · refine .inl ⟨h1, ?_, hne⟩
      cases h2 : bytesBefore a.data.toList b.data.toList with
      | false => rfl
      | true =>
        have := WideShapes.bytes_trans _ _ _ h1 h2
        rw [WideAt.bytes_irrefl] at this
        cases this
theorem Dk.run_leq {P : Program} (a b : ByteArray) (t : TypeId) (q : Bool) (hq : bytesBefore b.data.toList a.data.toList = q) (W : World) : (binOp .leq t (.string a) (.string b)).run P W = .ok (.bool (!q)) W := by
  subst hq
  have h : binOp .leq t (.string a) (.string b) = pure (.bool (Op.bytesLess a.toList b.toList || a.toList == b.toList)) := by simp [binOp, Op.stringOp]
  rw [h]
  rcases Dk.leq_cases a b with ⟨h1, h2, h3⟩ | ⟨h1, h2, h3⟩ | ⟨h1, h2, h3⟩ <;> rw [h1, h2, h3] <;> rfl
/-- len of the map. -/
theorem Dk.Stand.run_len {W : World} {d b : Nat} {m : Dk.M} {L : List Dk.X} (h : Dk.Stand W d b m L) (ty : TypeId) :
    (Builtin.len_ #[42] ty #[.map (some b)]).run Tryz.prog W = .ok (.int .i64 (m.files.length : Int)) W := by
  rw [h.map.len Tryz.underlying42 ty, Dk.dat_size, ← h.fs, List.length_map]
/-- The map is where it was. -/
theorem Dk.map_keep {W W' : World} {b n : Nat} {D : DataW Unit} (h : W.ownsMap Tryz.prog 9 Dk.R b n D) (hk : W'.heap[b]? = W.heap[b]?) : W'.ownsMap Tryz.prog 9 Dk.R b n D := by
  obtain ⟨es, clock, hb, r⟩ := h
  exact ⟨es, clock, hk.trans hb, r⟩
/-- A text made into bytes. -/
theorem Dk.conv_bytes (w : World) (s : ByteArray) (hs : s.size ≤ maxLen) : ∃ g cap w', (convert 9 84 (.string s)).run Tryz.prog w = .ok (.slice (some ⟨g, 0, none⟩) s.size cap) w' ∧ Dk.Row w' (.slice (some ⟨g, 0, none⟩) s.size cap) s.data.toList ∧ Hid (g = w.heap.size) ∧ Below w.heap.size w w' ∧ Hid (w'.heap.size = w.heap.size + 1) := by
  refine ⟨_, _, _, Lib.run_convert_string_bytes w 9 84 5 s Tryz.underlying9 Tryz.underlying84 Tryz.underlying5, Dk.Row.made w s hs, rfl, ⟨rfl, rfl, rfl, ?_, fun k hk => Lib.bytesWorld_at_old w _ s k hk⟩, Lib.bytesWorld_size w _ s⟩
  rw [Lib.bytesWorld_size]; omega
/-- The loop of an opening. -/
structure Dk.OpSt (W wr : World) (d b c : Nat) (R : Option (List Dk.F)) (zb lb : ByteArray) (fu : Nat) (acc : List Dk.F) (L : List Dk.X) : Prop where
  text : Dk.scan fu acc zb.data.toList = R
  len : zb.size < fu
  small : zb.size ≤ 9223372036854775807
  last : lb.data.toList = Dk.lastN acc
  fine : Dk.Fine acc
  st : Dk.Stand wr d b { Dk.fresh c with files := acc } L
  foot : ∀ k, Dk.foot d b L k → W.heap.size ≤ k
  below : Below W.heap.size W wr
/-- A file's cells in memory. -/
def Dk.fcells (v : Value) (n : Nat) : Array Value := #[v, .int .i64 n]
theorem Dk.OpSt.step {W w3 w5 w6 : World} {d b c : Nat} {R : Option (List Dk.F)} {zb lb nb db rb : ByteArray} {fu : Nat} {acc : List Dk.F} {L : List Dk.X} (h : Dk.OpSt W w3 d b c R zb lb fu acc L) {nm data : List UInt8} {g5 cap5 : Nat}
    (hn : Dk.named nm = true) (hd : data.length ≤ 268435456) (hnb : nb.data.toList = nm) (hdb : db.data.toList = data) (hst : Dk.scan (fu - 1) (acc ++ [⟨nm, data, data.length⟩]) rb.data.toList = R) (hlen : rb.size < fu - 1) (hsm : rb.size ≤ 9223372036854775807)
    (hb : bytesBefore (Dk.lastN acc) nm = true) (hm : acc.length ≠ 4096)
    (hrow : Dk.Row w5 (.slice (some ⟨g5, 0, none⟩) db.size cap5) db.data.toList) (hg : g5 = w3.heap.size) (hB5 : Below w3.heap.size w3 w5) (hs5 : w5.heap.size = w3.heap.size + 1)
    (hown : w6.ownsMap Tryz.prog 9 Dk.R b (L.length + 1) ((Dk.dat L).put (.string nm) (.lit (.int .i64 w5.heap.size))))
    (hg6 : (w5.alloc (.cells (Dk.fcells (.slice (some ⟨g5, 0, none⟩) db.size cap5) db.size) 89)).grownBy w6 (some b)) :
    Dk.OpSt W (w6.setCell ⟨d, 2, none⟩ (.int .i64 (Dk.used (acc ++ [⟨nm, data, data.length⟩]) : Nat))) d b c R rb nb (fu - 1) (acc ++ [⟨nm, data, data.length⟩]) (Dk.ins Dk.X.nm ⟨⟨nm, data, data.length⟩, w5.heap.size, .slice (some ⟨g5, 0, none⟩) db.size cap5⟩ L) := by
  have hS := h.st
  have hd3 := hS.disk.lt
  have hb3 := hS.map.lt
  have hdb2 : d ≠ b := fun e => hS.lone b (.inl rfl) e.symm
  have hsz : (w5.alloc (.cells (Dk.fcells (.slice (some ⟨g5, 0, none⟩) db.size cap5) db.size) 89)).heap.size = w3.heap.size + 2 := by rw [World.size_alloc, hs5]
  have h6 := hg6.size
  rw [hsz] at h6
  have hds : db.size = data.length := by rw [Tx.size, hdb]
  have hold : ∀ k, k < w3.heap.size → k ≠ b → w6.heap[k]? = w3.heap[k]? := fun k hk hkb =>
    (hg6.block k (by rw [hsz]; omega) (fun e => hkb (Option.some.inj e))).trans ((Below.heap_alloc w5 _ k (by rw [hs5]; omega)).trans (hB5.block k hk))
  have hnew : ∀ k, k < w3.heap.size + 2 → k ≠ b → w6.heap[k]? = (w5.alloc (.cells (Dk.fcells (.slice (some ⟨g5, 0, none⟩) db.size cap5) db.size) 89)).heap[k]? := fun k hk hkb => hg6.block k (by rw [hsz]; exact hk) (fun e => hkb (Option.some.inj e))
  have hset : ∀ k, k ≠ d → (w6.setCell ⟨d, 2, none⟩ (.int .i64 (Dk.used (acc ++ [⟨nm, data, data.length⟩]) : Nat))).heap[k]? = w6.heap[k]? := fun k hk => Below.heap_setCell w6 ⟨d, 2, none⟩ _ k hk
  obtain ⟨hup1, hup2⟩ := Dk.up_snoc h.fine.up (⟨nm, data, data.length⟩ : Dk.F) hb
  have hno : ∀ y ∈ L, y.nm ≠ nm := by
    intro y hy e
    have hm : y.f ∈ acc := by
      have := hS.fs
      show y.f ∈ ({ Dk.fresh c with files := acc } : Dk.M).files
      rw [← this]
      exact List.mem_map_of_mem hy
    have := hup1 y.f hm
    rw [show y.f.name = nm from e, WideAt.bytes_irrefl] at this
    cases this
  refine ⟨hst, hlen, hsm, by rw [Dk.lastN_snoc]; exact hnb, h.fine.snoc hn hd hb hm, ?_, ?_, ?_⟩
  · refine hS.insert _ ?_ ?_ (Dk.get_none_iff.2 hno) ?_ ?_ ?_ ?_ ?_ ?_
    · have h1 : Blk w6 d 44 (Dk.cells b { Dk.fresh c with files := acc }) := (hold d hd3 hdb2).trans hS.disk
      exact h1.set_ 2 _
    · exact Dk.map_keep hown (hset b (fun e => hdb2 e.symm))
    · exact (Dk.ins_last hup1).symm
    · show Blk _ w5.heap.size _ _
      refine (hset w5.heap.size (by omega)).trans ((hnew w5.heap.size (by omega) (by omega)).trans ?_)
      rw [← hds]
      exact Blk.new w5 _ _
    · have hrow2 : Dk.Row w5 (.slice (some ⟨g5, 0, none⟩) db.size cap5) data := hdb ▸ hrow
      refine hrow2.keep fun k hk => ?_
      have hk2 : g5 = k := Option.some.inj hk
      exact (hset k (by omega)).trans ((hnew k (by omega) (by omega)).trans (Below.heap_alloc w5 _ k (by omega)))
    · show w3.heap.size ≤ w5.heap.size
      omega
    · intro k hk
      have hk2 : g5 = k := Option.some.inj hk
      omega
    · exact fun k h1 h2 h3 => (hset k h2).trans (hold k h1 h3)
  · have hfoot := h.foot
    have hsB := h.below.size
    rintro k (rfl | rfl | ⟨x, hx, hx2⟩)
    · exact hfoot _ (.inl rfl)
    · exact hfoot _ (.inr (.inl rfl))
    · rcases (Dk.mem_ins Dk.X.nm).1 hx with rfl | hx
      · rcases hx2 with e | e
        · have e2 : w5.heap.size = k := e
          rw [← e2, hs5]
          omega
        · have hk2 : g5 = k := Option.some.inj e
          omega
      · exact hfoot _ (.inr (.inr ⟨x, hx, hx2⟩))
  · have hsB := h.below.size
    have hbW := h.foot b (.inr (.inl rfl))
    have hdW := h.foot d (.inl rfl)
    refine h.below.trans ⟨?_, ?_, ?_, ?_, fun k hk => ?_⟩
    · exact hg6.os.trans hB5.os
    · exact hg6.tape.trans hB5.tape
    · exact hg6.output.trans hB5.output
    · show w3.heap.size ≤ (w6.setCell _ _).heap.size
      simp only [World.setCell, Array.size_modify]; omega
    · exact (hset k (by omega)).trans (hold k (by omega) (by omega))
def Dk.lenOf : Value → Nat | .string b => b.size | _ => 0
/-- How an opening ends. -/
def Dk.openV (d : Nat) : Except Int Dk.M → Value
  | .error e => .tuple #[.pointer none, .int .i64 e]
  | .ok _ => .tuple #[.pointer (some ⟨d, 0, none⟩), .int .i64 0]
end Go.Proofs.YtifkhjihgnnpfaaGreatDoor
