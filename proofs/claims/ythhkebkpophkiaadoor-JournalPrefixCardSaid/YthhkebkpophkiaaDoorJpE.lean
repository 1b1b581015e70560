/- A journal that lives: the plain law of its file; its Append and Sync as the power stays or goes; a row copied. Conditions: each theorem's own hypotheses. -/
import Derived.Laws.AppendOwnNone
import Derived.Maps.AppendAt
import Derived.Test.YthhkebkpophkiaaDoorJpA
import Derived.Test.YthhkebkpophkiaaDoorJpP
import Derived.Deep.AppendLies
import Derived.Deep.DeepCutAuto
import Derived.Deep.CutBlock
namespace Go.Proofs.YthhkebkpophkiaaDoor
open Go.RowKit
set_option linter.unusedVariables false

def Jl.j9 : ByteArray := ⟨#[106, 57]⟩
theorem Jl.j9_named : Dk.named [106, 57] = true := by decide
/-- The file of a journal: these updates, the first s of them durable. -/
structure Jl.Live (n : Nat) (m : Dk.M) (us : List Jn.Upd) (s : Nat) : Prop where
  rows : Jl.Rows n 64 us
  sure : s ≤ us.length
  files : m.files = [⟨[106, 57], Jl.bytes us, (Jl.bytes (us.take s)).length⟩]
  cap : m.cap = 16777216
/-- .. and it goes on. -/
structure Jl.Ok (n : Nat) (m : Dk.M) (J : Jl.Js) (us : List Jn.Upd) (s : Nat) : Prop where
  live : Jl.Live n m us s
  off : m.off = false
  js : J = ⟨m.age, false, Jl.j9, 64, (n : Int) + us.length, J.synced⟩
/-- A write has been. -/
def Jl.put (m : Dk.M) (k : Nat) (off : Bool) (fs : List Dk.F) : Dk.M := { m with writes := IntKind.i64.wrap (m.writes + 1), left := k, off := off, files := fs }
theorem Jl.acc_on {m : Dk.M} (ho : m.off = false) (h1 : m.left ≠ 1) (b : Bool) (fs : List Dk.F) : Dk.acc m b fs = (Jl.put m (m.left - 1) false fs, 0) := by
  unfold Dk.acc Jl.put
  by_cases h0 : m.left = 0
  · rw [if_pos h0, ← ho, h0]
  · rw [if_neg h0, if_pos (by omega), ← ho]
theorem Jl.acc_off {m : Dk.M} (h1 : m.left = 1) (b : Bool) (fs : List Dk.F) : Dk.acc m b fs = (Jl.put m 0 true (if b = true then fs else m.files), 45) := by
  unfold Dk.acc Jl.put
  rw [if_neg (by omega), if_neg (by omega)]
section
variable {n s : Nat} {m : Dk.M} {J : Jl.Js} {us : List Jn.Upd}
theorem Jl.Live.one (h : Jl.Live n m us s) (ho : m.off = false) : Jl.One m [106, 57] (Jl.bytes us) (Jl.bytes (us.take s)).length := ⟨h.files, ho, Jl.j9_named⟩
theorem Jl.Live.len (h : Jl.Live n m us s) : (Jl.bytes us).length ≤ us.length * 162 := (Jl.bytes_len (by decide) us h.rows.mem).2
theorem Jl.write_of {u : Jn.Upd} (h : Jl.Fit 64 u) : Jn.write u.seq u.kind u.id u.code = (Jl.fb u, 0) := by
  have hs := h.seq
  have hi := h.id
  have hk : u.kind = 1 ∨ u.kind = 2 := by rcases h.code with ⟨a, _⟩ | ⟨a, _⟩ <;> omega
  unfold Jn.write
  rw [if_neg (by omega), if_neg (not_not_intro (by omega)), if_neg (by omega), if_neg]
  · rfl
  · unfold Jn.codeBad
    rcases h.code with ⟨a, b⟩ | ⟨a, b⟩
    · rw [a, b]
      omega
    · rw [a, b]
      simp
theorem Jl.Ok.appD (h : Jl.Ok n m J us s) {u : Jn.Upd} (hu : Jl.Fit 64 u) (hq : u.seq = n + 1 + us.length) {m' : Dk.M} {c : Int} (hm : Dk.acc m true [⟨[106, 57], Jl.bytes (us ++ [u]), (Jl.bytes (us.take s)).length⟩] = (m', c)) (hl : us.length ≤ 1000) :
    Jl.app m J 64 u.seq u.kind u.id u.code = (m', { J with last := if c = 0 then (u.seq : Int) else J.last, gone := c == 45 }, c) := by
  have hj := h.js
  have hfl := Jl.fb_len hu (by decide)
  have hcl := hu.code_len (by decide)
  have hlen := h.live.len
  have hap : Dk.append m J.nb.data.toList (Jl.fb u) = (m', c) := by
    rw [hj]
    show Dk.append m [106, 57] (Jl.fb u) = _
    rw [(h.live.one h.off).append (Jl.fb u) (by omega) (by rw [h.live.cap]; omega), ← Jl.bytes_snoc]
    exact hm
  have hD : Jl.appD m J 64 u.seq u.kind u.id u.code = (m', { J with last := if c = 0 then (u.seq : Int) else J.last }, c) := by
    unfold Jl.appD
    rw [Jl.write_of hu]
    simp only [hap]
    rw [if_neg (not_not_intro rfl), if_neg, if_neg]
    · by_cases hc : c = 0
      · rw [if_pos hc, if_pos hc, hc]
      · rw [if_neg hc, if_neg hc]
    · have : J.last = (n : Int) + us.length := by rw [hj]
      rw [this]
      omega
    · rintro ⟨a, b⟩
      apply b
      unfold Jl.checkE
      rcases hu.code with ⟨x, y⟩ | ⟨x, y⟩
      · rw [if_pos y]
      · omega
  unfold Jl.app
  rw [if_neg, hD]
  · rintro (a | a | a)
    · rw [hj] at a; cases a
    · rw [h.off] at a; cases a
    · apply a; rw [hj]
theorem Jl.take_snoc {us : List Jn.Upd} {s : Nat} (hs : s ≤ us.length) (u : Jn.Upd) : (us ++ [u]).take s = us.take s := by rw [List.take_append_of_le_length hs]
theorem Jl.Ok.app_on (h : Jl.Ok n m J us s) {u : Jn.Upd} (hu : Jl.Fit 64 u) (hq : u.seq = n + 1 + us.length) (hl : us.length ≤ 1000) (h1 : m.left ≠ 1) :
    ∃ m', Jl.app m J 64 u.seq u.kind u.id u.code = (m', { J with last := (u.seq : Int) }, 0) ∧ m'.left = m.left - 1 ∧ Jl.Ok n m' { J with last := (u.seq : Int) } (us ++ [u]) s := by
  have hj := h.js
  have hgone : J.gone = false := by rw [hj]
  refine ⟨Jl.put m (m.left - 1) false [⟨[106, 57], Jl.bytes (us ++ [u]), (Jl.bytes (us.take s)).length⟩], ?_, rfl, ⟨h.live.rows.snoc hu hq, by rw [List.length_append]; have := h.live.sure; omega, ?_, h.live.cap⟩, rfl, ?_⟩
  · rw [h.appD hu hq (Jl.acc_on h.off h1 true _) hl, if_pos rfl, show ((0 : Int) == 45) = J.gone from by rw [hgone]; rfl]
  · show [_] = [_]
    rw [Jl.take_snoc h.live.sure]
  · show ({ J with last := (u.seq : Int) } : Jl.Js) = ⟨m.age, _, _, _, _, _⟩
    rw [hj, hq, List.length_append, List.length_singleton]
    simp only [Jl.Js.mk.injEq, true_and, and_true]
    omega
theorem Jl.Ok.app_off (h : Jl.Ok n m J us s) {u : Jn.Upd} (hu : Jl.Fit 64 u) (hq : u.seq = n + 1 + us.length) (hl : us.length ≤ 1000) (h1 : m.left = 1) :
    ∃ m', Jl.app m J 64 u.seq u.kind u.id u.code = (m', { J with gone := true }, 45) ∧ m'.off = true ∧ m'.age = m.age ∧ Jl.Live n m' (us ++ [u]) s := by
  refine ⟨Jl.put m 0 true [⟨[106, 57], Jl.bytes (us ++ [u]), (Jl.bytes (us.take s)).length⟩], ?_, rfl, rfl, h.live.rows.snoc hu hq, by rw [List.length_append]; have := h.live.sure; omega, ?_, h.live.cap⟩
  · rw [h.appD hu hq (Jl.acc_off h1 true _) hl, if_pos rfl, if_neg (by decide)]
    rfl
  · show [_] = [_]
    rw [Jl.take_snoc h.live.sure]
theorem Jl.Ok.syncD (h : Jl.Ok n m J us s) {m' : Dk.M} {c : Int} (hm : Dk.acc m false [⟨[106, 57], Jl.bytes us, (Jl.bytes us).length⟩] = (m', c)) :
    Jl.sync m J = (m', { J with synced := if c = 0 then J.last else J.synced, gone := c == 45 }, c) := by
  have hj := h.js
  have hap : Dk.sync m J.nb.data.toList = (m', c) := by
    rw [hj]
    show Dk.sync m [106, 57] = _
    rw [(h.live.one h.off).sync]
    exact hm
  have hD : Jl.syncD m J = (m', { J with synced := if c = 0 then J.last else J.synced }, c) := by
    unfold Jl.syncD
    simp only [hap]
    by_cases hc : c = 0
    · rw [if_pos hc, if_pos hc, hc]
    · rw [if_neg hc, if_neg hc]
  unfold Jl.sync
  rw [if_neg, hD]
  · rintro (a | a | a)
    · rw [hj] at a; cases a
    · rw [h.off] at a; cases a
    · apply a; rw [hj]
theorem Jl.Ok.sync_on (h : Jl.Ok n m J us s) (h1 : m.left ≠ 1) :
    ∃ m', Jl.sync m J = (m', { J with synced := J.last }, 0) ∧ m'.left = m.left - 1 ∧ Jl.Ok n m' { J with synced := J.last } us us.length := by
  have hj := h.js
  have hgone : J.gone = false := by rw [hj]
  refine ⟨Jl.put m (m.left - 1) false [⟨[106, 57], Jl.bytes us, (Jl.bytes us).length⟩], ?_, rfl, ⟨h.live.rows, Nat.le_refl _, ?_, h.live.cap⟩, rfl, ?_⟩
  · rw [h.syncD (Jl.acc_on h.off h1 false _), if_pos rfl, show ((0 : Int) == 45) = J.gone from by rw [hgone]; rfl]
  · show [_] = [_]
    rw [List.take_length]
  · show ({ J with synced := J.last } : Jl.Js) = ⟨m.age, _, _, _, _, _⟩
    rw [hj]
theorem Jl.Ok.sync_off (h : Jl.Ok n m J us s) (h1 : m.left = 1) :
    ∃ m', Jl.sync m J = (m', { J with gone := true }, 45) ∧ m'.off = true ∧ m'.age = m.age ∧ Jl.Live n m' us s := by
  refine ⟨Jl.put m 0 true m.files, ?_, rfl, rfl, h.live.rows, h.live.sure, ?_, h.live.cap⟩
  · rw [h.syncD (Jl.acc_off h1 false _), if_neg (by decide)]
    rfl
  · exact h.live.files
end
theorem Jl.cells_one (us : List Jn.Upd) : ∀ u ∈ Jl.cells us, u.oneCell' = true := by
  intro u hu
  unfold Jl.cells at hu
  obtain ⟨x, _, hx⟩ := List.mem_flatMap.1 hu
  unfold Jl.four at hx
  simp only [List.mem_cons, List.not_mem_nil, or_false] at hx
  obtain ⟨C, hC, _⟩ := str_of x.code
  rw [hC] at hx
  rcases hx with rfl | rfl | rfl | rfl <;> rfl
/-- A row copied: 'append([]T(nil), row...)'. -/
theorem Jl.run_copy (w : World) (v : Value) (us : List Jn.Upd) (B : Nat) (h : Jl.Own w B v us) (hn : us.length ≤ 1000000) :
    ∃ v' w', (Builtin.append_ #[32, 32] 32 #[.slice none 0 0, v]).run Tryd.prog w = .ok v' w' ∧ Jl.Own w' w.heap.size v' us ∧ w.grownBy w' none := by
  obtain ⟨i0, hi, hz0, hz1, hz2⟩ := info_parts infoUpd
  have hnil := World.ownsRow_nil w w.heap.size 39 4
  rcases h.2 with ⟨rfl, h0⟩ | ⟨g, cap, cur, rfl, _⟩
  · have he : us = [] := List.eq_nil_of_length_eq_zero (by simpa using h0)
    subst he
    exact ⟨_, w, run_append_owned_none (P := Tryd.prog) (w := w) w.heap.size 32 32 39 i0 4 Tryd.underlying32 hi _ 0 [] hnil, hnil, ⟨rfl, rfl, rfl, Nat.le_refl _, fun _ _ _ => rfl⟩⟩
  · obtain ⟨v', w', h1, h2, h3, h4, h5⟩ := run_append_own_at (P := Tryd.prog) w w.heap.size 32 32 39 i0 (.agg #[.int .i64 0, .int .i64 0, .int .i64 0, .string ⟨#[]⟩]) 4 40 Tryd.underlying32 hi hz0 hz1 hz2 rfl (by decide) (.slice none 0 0) 0 [] hnil ⟨g, 0, none⟩ us.length cap (Jl.cells us) h.1 (World.ownsRow.cells h (g := g) rfl) (Jl.cells_one us) (by unfold maxLen; omega) (by omega) (Nat.le_refl _)
    rw [Nat.zero_add, List.nil_append] at h2
    exact ⟨v', w', h1, h2, h3⟩
theorem Jl.wpList_copy {w : World} {ops : Array Oper} {rest : List Oper} {o : Oper} {a : Act} {Q : Exit → Act → World → Prop} (hgd : o.guard = none) (x : Operand)
    (ho : o.op = .call { callee := .builtin .append, args := #[.const (.slice none 0 0), x], argTypes := #[32, 32] }) (hty : o.type = 32)
    (v : Value) (us : List Jn.Upd) (B : Nat) (hx : a.eval x = v) (hw : Jl.Own w B v us) (hn : us.length ≤ 1000000)
    (h : ∀ v' w', Jl.Own w' w.heap.size v' us → w.grownBy w' none → wpList Tryd.prog ops Q rest (a.put o.dst v') w') : wpList Tryd.prog ops Q (o :: rest) a w := by
  refine wpList_plain hgd fun K hK => ?_
  obtain ⟨v', w', hr, h2, h3⟩ := Jl.run_copy w v us B hw hn
  rw [← hty] at hr
  have hc : a.eval (.const (.slice none 0 0)) = .slice none 0 0 := rfl
  unfold Oper.wp execOp
  rw [hty] at hr
  simp only [ho, hty, resolve, invoke, builtin, Sem.run_bind, Sem.run_pure, Result.andThen_ok, List.map_toArray, List.map_cons, List.map_nil, hc, hx, hr]
  exact hK _ _ (h v' w' h2 h3)
#print axioms Jl.wpList_copy
#print axioms Jl.Ok.app_on
#print axioms Jl.Ok.sync_off
end Go.Proofs.YthhkebkpophkiaaDoor
/- One life of a journal: the law's helper lives. Conditions: each theorem's own hypotheses. -/
namespace Go.Proofs.YthhkebkpophkiaaDoor
open Go.RowKit
set_option linter.unusedVariables false

theorem Jl.j9_size : Jl.j9.size ≤ 9223372036854775807 := by decide
section
variable {B d j : Nat} {W0 w w' : World} {m : Dk.M} {J : Jl.Js} {K K' : Nat → Prop} {n s : Nat} {us : List Jn.Upd}
theorem Jl.St.sub (h : Jl.St B W0 w d m j J K) (hs : ∀ k, K' k → K k) (hj : K' j) : Jl.St B W0 w d m j J K' := ⟨h.sit.sub hs, h.blk, hj⟩
theorem Jl.St.add (h : Jl.St B W0 w d m j J K) (hB : Below w.heap.size w w') : Jl.St B W0 w' d m j J (fun k => K k ∨ (w.heap.size ≤ k ∧ k < w'.heap.size)) :=
  ⟨h.sit.grow hB, (hB.block _ h.blk.lt).trans h.blk, .inl h.own⟩
theorem Jl.below_of {w w' : World} (h : w.grownBy w' none) : Below w.heap.size w w' := ⟨h.os, h.tape, h.output, h.size, fun k hk => h.block k hk (by simp)⟩
/-- A row has grown by one. -/
theorem Jl.St.grown {v : Value} {o : Obj} {g : Nat} (h : Jl.St B W0 w d m j J K) (hv : ∀ k, v.ownBlock = some k → K k ∧ k ≠ j) (hg : (w.alloc o).grownBy w' v.ownBlock) (ho : v.ownBlock = some g ∨ g = w.heap.size + 1) (hlt : g < w'.heap.size) :
    Jl.St B W0 w' d m j J (fun k => K k ∨ k = g) ∧ w.heap.size ≤ w'.heap.size ∧ ∀ k, k < w.heap.size → v.ownBlock ≠ some k → w'.heap[k]? = w.heap[k]? := by
  have hs := hg.size
  rw [World.size_alloc] at hs
  have key : ∀ k, k < w.heap.size → v.ownBlock ≠ some k → w'.heap[k]? = w.heap[k]? := fun k hk hn =>
    (hg.block k (by rw [World.size_alloc]; omega) (fun e => hn e.symm)).trans ((((Below.refl _ _).alloc (Nat.le_refl _) o).block k hk))
  exact ⟨⟨h.sit.grown (fun k hk => (hv k hk).1) hg ho hlt, (key j h.blk.lt fun e => (hv j e).2 rfl).trans h.blk, .inl h.own⟩, by omega, key⟩
theorem Jl.Ok.arm (h : Jl.Ok n m J us s) (c : Int) : Jl.Ok n (Dk.arm m c false) J us s ∧ (Dk.arm m c false).left = c.toNat := by
  unfold Dk.arm
  rw [h.off, if_neg (by decide)]
  exact ⟨⟨⟨h.live.rows, h.live.sure, h.live.files, h.live.cap⟩, rfl, h.js⟩, rfl⟩
theorem Jl.arm_sit (h : Jl.Sit B W0 w d m K) (c : Int) (hc : -9223372036854775808 ≤ c ∧ c < 9223372036854775808) : Calls Tryd.prog 59 #[.pointer (some ⟨d, 0, none⟩), .int .i64 c, .bool false] w fun e w' => e = .returned (.tuple #[]) ∧ Jl.Sit B W0 w' d (Dk.arm m c false) K ∧ Jl.Kept K w w' :=
  h.call (Dk.arm_good h.good c hc.2 false) fun F hA hG => (Dk.arm_any hA c hc false).mono fun e W' ⟨a, b, c⟩ => ⟨a, F, b, c, fun k hk => .inl hk⟩
theorem Jl.St.arm (h : Jl.St B W0 w d m j J K) (c : Int) (hc : -9223372036854775808 ≤ c ∧ c < 9223372036854775808) : Calls Tryd.prog 59 #[.pointer (some ⟨d, 0, none⟩), .int .i64 c, .bool false] w fun e w' => e = .returned (.tuple #[]) ∧ Jl.St B W0 w' d (Dk.arm m c false) j J K ∧ Jl.Kept K w w' :=
  (Jl.arm_sit h.sit c hc).mono fun e W' ⟨a, b, c⟩ => ⟨a, ⟨b, (c.2 j h.own).trans h.blk, h.own⟩, c⟩
theorem Jl.live_append (L : Jl.Ok n m J us s) (hn : n ≤ 1152921504606846976) {u : Jn.Upd} (hu : Jl.Fit 64 u) (hq : u.seq = n + 1 + us.length) (hl : us.length ≤ 1000) (h1 : m.left ≠ 1) (C : ByteArray) (hC : str u.code = .string C) :
    ∃ m', m'.left = m.left - 1 ∧ Jl.Ok n m' { J with last := (u.seq : Int) } (us ++ [u]) s ∧ ∀ {B : Nat} {W0 w : World} {d j : Nat} {K : Nat → Prop}, (∀ {w : World}, Below B W0 w → TabS w) → Jl.St B W0 w d m j J K →
      Calls Tryd.prog 29 #[.pointer (some ⟨j, 0, none⟩), .agg #[.int .i64 u.seq, .int .i64 u.kind, .int .i64 u.id, .string C]] w fun e w' => e = .returned (.int .i64 0) ∧ Jl.St B W0 w' d m' j { J with last := (u.seq : Int) } K ∧ Jl.KeptB K j w w' := by
  obtain ⟨m', e1, e2, e3⟩ := L.app_on hu hq hl h1
  refine ⟨m', e2, e3, fun hT S => ?_⟩
  have hj := L.js
  have hCd : C.data.toList = u.code := by
    obtain ⟨c2, f1, f2, _⟩ := str_of u.code
    rw [f1] at hC
    rw [← Value.string.inj hC]; exact f2
  have hcl := hu.code_len (by decide)
  have hfl := Jl.fb_len hu (by decide)
  have := Jl.append_any (l := 64) (q := u.seq) (k := u.kind) (i := u.id) (c := C) S hT (by rw [hj]; rfl) (by decide) (by rw [hj]; show (0 : Int) ≤ (n : Int) + us.length ∧ (n : Int) + us.length ≤ _; omega) (by rw [hj]; exact Jl.j9_size) (by rw [Tx.size, hCd]; omega) (by rw [hCd, Jl.write_of hu]; show (Jl.fb u).length ≤ _; omega)
  rw [hCd, e1] at this
  exact this
theorem Jl.dead_append (L : Jl.Ok n m J us s) (hn : n ≤ 1152921504606846976) {u : Jn.Upd} (hu : Jl.Fit 64 u) (hq : u.seq = n + 1 + us.length) (hl : us.length ≤ 1000) (h1 : m.left = 1) (C : ByteArray) (hC : str u.code = .string C) :
    ∃ m', m'.off = true ∧ m'.age = m.age ∧ Jl.Live n m' (us ++ [u]) s ∧ ∀ {B : Nat} {W0 w : World} {d j : Nat} {K : Nat → Prop}, (∀ {w : World}, Below B W0 w → TabS w) → Jl.St B W0 w d m j J K →
      Calls Tryd.prog 29 #[.pointer (some ⟨j, 0, none⟩), .agg #[.int .i64 u.seq, .int .i64 u.kind, .int .i64 u.id, .string C]] w fun e w' => e = .returned (.int .i64 45) ∧ Jl.St B W0 w' d m' j { J with gone := true } K ∧ Jl.KeptB K j w w' := by
  obtain ⟨m', e1, e2, e3, e4⟩ := L.app_off hu hq hl h1
  refine ⟨m', e2, e3, e4, fun hT S => ?_⟩
  have hj := L.js
  have hCd : C.data.toList = u.code := by
    obtain ⟨c2, f1, f2, _⟩ := str_of u.code
    rw [f1] at hC
    rw [← Value.string.inj hC]; exact f2
  have hcl := hu.code_len (by decide)
  have hfl := Jl.fb_len hu (by decide)
  have := Jl.append_any (l := 64) (q := u.seq) (k := u.kind) (i := u.id) (c := C) S hT (by rw [hj]; rfl) (by decide) (by rw [hj]; show (0 : Int) ≤ (n : Int) + us.length ∧ (n : Int) + us.length ≤ _; omega) (by rw [hj]; exact Jl.j9_size) (by rw [Tx.size, hCd]; omega) (by rw [hCd, Jl.write_of hu]; show (Jl.fb u).length ≤ _; omega)
  rw [hCd, e1] at this
  exact this
theorem Jl.live_sync (L : Jl.Ok n m J us s) (h1 : m.left ≠ 1) :
    ∃ m', m'.left = m.left - 1 ∧ Jl.Ok n m' { J with synced := J.last } us us.length ∧ ∀ {B : Nat} {W0 w : World} {d j : Nat} {K : Nat → Prop}, Jl.St B W0 w d m j J K →
      Calls Tryd.prog 33 #[.pointer (some ⟨j, 0, none⟩)] w fun e w' => e = .returned (.int .i64 0) ∧ Jl.St B W0 w' d m' j { J with synced := J.last } K ∧ Jl.KeptB K j w w' := by
  obtain ⟨m', e1, e2, e3⟩ := L.sync_on h1
  refine ⟨m', e2, e3, fun S => ?_⟩
  have hj := L.js
  have := Jl.sync_any S (by rw [hj]; exact Jl.j9_size)
  rw [e1] at this
  exact this
theorem Jl.dead_sync (L : Jl.Ok n m J us s) (h1 : m.left = 1) :
    ∃ m', m'.off = true ∧ m'.age = m.age ∧ Jl.Live n m' us s ∧ ∀ {B : Nat} {W0 w : World} {d j : Nat} {K : Nat → Prop}, Jl.St B W0 w d m j J K →
      Calls Tryd.prog 33 #[.pointer (some ⟨j, 0, none⟩)] w fun e w' => e = .returned (.int .i64 45) ∧ Jl.St B W0 w' d m' j { J with gone := true } K ∧ Jl.KeptB K j w w' := by
  obtain ⟨m', e1, e2, e3, e4⟩ := L.sync_off h1
  refine ⟨m', e2, e3, e4, fun S => ?_⟩
  have hj := L.js
  have := Jl.sync_any S (by rw [hj]; exact Jl.j9_size)
  rw [e1] at this
  exact this
end
theorem Jl.four_p (u : Jn.Upd) (C : ByteArray) (hC : str u.code = .string C) : Jl.four u = [.int .i64 u.seq, .int .i64 u.kind, .int .i64 u.id, .string C] := by unfold Jl.four; rw [hC]
/-- Where updates lie that came in. -/
def Jl.Lst (W : World) (A : Option Addr) (l : List Jl.In) : Prop :=
  0 < l.length → ∃ b off, A = some ⟨b, off, none⟩ ∧ ∀ j r, l[j]? = some r →
    W.cell? ⟨b, off + j * 4, none⟩ = some (.int .i64 r.q) ∧ W.cell? ⟨b, off + j * 4 + 1, none⟩ = some (.int .i64 r.k) ∧ W.cell? ⟨b, off + j * 4 + 2, none⟩ = some (.int .i64 r.i) ∧ W.cell? ⟨b, off + j * 4 + 3, none⟩ = some (.string r.c)
theorem Jl.Lst.at_ {W : World} {A : Option Addr} {l : List Jl.In} (H : Jl.Lst W A l) {k : Nat} (hk : k < l.length) : ∃ b off r, A = some ⟨b, off, none⟩ ∧ l[k]? = some r ∧
    W.cell? ⟨b, off + k * 4, none⟩ = some (.int .i64 r.q) ∧ W.cell? ⟨b, off + k * 4 + 1, none⟩ = some (.int .i64 r.k) ∧ W.cell? ⟨b, off + k * 4 + 2, none⟩ = some (.int .i64 r.i) ∧ W.cell? ⟨b, off + k * 4 + 3, none⟩ = some (.string r.c) := by
  obtain ⟨b, off, hA, hc⟩ := H (by omega)
  obtain ⟨h0, h1, h2, h3⟩ := hc k l[k] (List.getElem?_eq_getElem hk)
  exact ⟨b, off, l[k], hA, List.getElem?_eq_getElem hk, h0, h1, h2, h3⟩
/-- Ahead of a round. -/
structure Jl.LR (B : Nat) (W0 w1 : World) (d j : Nat) (K : Nat → Prop) (bx n us0 : Nat) (ct sy : Int) (k : Nat) (va vs : Value) (us : List Jn.Upd) (s : Nat) (m : Dk.M) (J : Jl.Js) (wr : World) : Prop where
  st : Jl.St B W0 wr d m j J (fun q => (K q ∨ q = bx) ∨ va.ownBlock = some q ∨ vs.ownBlock = some q)
  kept : Jl.KeptB (fun q => K q ∨ q = bx) j w1 wr
  all : Jl.Own wr w1.heap.size va us
  sure : Jl.Own wr w1.heap.size vs (us.take s)
  two : ∀ q, va.ownBlock = some q → vs.ownBlock ≠ some q
  ok : Jl.Ok n m J us s
  len : us.length = us0 + k
  lo : us0 ≤ s
  left : m.left ≠ 0 → 0 < ct
  one : 1 ≤ k → sy = 1 → us0 + 1 ≤ s
/-- Behind a life. -/
structure Jl.LE (B : Nat) (W0 w : World) (d j : Nat) (K : Nat → Prop) (n us0 l : Nat) (ct sy : Int) (va vs : Value) (us : List Jn.Upd) (s : Nat) (m : Dk.M) (J : Jl.Js) (wr : World) : Prop where
  st : Jl.St B W0 wr d m j J (fun q => K q ∨ va.ownBlock = some q ∨ vs.ownBlock = some q)
  kept : Jl.KeptB K j w wr
  all : Jl.Own wr w.heap.size va us
  sure : Jl.Own wr w.heap.size vs (us.take s)
  live : Jl.Live n m us s
  age : J.age = m.age
  len : us.length ≤ us0 + 60
  lo : us0 ≤ s
  one : 1 ≤ l → sy = 1 → ct ≤ 0 → us0 + 1 ≤ s
end Go.Proofs.YthhkebkpophkiaaDoor
