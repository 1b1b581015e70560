/- Scripts of steps on a disk: plain; done and play. Conditions: each theorem's own hypotheses. -/
import Derived.Test.YtgbeeghdoilmkaaDwB
import Derived.Test.YtgbeeghdoilmkaaDkDD
namespace Go.Proofs.Ytgbeeghdoilmkaa
open Go.RowKit Go.Maps Go.Sort
set_option linter.unusedVariables false

/-- A step. -/
structure Dw.S where
  what : Int
  name : List UInt8
  to_ : List UInt8
  data : List UInt8
  at_ : Int
  n : Int
  done : Bool
  cv : Value
  cuts : List Dk.Cut
structure Dw.Fit (W : World) (s : Dw.S) : Prop where
  name : s.name.length ≤ 140737488355328
  to_ : s.to_.length ≤ 140737488355328
  data : s.data.length ≤ 140737488355328
  at_ : -9223372036854775808 ≤ s.at_ ∧ s.at_ < 9223372036854775808
  n : -9223372036854775808 ≤ s.n ∧ s.n < 9223372036854775808
  cuts : Dk.Cts W s.cv s.cuts
  many : s.cuts.length ≤ 4398046511104
  names : ∀ c ∈ s.cuts, c.name.length ≤ 140737488355328
theorem Dw.Fit.keep {W W' : World} {s : Dw.S} (h : Dw.Fit W s) (hs : W.heap.size ≤ W'.heap.size) (hk : ∀ k, k < W.heap.size → W'.heap[k]? = W.heap[k]?) : Dw.Fit W' s :=
  ⟨h.name, h.to_, h.data, h.at_, h.n, h.cuts.keep hs hk, h.many, h.names⟩
def Dw.cells (s : Dw.S) : Array Value := #[.int .i64 s.what, Tx.v s.name, Tx.v s.to_, Tx.v s.data, .int .i64 s.at_, .int .i64 s.n, .bool s.done, s.cv]
/-- A step that writes. -/
def Dw.done (m : Dk.M) (s : Dw.S) : Dk.M × Int :=
  if s.what = 1 then Dk.create m s.name
  else if s.what = 2 then Dk.append m s.name s.data
  else if s.what = 3 then Dk.sync m s.name
  else if s.what = 4 then Dk.cut m s.name s.n
  else if s.what = 5 then Dk.rename m s.name s.to_
  else Dk.delete m s.name
def Dw.readE (m : Dk.M) (nm : List UInt8) (i n : Int) : Int :=
  if Dk.code m nm = 0 then
    if i < 0 ∨ n < 0 ∨ (Dk.data m nm).length < n ∨ (Dk.data m nm).length - n < i then 13 else 0
  else Dk.code m nm
def Dw.readT (m : Dk.M) (nm : List UInt8) (i n : Int) : List UInt8 :=
  if Dk.code m nm = 0 then
    if i < 0 ∨ n < 0 ∨ (Dk.data m nm).length < n ∨ (Dk.data m nm).length - n < i then [] else ((Dk.data m nm).drop i.toNat).take n.toNat
  else []
theorem Dw.read_eq (m : Dk.M) (nm : List UInt8) (i n : Int) : Dk.readV m nm i n = .tuple #[Tx.v (Dw.readT m nm i n), .int .i64 (Dw.readE m nm i n)] := by
  unfold Dk.readV Dw.readT Dw.readE
  split
  · split <;> rfl
  · rfl
/-- Any step. -/
def Dw.play (m : Dk.M) (s : Dw.S) : Dk.M × Int :=
  if s.what = 7 then (m, Dw.readE m s.name s.at_ s.n)
  else if s.what = 8 then (Dk.arm m s.n s.done, 0)
  else if s.what = 9 then (Dk.crash m s.cuts, 0)
  else if s.what = 1 ∨ s.what = 2 ∨ s.what = 3 ∨ s.what = 4 ∨ s.what = 5 ∨ s.what = 6 then Dw.done m s
  else (m, 0)
theorem Dk.create_good {m : Dk.M} (hG : Dk.Good m) (nm : List UInt8) : Dk.Good (Dk.create m nm).1 := by
  unfold Dk.create
  split
  · exact hG
  split
  · exact hG
  rename_i h1 h2
  obtain ⟨q1, q2, q3⟩ := Dk.code_none (Decidable.not_not.1 h2)
  split
  · exact hG
  · refine Dk.acc_good hG _ _ (Dk.up_ins Dk.F.name _ hG.up fun y hy => Dk.get_none q2 y hy) (fun f hf => ?_) (by rw [Dk.len_ins]; omega) (by rw [Dk.used_ins]; show 0 + _ ≤ _; have := hG.used; omega)
    rcases (Dk.mem_ins Dk.F.name).1 hf with rfl | hf
    · exact ⟨q1, Nat.zero_le _, Nat.le_refl _⟩
    · exact hG.file f hf
theorem Dw.done_good {m : Dk.M} (hG : Dk.Good m) (s : Dw.S) : Dk.Good (Dw.done m s).1 := by
  unfold Dw.done
  split
  · exact Dk.create_good hG _
  split
  · exact Dk.append_good hG _ _
  split
  · exact Dk.sync_good hG _
  split
  · exact Dk.cut_good hG _ _
  split
  · exact Dk.rename_good hG _ _
  · exact Dk.delete_good hG _
theorem Dw.play_good {m : Dk.M} (hG : Dk.Good m) (s : Dw.S) (hn : s.n < 9223372036854775808) : Dk.Good (Dw.play m s).1 := by
  unfold Dw.play
  split
  · exact hG
  split
  · exact Dk.arm_good hG _ hn _
  split
  · exact Dk.crash_good hG _
  split
  · exact Dw.done_good hG s
  · exact hG
set_option maxRecDepth 100000 in
set_option maxHeartbeats 2000000 in
theorem Dw.done_any {W : World} {d : Nat} {m : Dk.M} {F : Nat → Prop} (h : Dk.At W d m F) (hG : Dk.Good m) (s : Dw.S) (hs : Dw.Fit W s) :
    Calls Try.prog 20 #[.pointer (some ⟨d, 0, none⟩), .agg (Dw.cells s)] W fun e W' => e = .returned (.int .i64 (Dw.done m s).2) ∧ Dk.Moved W W' d F (Dw.done m s).1 := by
  obtain ⟨Z, hZ⟩ : ∃ Z, Dw.done m s = Z := ⟨_, rfl⟩
  rw [hZ]
  obtain ⟨k, nm, to_, da, at_, n, dn, cv, cs⟩ := s
  obtain ⟨f1, f2, f3, _, f5, _, _, _⟩ := hs
  simp only at f1 f2 f3 f5
  unfold Dw.cells
  unfold Dw.done at hZ
  simp only at hZ ⊢
  obtain ⟨nb, hnb, hnbs⟩ := Tx.of nm
  obtain ⟨tb, htb, htbs⟩ := Tx.of to_
  obtain ⟨db, hdb, hdbs⟩ := Tx.of da
  rw [Tx.v_eq hnb, Tx.v_eq htb, Tx.v_eq hdb]
  have hB : ∀ o, Below W.heap.size W (W.alloc o) := fun o => (Below.refl _ _).alloc (Nat.le_refl _) o
  have hX : ∀ o, Dk.At (W.alloc o) d m F := fun o => h.later (hB o) (Nat.le_refl _)
  have n1 : nb.size ≤ 9223372036854775807 := by omega
  have n2 : tb.size ≤ 9223372036854775807 := by omega
  have n3 : db.size ≤ 9223372036854775807 := by omega
  by_cases e1 : k = 1
  · subst e1
    rw [if_pos rfl] at hZ
    have a1 : ∀ o, _ := fun o => Dk.create_any (hX o) hG nb n1
    rw [hnb, hZ] at a1
    clear hZ hnb htb hdb hnbs htbs hdbs
    go_enter Try.func20, Try.ntmps20
    go_wp2_with (go_at_call 23; refine (a1 _).mono ?_; rintro e w' ⟨rfl, hm⟩)
    go_ret
    exact ⟨rfl, hm.from (hB _)⟩
  rw [if_neg e1] at hZ
  by_cases e2 : k = 2
  · subst e2
    rw [if_pos rfl] at hZ
    have a1 : ∀ o, _ := fun o => Dk.append_any (hX o) hG nb db n1 n3
    rw [hnb, hdb, hZ] at a1
    clear hZ hnb htb hdb hnbs htbs hdbs
    go_enter Try.func20, Try.ntmps20
    go_wp2_with (go_at_call 48; refine (a1 _).mono ?_; rintro e w' ⟨rfl, hm⟩)
    go_ret
    exact ⟨rfl, hm.from (hB _)⟩
  rw [if_neg e2] at hZ
  by_cases e3 : k = 3
  · subst e3
    rw [if_pos rfl] at hZ
    have a1 : ∀ o, _ := fun o => Dk.sync_any (hX o) hG nb n1
    rw [hnb, hZ] at a1
    clear hZ hnb htb hdb hnbs htbs hdbs
    go_enter Try.func20, Try.ntmps20
    go_wp2_with (go_at_call 49; refine (a1 _).mono ?_; rintro e w' ⟨rfl, hm⟩)
    go_ret
    exact ⟨rfl, hm.from (hB _)⟩
  rw [if_neg e3] at hZ
  by_cases e4 : k = 4
  · subst e4
    rw [if_pos rfl] at hZ
    have a1 : ∀ o, _ := fun o => Dk.cut_any (hX o) hG nb n1 n f5
    rw [hnb, hZ] at a1
    clear hZ hnb htb hdb hnbs htbs hdbs
    go_enter Try.func20, Try.ntmps20
    go_wp2_with (go_at_call 51; refine (a1 _).mono ?_; rintro e w' ⟨rfl, hm⟩)
    go_ret
    exact ⟨rfl, hm.from (hB _)⟩
  rw [if_neg e4] at hZ
  by_cases e5 : k = 5
  · subst e5
    rw [if_pos rfl] at hZ
    have a1 : ∀ o, _ := fun o => Dk.rename_any (hX o) hG nb tb n1 n2
    rw [hnb, htb, hZ] at a1
    clear hZ hnb htb hdb hnbs htbs hdbs
    go_enter Try.func20, Try.ntmps20
    go_wp2_with (go_at_call 52; refine (a1 _).mono ?_; rintro e w' ⟨rfl, hm⟩)
    go_ret
    exact ⟨rfl, hm.from (hB _)⟩
  rw [if_neg e5] at hZ
  have a1 : ∀ o, _ := fun o => Dk.delete_any (hX o) hG nb n1
  rw [hnb, hZ] at a1
  have t1 : decide (k = 1) = false := decide_eq_false e1
  have t2 : decide (k = 2) = false := decide_eq_false e2
  have t3 : decide (k = 3) = false := decide_eq_false e3
  have t4 : decide (k = 4) = false := decide_eq_false e4
  have t5 : decide (k = 5) = false := decide_eq_false e5
  clear hZ hnb htb hdb hnbs htbs hdbs
  go_enter Try.func20, Try.ntmps20
  go_wp2_with (go_at_call 24; refine (a1 _).mono ?_; rintro e w' ⟨rfl, hm⟩)
  go_ret
  exact ⟨rfl, hm.from (hB _)⟩
end Go.Proofs.Ytgbeeghdoilmkaa
/- Scripts of steps on a disk: play. Conditions: each theorem's own hypotheses. -/
namespace Go.Proofs.Ytgbeeghdoilmkaa
open Go.RowKit Go.Maps Go.Sort
set_option linter.unusedVariables false

theorem Dk.Moved.of {W W' : World} {d : Nat} {F : Nat → Prop} {m' : Dk.M} (hA : Dk.At W' d m' F) (ho : Dk.Only F W W') : Dk.Moved W W' d F m' := ⟨F, hA, ho, fun k hk => .inl hk⟩
set_option maxRecDepth 100000 in
set_option maxHeartbeats 4000000 in
theorem Dw.play_any {W : World} {d : Nat} {m : Dk.M} {F : Nat → Prop} (h : Dk.At W d m F) (hG : Dk.Good m) (s : Dw.S) (hs : Dw.Fit W s) :
    Calls Try.prog 28 #[.pointer (some ⟨d, 0, none⟩), .agg (Dw.cells s)] W fun e W' => e = .returned (.int .i64 (Dw.play m s).2) ∧ Dk.Moved W W' d F (Dw.play m s).1 := by
  obtain ⟨Z, hZ⟩ : ∃ Z, Dw.play m s = Z := ⟨_, rfl⟩
  rw [hZ]
  have hB : ∀ o, Below W.heap.size W (W.alloc o) := fun o => (Below.refl _ _).alloc (Nat.le_refl _) o
  have hX : ∀ o, Dk.At (W.alloc o) d m F := fun o => h.later (hB o) (Nat.le_refl _)
  have hF : ∀ o, Dw.Fit (W.alloc o) s := fun o => hs.keep (hB o).size fun k hk => Below.heap_alloc W o k hk
  have a0 : ∀ o, _ := fun o => Dw.done_any (hX o) hG s (hF o)
  obtain ⟨k, nm, to_, da, at_, n, dn, cv, cs⟩ := s
  obtain ⟨f1, f2, f3, f4, f5, f6, f7, f8⟩ := hs
  simp only at f1 f2 f3 f4 f5 f6 f7 f8
  have hC : ∀ o, Dk.Cts (W.alloc o) cv cs := fun o => (hF o).cuts
  unfold Dw.cells at a0 ⊢
  unfold Dw.play at hZ
  simp only at hZ a0 ⊢
  obtain ⟨nb, hnb, hnbs⟩ := Tx.of nm
  obtain ⟨tb, htb, htbs⟩ := Tx.of to_
  obtain ⟨db, hdb, hdbs⟩ := Tx.of da
  rw [Tx.v_eq hnb, Tx.v_eq htb, Tx.v_eq hdb] at a0 ⊢
  have n1 : nb.size ≤ 9223372036854775807 := by omega
  by_cases e7 : k = 7
  · subst e7
    rw [if_pos rfl] at hZ
    have a1 : ∀ o, _ := fun o => Dk.read_any (hX o) hG nb n1 at_ n f4 f5
    rw [hnb] at a1
    simp only [Dw.read_eq] at a1
    obtain ⟨z, hz⟩ : ∃ z, Dw.readE m nm at_ n = z := ⟨_, rfl⟩
    rw [hz] at a1 hZ
    obtain ⟨y, hy⟩ : ∃ y, Dw.readT m nm at_ n = y := ⟨_, rfl⟩
    rw [hy] at a1
    subst hZ
    clear a0 hF hC hnb htb hdb hnbs htbs hdbs hz hy
    go_enter Try.func28, Try.ntmps28
    go_wp2_with (go_at_call 14; refine (a1 _).mono ?_; rintro e w' ⟨rfl, rfl⟩)
    go_ret
    exact ⟨rfl, Dk.Moved.same h (hB _)⟩
  rw [if_neg e7] at hZ
  by_cases e8 : k = 8
  · subst e8
    rw [if_pos rfl] at hZ
    have a1 : ∀ o, _ := fun o => Dk.arm_any (hX o) n f5 dn
    obtain ⟨y, hy⟩ : ∃ y, Dk.arm m n dn = y := ⟨_, rfl⟩
    rw [hy] at a1 hZ
    subst hZ
    clear a0 hF hC hnb htb hdb hnbs htbs hdbs hy
    go_enter Try.func28, Try.ntmps28
    go_wp2_with (go_at_call 16; refine (a1 _).mono ?_; rintro e w' ⟨rfl, hm, ho⟩)
    go_ret
    exact ⟨rfl, (Dk.Moved.of hm ho).from (hB _)⟩
  rw [if_neg e8] at hZ
  by_cases e9 : k = 9
  · subst e9
    rw [if_pos rfl] at hZ
    have a1 : ∀ o, _ := fun o => Dk.crash_any (hX o) hG (hC o) (Nat.le_trans f7 (by decide)) fun c hc => Nat.le_trans (f8 c hc) (by decide)
    obtain ⟨y, hy⟩ : ∃ y, Dk.crash m cs = y := ⟨_, rfl⟩
    rw [hy] at a1 hZ
    subst hZ
    clear a0 hF hC hnb htb hdb hnbs htbs hdbs hy
    go_enter Try.func28, Try.ntmps28
    go_wp2_with (go_at_call 18; refine (a1 _).mono ?_; rintro e w' ⟨rfl, hm⟩)
    go_ret
    exact ⟨rfl, hm.from (hB _)⟩
  rw [if_neg e9] at hZ
  by_cases hk : k = 1 ∨ k = 2 ∨ k = 3 ∨ k = 4 ∨ k = 5 ∨ k = 6
  · rw [if_pos hk] at hZ
    rw [hZ] at a0
    clear hZ hF hC hnb htb hdb hnbs htbs hdbs e7 e8 e9
    rcases hk with rfl | rfl | rfl | rfl | rfl | rfl <;>
    · go_enter Try.func28, Try.ntmps28
      go_wp2_with (go_at_call 20; refine (a0 _).mono ?_; rintro e w' ⟨rfl, hm⟩)
      go_ret
      exact ⟨rfl, hm.from (hB _)⟩
  · rw [if_neg hk] at hZ
    subst hZ
    have t1 : (k == 1) = false := beq_eq_false_iff_ne.2 fun e => hk (.inl e)
    have t2 : (k == 2) = false := beq_eq_false_iff_ne.2 fun e => hk (.inr (.inl e))
    have t3 : (k == 3) = false := beq_eq_false_iff_ne.2 fun e => hk (.inr (.inr (.inl e)))
    have t4 : (k == 4) = false := beq_eq_false_iff_ne.2 fun e => hk (.inr (.inr (.inr (.inl e))))
    have t5 : (k == 5) = false := beq_eq_false_iff_ne.2 fun e => hk (.inr (.inr (.inr (.inr (.inl e)))))
    have t6 : (k == 6) = false := beq_eq_false_iff_ne.2 fun e => hk (.inr (.inr (.inr (.inr (.inr e)))))
    have t7 : (k == 7) = false := beq_eq_false_iff_ne.2 e7
    have t8 : (k == 8) = false := beq_eq_false_iff_ne.2 e8
    have t9 : (k == 9) = false := beq_eq_false_iff_ne.2 e9
    clear a0 hF hC hnb htb hdb hnbs htbs hdbs hk e7 e8 e9
    go_enter Try.func28, Try.ntmps28
    go_wp2_with fail
    go_ret
    exact ⟨rfl, Dk.Moved.same h (hB _)⟩
end Go.Proofs.Ytgbeeghdoilmkaa
