/- The document's tree in memory, and what it tells of itself. Conditions: each theorem's own hypotheses. -/
import Derived.Test.YtikhahkmebkccaaGreatDoorBrA
import Derived.Test.YtikhahkmebkccaaGreatDoorBkN
namespace Go.Proofs.YtikhahkmebkccaaGreatDoor
open Go.RowKit Go.Maps Go.Sort Go.Shelf
set_option linter.unusedVariables false
set_option linter.unusedSimpArgs false

/-- A node's cells. -/
def Br.nc (n : Bk.N) : List Value := [Tx.v n.code, .bool n.live, .int .i64 n.over, .int .i64 (n.dist : Nat)]
def Br.ncs (l : List Bk.N) : List Value := l.flatMap Br.nc
theorem Br.ncs_cons (x : Bk.N) (l : List Bk.N) : Br.ncs (x :: l) = Tx.v x.code :: .bool x.live :: .int .i64 x.over :: .int .i64 (x.dist : Nat) :: Br.ncs l := rfl
theorem Br.ncs_app (a b : List Bk.N) : Br.ncs (a ++ b) = Br.ncs a ++ Br.ncs b := by unfold Br.ncs; rw [List.flatMap_append]
theorem Br.ncs_len : ∀ l : List Bk.N, (Br.ncs l).length = l.length * 4
  | [] => rfl
  | x :: l => by rw [Br.ncs_cons, List.length_cons, List.length_cons, List.length_cons, List.length_cons, Br.ncs_len l, List.length_cons]; omega
theorem Br.ncs_get : ∀ (l : List Bk.N) (j : Nat) (n : Bk.N), l[j]? = some n → (Br.ncs l)[j * 4]? = some (Tx.v n.code) ∧ (Br.ncs l)[j * 4 + 1]? = some (.bool n.live) ∧ (Br.ncs l)[j * 4 + 2]? = some (.int .i64 n.over) ∧ (Br.ncs l)[j * 4 + 3]? = some (.int .i64 (n.dist : Nat))
  | [], _, _, e => by simp at e
  | x :: l, 0, n, e => by
    have e' : x = n := by simpa using e
    subst e'
    exact ⟨rfl, rfl, rfl, rfl⟩
  | x :: l, j + 1, n, e => by
    have ih := Br.ncs_get l j n (by simpa using e)
    rw [Br.ncs_cons, show (j + 1) * 4 = j * 4 + 4 by omega]
    exact ih
theorem Br.row_at {w : World} {A : Option Addr} {cap j : Nat} {l : List Bk.N} {x : Bk.N} (h : w.ownsRow 0 75 4 (.slice A l.length cap) l.length (Br.ncs l)) (hj : l[j]? = some x) :
    ∃ g, A = some ⟨g, 0, none⟩ ∧ l.length ≤ cap ∧ cap ≤ maxLen ∧ w.cell? ⟨g, j * 4, none⟩ = some (Tx.v x.code) ∧ w.cell? ⟨g, j * 4 + 1, none⟩ = some (.bool x.live) ∧ w.cell? ⟨g, j * 4 + 2, none⟩ = some (.int .i64 x.over) ∧ w.cell? ⟨g, j * 4 + 3, none⟩ = some (.int .i64 (x.dist : Nat)) := by
  have hlt := (List.getElem?_eq_some_iff.1 hj).1
  obtain ⟨a, b, c, d⟩ := Br.ncs_get l j x hj
  rcases h.2 with ⟨h', h0⟩ | ⟨g, cap', cur, h', hb, hg, h1, h2, _⟩
  · omega
  · injection h' with h1' h2' h3'
    subst h3' h1'
    have k0 := h.cells (g := g) rfl _ _ a
    have k1 := h.cells (g := g) rfl _ _ b
    have k2 := h.cells (g := g) rfl _ _ c
    have k3 := h.cells (g := g) rfl _ _ d
    rw [Bk.addr_add] at k0 k1 k2 k3
    exact ⟨g, rfl, h1, h2, k0, k1, k2, k3⟩
/-- The tree in block t, its nodes in a row of its own. -/
structure Br.St (W : World) (t : Nat) (T : Bk.T) (A : Option Addr) (cap : Nat) : Prop where
  tree : Blk W t 47 #[.int .i64 T.w, .slice A T.l.length cap, .int .i64 (Bk.w64 T.seen)]
  row : W.ownsRow 0 75 4 (.slice A T.l.length cap) T.l.length (Br.ncs T.l)
  off : ∀ j, (Value.slice A T.l.length cap).ownBlock = some j → j ≠ t
/-- The blocks of a tree. -/
def Br.foot (t : Nat) (v : Value) (k : Nat) : Prop := k = t ∨ v.ownBlock = some k
def Br.At (W : World) (t : Nat) (T : Bk.T) (F : Nat → Prop) : Prop := ∃ A cap, Br.St W t T A cap ∧ F = Br.foot t (.slice A T.l.length cap)
def Br.Moved (W W' : World) (t : Nat) (F : Nat → Prop) (T' : Bk.T) : Prop := ∃ F', Br.At W' t T' F' ∧ Bk.Only F W W' ∧ ∀ k, F' k → F k ∨ W.heap.size ≤ k
section
variable {W W' : World} {t : Nat} {T : Bk.T} {F : Nat → Prop} {A : Option Addr} {cap : Nat}
theorem Br.St.t0 (h : Br.St W t T A cap) : W.cell? ⟨t, 0, none⟩ = some (.int .i64 T.w) := h.tree.cell 0
theorem Br.St.t1 (h : Br.St W t T A cap) : W.cell? ⟨t, 1, none⟩ = some (.slice A T.l.length cap) := h.tree.cell 1
theorem Br.St.t2 (h : Br.St W t T A cap) : W.cell? ⟨t, 2, none⟩ = some (.int .i64 (Bk.w64 T.seen)) := h.tree.cell 2
theorem Br.St.keep (h : Br.St W t T A cap) (hk : ∀ k, Br.foot t (.slice A T.l.length cap) k → W'.heap[k]? = W.heap[k]?) : Br.St W' t T A cap :=
  ⟨(hk t (.inl rfl)).trans h.tree, Bk.own_of h.row fun k he => hk k (.inr he), h.off⟩
theorem Br.St.lt (h : Br.St W t T A cap) {k : Nat} (hk : Br.foot t (.slice A T.l.length cap) k) : k < W.heap.size := by
  rcases hk with rfl | hk
  · exact h.tree.lt
  · exact (h.row.lt k hk).2
theorem Br.At.keep (h : Br.At W t T F) (hk : ∀ k, F k → W'.heap[k]? = W.heap[k]?) : Br.At W' t T F := by
  obtain ⟨A, cap, hS, rfl⟩ := h
  exact ⟨A, cap, hS.keep hk, rfl⟩
theorem Br.At.lt (h : Br.At W t T F) {k : Nat} (hk : F k) : k < W.heap.size := by
  obtain ⟨A, cap, hS, rfl⟩ := h
  exact hS.lt hk
theorem Br.At.later (h : Br.At W t T F) {B : Nat} (hB : Below B W W') (hs : W.heap.size ≤ B) : Br.At W' t T F := h.keep fun k hk => hB.block k (Nat.lt_of_lt_of_le (h.lt hk) hs)
/-- A place, or -1. -/
def Br.idx : Option Nat → Int
  | none => -1
  | some i => (i : Int)
theorem Br.find_at {l : List Bk.N} {c : List UInt8} {k : Nat} {n : Bk.N} (h0 : ∀ j m, j < k → l[j]? = some m → m.code ≠ c) (hk : l[k]? = some n) (hc : n.code = c) : Bk.find l c = some k := by
  unfold Bk.find
  rw [List.findIdx?_eq_some_iff_getElem]
  obtain ⟨h1, h2⟩ := List.getElem?_eq_some_iff.1 hk
  refine ⟨h1, by rw [h2]; exact decide_eq_true hc, fun j hj => ?_⟩
  have := h0 j _ hj (List.getElem?_eq_getElem (by omega))
  simpa using this
theorem Br.find_no {l : List Bk.N} {c : List UInt8} (h0 : ∀ j m, j < l.length → l[j]? = some m → m.code ≠ c) : Bk.find l c = none := by
  unfold Bk.find
  rw [List.findIdx?_eq_none_iff]
  intro n hn
  obtain ⟨j, hj⟩ := List.getElem?_of_mem hn
  exact decide_eq_false (h0 j n (List.getElem?_eq_some_iff.1 hj).1 hj)
theorem Br.child_at {l : List Bk.N} {i e k : Nat} {n : Bk.N} (h0 : ∀ j m, j < k → l[j]? = some m → ¬ (m.over = (i : Int) ∧ m.dist = e)) (hk : l[k]? = some n) (hc : n.over = (i : Int) ∧ n.dist = e) : Bk.child l i e = some k := by
  unfold Bk.child
  rw [List.findIdx?_eq_some_iff_getElem]
  obtain ⟨h1, h2⟩ := List.getElem?_eq_some_iff.1 hk
  refine ⟨h1, by rw [h2]; simpa using hc, fun j hj => ?_⟩
  have := h0 j _ hj (List.getElem?_eq_getElem (by omega))
  simpa using this
theorem Br.child_no {l : List Bk.N} {i e : Nat} (h0 : ∀ j m, j < l.length → l[j]? = some m → ¬ (m.over = (i : Int) ∧ m.dist = e)) : Bk.child l i e = none := by
  unfold Bk.child
  rw [List.findIdx?_eq_none_iff]
  intro n hn
  obtain ⟨j, hj⟩ := List.getElem?_of_mem hn
  have := h0 j n (List.getElem?_eq_some_iff.1 hj).1 hj
  simpa using this
set_option maxRecDepth 100000 in
set_option maxHeartbeats 2000000 in
theorem Br.node_any (h : Br.At W t T F) (hl : T.l.length ≤ 4398046511104) (c : ByteArray) :
    Calls Tryz.prog 42 #[.pointer (some ⟨t, 0, none⟩), .string c] W fun e W' => e = .returned (.int .i64 (Br.idx (Bk.find T.l c.data.toList))) ∧ W = W' := by
  obtain ⟨A, cap, hS, rfl⟩ := h
  have c1 := hS.t1
  go_enter Tryz.func42, Tryz.ntmps42
  go_upto_region 2 with fail
  go_loopg [5] T.l.length (fun m i wr => ∃ k : Nat, m + k = T.l.length ∧ i = .int .i64 (k : Nat) ∧ W = wr ∧ Hid (∀ j n, j < k → T.l[j]? = some n → n.code ≠ c.data.toList))
  case atStart => exact ⟨0, by omega, rfl, rfl, Lib.hid fun j n hj => by omega⟩
  case round =>
    obtain ⟨k, hmk, rfl, rfl, hno⟩ := hrel
    by_cases hkn : k = T.l.length
    · have u1 : decide (k < T.l.length) = false := decide_eq_false (by omega)
      have hr : Bk.find T.l c.data.toList = none := Br.find_no (by rw [← hkn]; exact hno.out)
      have HR := Lib.hid hr
      clear hr hmk hkn
      go_wp2_with fail
      go_ret
      rw [HR.out]
      exact ⟨rfl, rfl⟩
    · have u1 : decide (k < T.l.length) = true := decide_eq_true (by omega)
      obtain ⟨n, hn⟩ : ∃ n, T.l[k]? = some n := ⟨_, List.getElem?_eq_getElem (by omega)⟩
      obtain ⟨g, rfl, hg1, hg2, d0, d1, d2, d3⟩ := Br.row_at hS.row hn
      obtain ⟨xb, hxb, _⟩ := Tx.of n.code
      rw [Tx.v_eq hxb] at d0
      clear d1 d2 d3
      have hkl : k < T.l.length := by omega
      by_cases hc : n.code = c.data.toList
      · have u2 : (xb.toList == c.toList) = true := by rw [Tx.beq, hxb]; exact decide_eq_true hc
        have hr : Bk.find T.l c.data.toList = some k := Br.find_at hno.out hn hc
        have HR := Lib.hid hr
        clear hr hn hc hxb hkn
        go_wp2_with fail
        go_ret
        rw [HR.out]
        exact ⟨rfl, rfl⟩
      · have u2 : (xb.toList == c.toList) = false := by rw [Tx.beq, hxb]; exact decide_eq_false hc
        have hno2 : Hid (∀ j n, j < k + 1 → T.l[j]? = some n → n.code ≠ c.data.toList) := Lib.hid fun j m hj hm => by
          by_cases e : j = k
          · subst e
            rw [hn] at hm
            rw [← Option.some.inj hm]
            exact hc
          · exact hno.out j m (by omega) hm
        clear hn hc hxb hkn hno
        go_wp2_with fail
        go_roundg (gk - 1)
        case measure => omega
        case rel => exact ⟨k + 1, by omega, congrArg (Value.int .i64) (by omega), rfl, hno2⟩
set_option maxRecDepth 100000 in
set_option maxHeartbeats 2000000 in
theorem Br.child_any (h : Br.At W t T F) (hl : T.l.length ≤ 4398046511104) (i e : Nat) :
    Calls Tryz.prog 58 #[.pointer (some ⟨t, 0, none⟩), .int .i64 (i : Nat), .int .i64 (e : Nat)] W fun r W' => r = .returned (.int .i64 (Br.idx (Bk.child T.l i e))) ∧ W = W' := by
  obtain ⟨A, cap, hS, rfl⟩ := h
  have c1 := hS.t1
  go_enter Tryz.func58, Tryz.ntmps58
  go_upto_region 2 with fail
  go_loopg [7] T.l.length (fun m v wr => ∃ k : Nat, m + k = T.l.length ∧ v = .int .i64 (k : Nat) ∧ W = wr ∧ Hid (∀ j n, j < k → T.l[j]? = some n → ¬ (n.over = (i : Int) ∧ n.dist = e)))
  case atStart => exact ⟨0, by omega, rfl, rfl, Lib.hid fun j n hj => by omega⟩
  case round =>
    obtain ⟨k, hmk, rfl, rfl, hno⟩ := hrel
    by_cases hkn : k = T.l.length
    · have u1 : decide (k < T.l.length) = false := decide_eq_false (by omega)
      have hr : Bk.child T.l i e = none := Br.child_no (by rw [← hkn]; exact hno.out)
      have HR := Lib.hid hr
      clear hr hmk hkn
      go_wp2_with fail
      go_ret
      rw [HR.out]
      exact ⟨rfl, rfl⟩
    · have u1 : decide (k < T.l.length) = true := decide_eq_true (by omega)
      obtain ⟨n, hn⟩ : ∃ n, T.l[k]? = some n := ⟨_, List.getElem?_eq_getElem (by omega)⟩
      obtain ⟨g, rfl, hg1, hg2, d0, d1, d2, d3⟩ := Br.row_at hS.row hn
      clear d0 d1
      have hkl : k < T.l.length := by omega
      obtain ⟨no, hno'⟩ : ∃ no, n.over = no := ⟨_, rfl⟩
      obtain ⟨nd, hnd⟩ : ∃ nd, n.dist = nd := ⟨_, rfl⟩
      rw [hno'] at d2
      rw [hnd] at d3
      have hstep : ¬ (n.over = (i : Int) ∧ n.dist = e) → Hid (∀ j n, j < k + 1 → T.l[j]? = some n → ¬ (n.over = (i : Int) ∧ n.dist = e)) := fun hc => Lib.hid fun j m hj hm => by
        by_cases e : j = k
        · subst e
          rw [hn] at hm
          rw [← Option.some.inj hm]
          exact hc
        · exact hno.out j m (by omega) hm
      by_cases h1 : no = (i : Int)
      · have u2 : (no == (i : Int)) = true := by rw [beq_iff_eq]; exact h1
        by_cases h2 : nd = e
        · have u3 : ((nd : Int) == (e : Int)) = true := by rw [beq_iff_eq, h2]
          have hr : Bk.child T.l i e = some k := Br.child_at hno.out hn ⟨hno'.trans h1, hnd.trans h2⟩
          have HR := Lib.hid hr
          clear hr hn h1 h2 hno' hnd hkn hstep
          go_wp2_with fail
          go_ret
          rw [HR.out]
          exact ⟨rfl, rfl⟩
        · have u3 : ((nd : Int) == (e : Int)) = false := by rw [beq_eq_false_iff_ne]; omega
          have hno2 := hstep fun hc => h2 (hnd.symm.trans hc.2)
          clear hn h1 h2 hno' hnd hkn hstep hno
          go_wp2_with fail
          go_roundg (gk - 1)
          case measure => omega
          case rel => exact ⟨k + 1, by omega, congrArg (Value.int .i64) (by omega), rfl, hno2⟩
      · have u2 : (no == (i : Int)) = false := by rw [beq_eq_false_iff_ne]; exact h1
        have hno2 := hstep fun hc => h1 (hno'.symm.trans hc.1)
        clear hn h1 hno' hnd hkn hstep hno
        go_wp2_with fail
        go_roundg (gk - 1)
        case measure => omega
        case rel => exact ⟨k + 1, by omega, congrArg (Value.int .i64) (by omega), rfl, hno2⟩
theorem Br.looked_any (h : Br.At W t T F) : Calls Tryz.prog 26 #[.pointer (some ⟨t, 0, none⟩)] W fun e W' => e = .returned (.int .i64 (Bk.w64 T.seen)) ∧ W = W' := by
  obtain ⟨A, cap, hS, rfl⟩ := h
  have c2 := hS.t2
  go_enter Tryz.func26, Tryz.ntmps26
  go_wp2_with fail
  go_ret
  exact ⟨rfl, rfl⟩
theorem Br.nodes_any (h : Br.At W t T F) : Calls Tryz.prog 29 #[.pointer (some ⟨t, 0, none⟩)] W fun e W' => e = .returned (.int .i64 (T.l.length : Nat)) ∧ W = W' := by
  obtain ⟨A, cap, hS, rfl⟩ := h
  have c1 := hS.t1
  go_enter Tryz.func29, Tryz.ntmps29
  go_wp2_with fail
  go_ret
  exact ⟨rfl, rfl⟩
set_option maxRecDepth 100000 in
theorem Br.has_any (h : Br.At W t T F) (hl : T.l.length ≤ 4398046511104) (c : ByteArray) :
    Calls Tryz.prog 24 #[.pointer (some ⟨t, 0, none⟩), .string c] W fun e W' => e = .returned (.bool (Bk.has T c.data.toList)) ∧ W = W' := by
  have kn := Br.node_any h hl c
  obtain ⟨A, cap, hS, rfl⟩ := h
  have c1 := hS.t1
  unfold Bk.has
  cases hf : Bk.find T.l c.data.toList with
  | none =>
    rw [hf] at kn
    simp only
    unfold Br.idx at kn
    go_enter Tryz.func24, Tryz.ntmps24
    go_wp2_with (go_at_call 42; refine kn.mono ?_; clear kn; rintro e w1 ⟨rfl, rfl⟩)
    go_ret
    exact ⟨rfl, rfl⟩
  | some k =>
    obtain ⟨n, hn, hc⟩ := Bk.find_some hf
    rw [hf] at kn
    simp only
    rw [Bk.liveAt_at hn]
    unfold Br.idx at kn
    obtain ⟨g, rfl, hg1, hg2, d0, d1, d2, d3⟩ := Br.row_at hS.row hn
    have hkl : k < T.l.length := (List.getElem?_eq_some_iff.1 hn).1
    generalize n.live = b at d1 ⊢
    clear d0 d2 d3 hf hn hc
    have u1 : decide ((0 : Int) ≤ (k : Int)) = true := decide_eq_true (by omega)
    go_enter Tryz.func24, Tryz.ntmps24
    go_wp2_with (go_at_call 42; refine kn.mono ?_; clear kn; rintro e w1 ⟨rfl, rfl⟩)
    go_ret
    exact ⟨rfl, rfl⟩
/-- How many of the first k are there. -/
def Br.liveK (l : List Bk.N) (k : Nat) : Nat := Bk.live (l.take k)
theorem Br.liveK_succ {l : List Bk.N} {k : Nat} {n : Bk.N} (h : l[k]? = some n) : Br.liveK l (k + 1) = Br.liveK l k + (if n.live then 1 else 0) := by
  unfold Br.liveK Bk.live
  rw [List.take_add_one, h, List.filter_append, List.length_append]
  cases hn : n.live <;> simp [hn]
theorem Br.liveK_le (l : List Bk.N) (k : Nat) : Br.liveK l k ≤ k := by
  unfold Br.liveK
  exact Nat.le_trans (Bk.live_le _) (by rw [List.length_take]; omega)
set_option maxRecDepth 100000 in
set_option maxHeartbeats 2000000 in
theorem Br.len_any (h : Br.At W t T F) (hl : T.l.length ≤ 4398046511104) :
    Calls Tryz.prog 28 #[.pointer (some ⟨t, 0, none⟩)] W fun e W' => e = .returned (.int .i64 (Bk.live T.l : Nat)) ∧ W = W' := by
  obtain ⟨A, cap, hS, rfl⟩ := h
  have c1 := hS.t1
  go_enter Tryz.func28, Tryz.ntmps28
  go_upto_region 3 with fail
  go_loopg [3, 4] T.l.length (fun m c i wr => ∃ k : Nat, m + k = T.l.length ∧ i = .int .i64 (k : Nat) ∧ c = .int .i64 (Br.liveK T.l k : Nat) ∧ W = wr)
  case atStart => exact ⟨0, by omega, rfl, rfl, rfl⟩
  case round =>
    obtain ⟨k, hmk, rfl, rfl, rfl⟩ := hrel
    by_cases hkn : k = T.l.length
    · have u1 : decide (k < T.l.length) = false := decide_eq_false (by omega)
      have hr : Br.liveK T.l k = Bk.live T.l := by unfold Br.liveK; rw [hkn, List.take_length]
      have HR := Lib.hid hr
      clear hr hmk hkn
      go_wp2_with fail
      go_ret
      rw [HR.out]
      exact ⟨rfl, rfl⟩
    · have u1 : decide (k < T.l.length) = true := decide_eq_true (by omega)
      obtain ⟨n, hn⟩ : ∃ n, T.l[k]? = some n := ⟨_, List.getElem?_eq_getElem (by omega)⟩
      obtain ⟨g, rfl, hg1, hg2, d0, d1, d2, d3⟩ := Br.row_at hS.row hn
      have hkl : k < T.l.length := by omega
      have hst := Br.liveK_succ hn
      have hle := Br.liveK_le T.l k
      obtain ⟨p1, hp1⟩ : ∃ p1, Br.liveK T.l (k + 1) = p1 := ⟨_, rfl⟩
      rw [hp1] at hst
      have HP := Lib.hid hp1
      generalize Br.liveK T.l k = p at *
      generalize n.live = b at d1 hst
      clear d0 d2 d3 hn hkn hp1
      cases b with
      | true =>
        have HS := Lib.hid (show p1 = p + 1 from hst)
        clear hst
        go_wp2_with fail
        go_roundg (gk - 1)
        case measure => omega
        case rel => exact ⟨k + 1, by omega, congrArg (Value.int .i64) (by omega), congrArg (Value.int .i64) (by rw [HP.out, HS.out]; omega), rfl⟩
      | false =>
        have HS := Lib.hid (show p1 = p + 0 from hst)
        clear hst
        go_wp2_with fail
        go_roundg (gk - 1)
        case measure => omega
        case rel => exact ⟨k + 1, by omega, congrArg (Value.int .i64) (by omega), congrArg (Value.int .i64) (by rw [HP.out, HS.out]; omega), rfl⟩
end
end Go.Proofs.YtikhahkmebkccaaGreatDoor
