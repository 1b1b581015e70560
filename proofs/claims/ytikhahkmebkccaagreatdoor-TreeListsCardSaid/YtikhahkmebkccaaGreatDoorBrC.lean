/- The document's tree: one more element at a row's end, New, Depth, hang. Conditions: each theorem's own hypotheses. -/
import Derived.Test.YtikhahkmebkccaaGreatDoorBrB
import Derived.Maps.AppendAt
namespace Go.Proofs.YtikhahkmebkccaaGreatDoor
open Go.RowKit Go.Maps Go.Sort Go.Shelf
set_option linter.unusedVariables false
set_option linter.unusedSimpArgs false

/-- A row that grows by one: the next capacity is at most a quarter more (and 192). -/
theorem Br.next_le {n : Nat} (h : 256 ≤ n) : Builtin.nextslicecap (n + 1) n ≤ n + (n + 768) / 4 := by
  unfold Builtin.nextslicecap
  rw [if_neg (by omega), if_neg (by omega), growBy_four, if_neg (by omega), if_pos (by omega)]
  exact Nat.le_refl _
/-- One element more at the end of a row of one's own, where Go's own limit allows it. -/
theorem Br.run_append_one {P : Program} (w : World) (base : Nat) (t ty e : TypeId) (i : TypeInfo) (z : Value) (size bytes : Nat) (ht : P.underlying t = some (.slice e)) (hi : P.info? e = some i) (hz : i.zero = some z)
    (hsize : i.size = size) (hby : i.bytes = bytes) (hzs : z.cells.size = size) (hsz : 0 < size) (v : Value) (n : Nat) (xs : List Value) (hown : w.ownsRow base e size v n xs)
    (a : Addr) (c : Nat) (news : List Value) (hl : news.length = 1 * size) (hnews : ∀ j u, news[j]? = some u → w.cell? (a.add j) = some u) (h1 : ∀ u ∈ news, u.oneCell' = true)
    (h63 : n + 1 ≤ maxLen) (hb1 : bytes ≤ 140737488355328) (hb2 : 256 ≤ n → (n + (n + 768) / 4) * bytes ≤ 281474976710656) (hb3 : n < 256 → (n + 1) * bytes ≤ 140737488355328) (hbase : base ≤ w.heap.size) :
    ∃ v' w', (Builtin.append_ #[t, t] ty #[v, .slice (some a) 1 c]).run P w = .ok v' w' ∧ w'.ownsRow base e size v' (n + 1) (xs ++ news) ∧ w.grownBy w' v.ownBlock ∧ (v'.ownBlock = v.ownBlock ∨ v'.ownBlock = some w.heap.size) := by
  by_cases hsmall : (n + 1) * bytes ≤ 140737488355328
  · obtain ⟨v', w', k1, k2, k3, k4, k5⟩ := run_append_own_at (P := P) w base t ty e i z size bytes ht hi hz hsize hby hzs hsz v n xs hown a 1 c news hl hnews h1 h63 hsmall hbase
    exact ⟨v', w', k1, k2, k3, k5⟩
  · have hn : 256 ≤ n := by
      rcases Nat.lt_or_ge n 256 with h | h
      · exact absurd (hb3 h) hsmall
      · exact h
    subst hsize hby
    have hall : (xs ++ news).length = (n + 1) * i.size := by rw [List.length_append, hown.1, hl, Nat.add_mul]
    have hml : maxLen = 9223372036854775807 := rfl
    rcases hown.2 with ⟨rfl, rfl⟩ | ⟨g, cap, cur, rfl, q1, q2, q3, q4, q5, q6⟩
    · omega
    · by_cases hroom : n + 1 ≤ cap
      · have hin : n * i.size + news.length ≤ cur.size := by rw [hl, q5, ← Nat.add_mul]; exact Nat.mul_le_mul_right _ hroom
        have hrun := run_append_room (P := P) w t ty e i ht hi g n cap cur q2 a 1 c news hl hnews h1 hroom hin
        refine ⟨_, _, hrun, ⟨hall, .inr ⟨g, cap, _, rfl, q1, setRow_heap w g cur _ e _ q2, hroom, q4, ?_, ?_⟩⟩, ⟨rfl, rfl, rfl, by simp, fun k _ hk => setRow_other w g k _ fun e => hk (by rw [e]; rfl)⟩, .inl rfl⟩
        · rw [List.size_toArray, List.length_append, List.length_append, List.length_take, List.length_drop, Array.length_toList]; omega
        · rw [q6, ← hall]; exact List.take_left
      · have hcap : cap = n := by omega
        have hfit : Builtin.nextslicecap (n + 1) cap * i.bytes ≤ 281474976710656 := by
          rw [hcap]
          exact Nat.le_trans (Nat.mul_le_mul_right _ (Br.next_le hn)) (hb2 hn)
        have hrun := run_append_grow (P := P) w t ty e i z ht hi hz ⟨g, 0, none⟩ n cap xs hown.1 (hown.cells (g := g) rfl) a 1 c news hl hnews (by omega) (by omega) hfit
        refine ⟨_, _, hrun, ⟨hall, .inr ⟨w.heap.size, _, _, rfl, hbase, heap_alloc_new w.drew _, grownCap_ge w (n + 1) cap e, grownCap_le_maxLen w (n + 1) cap e h63, ?_, ?_⟩⟩, ⟨rfl, rfl, rfl, by simp, fun k hk _ => heap_alloc_old w.drew _ hk⟩, .inr rfl⟩
        · have hge := grownCap_ge w (n + 1) cap e
          rw [Array.size_append, Array.size_append, size_zeroCells, hzs, List.size_toArray, List.size_toArray, hown.1, hl, ← Nat.add_mul, ← Nat.add_mul]
          congr 1
          omega
        · rw [Array.toList_append, Array.toList_append, List.append_assoc, ← List.append_assoc, ← hall]
          exact List.take_left
theorem Br.wpList_append_one {P : Program} {w : World} {ops : Array Oper} {rest : List Oper} {o : Oper} {a : Act} {Q : Exit → Act → World → Prop} (hgd : o.guard = none) (s x : Operand) (t : TypeId)
    (ho : o.op = .call { callee := .builtin .append, args := #[s, x], argTypes := #[t, t] })
    (base : Nat) (e : TypeId) (i : TypeInfo) (z : Value) (size bytes : Nat) (ht : P.underlying t = some (.slice e)) (hi : P.info? e = some i) (hz : i.zero = some z)
    (hsize : i.size = size) (hby : i.bytes = bytes) (hzs : z.cells.size = size) (hsz : 0 < size)
    (v : Value) (n : Nat) (xs : List Value) (hs : a.eval s = v) (hown : w.ownsRow base e size v n xs)
    (ad : Addr) (c : Nat) (news : List Value) (hx : a.eval x = .slice (some ad) 1 c) (hl : news.length = 1 * size) (hnews : ∀ j u, news[j]? = some u → w.cell? (ad.add j) = some u) (h1 : ∀ u ∈ news, u.oneCell' = true)
    (h63 : n + 1 ≤ maxLen) (hb1 : bytes ≤ 140737488355328) (hb2 : 256 ≤ n → (n + (n + 768) / 4) * bytes ≤ 281474976710656) (hb3 : n < 256 → (n + 1) * bytes ≤ 140737488355328) (hbase : base ≤ w.heap.size)
    (h : ∀ v' w', w'.ownsRow base e size v' (n + 1) (xs ++ news) → w.grownBy w' v.ownBlock → (v'.ownBlock = v.ownBlock ∨ v'.ownBlock = some w.heap.size) → wpList P ops Q rest (a.put o.dst v') w') :
    wpList P ops Q (o :: rest) a w := by
  refine wpList_plain hgd fun K hK => ?_
  obtain ⟨v', w', hr, h2, h3, h4⟩ := Br.run_append_one (P := P) w base t o.type e i z size bytes ht hi hz hsize hby hzs hsz v n xs hown ad c news hl hnews h1 h63 hb1 hb2 hb3 hbase
  unfold Oper.wp execOp
  simp only [ho, resolve, invoke, builtin, Sem.run_bind, Sem.run_pure, Result.andThen_ok, List.map_toArray, List.map_cons, List.map_nil, hs, hx, hr]
  exact hK _ _ (h v' w' h2 h3 h4)
theorem Br.nodeInfo : (Tryz.prog.info? 75).map (fun i => (i.zero, i.size, i.bytes)) = some (some (.agg #[.string ⟨#[]⟩, .bool false, .int .i64 0, .int .i64 0]), 4, 40) := by kernel_rfl
theorem Br.cells4 (w : World) (t : TypeId) (a b c d : Value) : ∀ j u, ([a, b, c, d] : List Value)[j]? = some u → (w.alloc (.cells #[a, b, c, d] t)).cell? ((⟨w.heap.size, 0, none⟩ : Addr).add j) = some u := by
  intro j u hu
  rw [Bk.addr_add, (Blk.new w t #[a, b, c, d]).cell j]
  simpa using hu
set_option maxRecDepth 100000 in
theorem Br.new_none (w : Int) (hw : Bt.wide w = false) (W : World) :
    Calls Tryz.prog 7 #[.int .i64 w] W fun e W' => e = .returned (.pointer none) ∧ W = W' := by
  by_cases h1 : w < 64
  · have u1 : decide (w < 64) = true := decide_eq_true h1
    clear hw
    go_enter Tryz.func7, Tryz.ntmps7
    go_wp2_with fail
    go_ret
    exact ⟨rfl, rfl⟩
  · have u1 : decide (w < 64) = false := decide_eq_false h1
    by_cases h2 : 1024 < w
    · have u2 : decide (1024 < w) = true := decide_eq_true h2
      clear hw
      go_enter Tryz.func7, Tryz.ntmps7
      go_wp2_with fail
      go_ret
      exact ⟨rfl, rfl⟩
    · have u2 : decide (1024 < w) = false := decide_eq_false h2
      have u3 : (w % 64 != 0) = true := by unfold Bt.wide at hw; simp at hw ⊢; omega
      have u4 : (w % 64 == 0) = false := by unfold Bt.wide at hw; simp at hw ⊢; omega
      clear hw
      go_enter Tryz.func7, Tryz.ntmps7
      go_wp2_with fail
      go_ret
      exact ⟨rfl, rfl⟩
set_option maxRecDepth 100000 in
theorem Br.new_any (w : Nat) (hw : Bt.wide w = true) (W : World) :
    Calls Tryz.prog 7 #[.int .i64 w] W fun e W' => ∃ t F, e = .returned (.pointer (some ⟨t, 0, none⟩)) ∧ Br.At W' t ⟨w, [], 0⟩ F ∧ Below W.heap.size W W' ∧ ∀ k, F k → W.heap.size ≤ k := by
  obtain ⟨h1, h2, h3⟩ := Bt.wide_in hw
  have u1 : decide ((w : Int) < 64) = false := decide_eq_false (by omega)
  have u2 : decide (1024 < (w : Int)) = false := decide_eq_false (by omega)
  have u3 : ((w : Int) % 64 != 0) = false := by simp; omega
  have u4 : ((w : Int) % 64 == 0) = true := by simp; omega
  clear hw h3
  go_enter Tryz.func7, Tryz.ntmps7
  go_wp2_with fail
  go_ret
  refine ⟨_, _, rfl, ⟨none, 0, ⟨Blk.new W 47 _, ⟨by simp [Br.ncs], .inl ⟨rfl, rfl⟩⟩, fun j hj => by simp [Value.ownBlock] at hj⟩, rfl⟩, (Below.refl _ _).alloc (Nat.le_refl _) _, fun k hk => ?_⟩
  rcases hk with rfl | hk
  · exact Nat.le_refl _
  · simp [Value.ownBlock] at hk
theorem Br.getD_left {a b : List Nat} {i : Nat} (h : i < a.length) : (a ++ b).getD i 0 = a.getD i 0 := by
  rw [List.getD_eq_getElem?_getD, List.getD_eq_getElem?_getD, List.getElem?_append_left h]
theorem Br.getD_last {a : List Nat} {x : Nat} : (a ++ [x]).getD a.length 0 = x := by
  rw [List.getD_eq_getElem?_getD, List.getElem?_append_right (Nat.le_refl _), Nat.sub_self]; rfl
theorem Br.deeps_at : ∀ (os : List Int) (i : Nat) (o : Int), os[i]? = some o → (o < 0 ∨ o.toNat < i) → (Bk.deeps os).getD i 0 = if o < 0 then 1 else (Bk.deeps os).getD o.toNat 0 + 1 := by
  refine Bk.deeps_rev _ (fun i o h => by simp at h) fun os o' ih i o h hlt => ?_
  have hlen := Bk.deeps_len os
  by_cases hi : i < os.length
  · rw [List.getElem?_append_left hi] at h
    have := ih i o h hlt
    rw [Bk.deeps_snoc, Br.getD_left (by omega), this]
    by_cases h0 : o < 0
    · rw [if_pos h0, if_pos h0]
    · rw [if_neg h0, if_neg h0, Br.getD_left (by omega)]
  · have hil : i = os.length := by
      have := (List.getElem?_eq_some_iff.1 h).1
      rw [List.length_append, List.length_singleton] at this
      omega
    subst hil
    rw [List.getElem?_append_right (Nat.le_refl _), Nat.sub_self] at h
    obtain rfl : o' = o := by simpa using h
    rw [Bk.deeps_snoc, ← hlen, Br.getD_last]
    show (if o' < 0 then 1 else _) = _
    by_cases h0 : o' < 0
    · rw [if_pos h0, if_pos h0]
    · rw [if_neg h0, if_neg h0, Br.getD_left (by omega)]
/-- The way up from a node: what is counted, and what is still to count. -/
def Br.rest (os : List Int) (z : Int) : Nat := if z < 0 then 0 else (Bk.deeps os).getD z.toNat 0
section
variable {W W' : World} {t : Nat} {T : Bk.T} {F : Nat → Prop} {A : Option Addr} {cap : Nat}
theorem Br.rest_step {w : Nat} {l : List Bk.N} (hg : Bk.Good w l) {i : Nat} {n : Bk.N} (hn : l[i]? = some n) : Br.rest (Bk.os l) (i : Int) = 1 + Br.rest (Bk.os l) n.over ∧ -1 ≤ n.over ∧ n.over < (i : Int) := by
  have ho : (Bk.os l)[i]? = some n.over := by unfold Bk.os; rw [List.getElem?_map, hn]; rfl
  have hb : (n.over < 0 ∨ n.over.toNat < i) ∧ -1 ≤ n.over ∧ n.over < (i : Int) := by
    rcases hg.over i n hn with ⟨_, h, _⟩ | ⟨p, m, h, hp, _⟩
    · omega
    · omega
  have := Br.deeps_at (Bk.os l) i n.over ho hb.1
  refine ⟨?_, hb.2⟩
  unfold Br.rest
  rw [if_neg (by omega), Int.toNat_natCast, this]
  by_cases h0 : n.over < 0
  · rw [if_pos h0, if_pos h0]
  · rw [if_neg h0, if_neg h0]; omega
theorem Br.rest_le (l : List Bk.N) (z : Int) : Br.rest (Bk.os l) z ≤ l.length := by
  unfold Br.rest
  split
  · exact Nat.zero_le _
  · rw [List.getD_eq_getElem?_getD]
    cases hg : (Bk.deeps (Bk.os l))[z.toNat]? with
    | none => exact Nat.zero_le _
    | some x =>
      have := (Bk.deeps_le (Bk.os l) x (List.mem_of_getElem? hg)).2
      rwa [show (Bk.os l).length = l.length by simp [Bk.os]] at this
/-- The deepest of the first k. -/
def Br.most (l : List Bk.N) (k : Nat) : Nat := ((Bk.deeps (Bk.os l)).take k).foldl max 0
theorem Br.most_succ {l : List Bk.N} {k : Nat} (hk : k < l.length) : Br.most l (k + 1) = max (Br.most l k) (Br.rest (Bk.os l) (k : Int)) := by
  have hlen : (Bk.deeps (Bk.os l)).length = l.length := by rw [Bk.deeps_len]; simp [Bk.os]
  unfold Br.most Br.rest
  rw [if_neg (by omega), Int.toNat_natCast, List.take_add_one, List.getD_eq_getElem?_getD, List.getElem?_eq_getElem (by omega), List.foldl_append]
  rfl
theorem Br.most_le (l : List Bk.N) : ∀ k, k ≤ l.length → Br.most l k ≤ l.length
  | 0, _ => by unfold Br.most; simp
  | k + 1, h => by
    rw [Br.most_succ h]
    exact Nat.max_le.2 ⟨Br.most_le l k (by omega), Br.rest_le l k⟩
set_option maxRecDepth 100000 in
set_option maxHeartbeats 2000000 in
theorem Br.depth_any (h : Br.At W t T F) (hG : Bk.Good T.w T.l) (hl : T.l.length ≤ 4398046511104) :
    Calls Tryz.prog 30 #[.pointer (some ⟨t, 0, none⟩)] W fun e W' => e = .returned (.int .i64 (Bk.depth (Bk.os T.l) : Nat)) ∧ W = W' := by
  obtain ⟨A, cap, hS, rfl⟩ := h
  have c1 := hS.t1
  have HG := Lib.hid hG
  clear hG
  go_enter Tryz.func30, Tryz.ntmps30
  go_upto_region 3 with fail
  go_loopg [3, 4] T.l.length (fun m c i wr => ∃ k : Nat, m + k = T.l.length ∧ i = .int .i64 (k : Nat) ∧ c = .int .i64 (Br.most T.l k : Nat) ∧ W = wr)
  case atStart => exact ⟨0, by omega, rfl, rfl, rfl⟩
  case round =>
    obtain ⟨k, hmk, rfl, rfl, rfl⟩ := hrel
    by_cases hkn : k = T.l.length
    · have u1 : decide (k < T.l.length) = false := decide_eq_false (by omega)
      have hr : Br.most T.l k = Bk.depth (Bk.os T.l) := by
        unfold Br.most Bk.depth
        rw [List.take_of_length_le (by rw [Bk.deeps_len, hkn]; simp [Bk.os])]
      have HR := Lib.hid hr
      generalize Br.most T.l k = p at *
      clear hr hmk hkn
      go_wp2_with fail
      go_ret
      rw [HR.out]
      exact ⟨rfl, rfl⟩
    · have u1 : decide (k < T.l.length) = true := decide_eq_true (by omega)
      obtain ⟨n, hn⟩ : ∃ n, T.l[k]? = some n := ⟨_, List.getElem?_eq_getElem (by omega)⟩
      obtain ⟨g, rfl, hg1, hg2, d0, d1, d2, d3⟩ := Br.row_at hS.row hn
      have hkl : k < T.l.length := by omega
      obtain ⟨r1, r2, r3⟩ := Br.rest_step HG.out hn
      have hms := Br.most_succ hkl
      have hml := Br.most_le T.l k (by omega)
      have hrl := Br.rest_le T.l k
      obtain ⟨D, hD⟩ : ∃ D, Br.rest (Bk.os T.l) (k : Int) = D := ⟨_, rfl⟩
      rw [hD] at r1 hms hrl
      obtain ⟨p1, hp1⟩ : ∃ p1, Br.most T.l (k + 1) = p1 := ⟨_, rfl⟩
      rw [hp1] at hms
      have HP := Lib.hid (And.intro hp1 (And.intro hms (And.intro hmk hD)))
      obtain ⟨og, hog⟩ : ∃ og, og = gk := ⟨_, rfl⟩
      have HO := Lib.hid hog
      generalize Br.most T.l k = p at *
      generalize n.over = o at *
      have HR := Lib.hid r1
      clear d0 d1 d3 hn hkn hp1 hms hmk hD r1 hog
      go_upto_region 7 with fail
      go_loopg [5, 6] (o + 1).toNat (fun m c v wr => ∃ (a : Nat) (z : Int), c = .int .i64 (a : Nat) ∧ v = .int .i64 z ∧ W = wr ∧ m = (z + 1).toNat ∧ -1 ≤ z ∧ z < (T.l.length : Int) ∧ a ≤ D ∧ Hid (D = a + Br.rest (Bk.os T.l) z))
      case atStart => exact ⟨1, o, rfl, rfl, rfl, rfl, r2, by omega, by have := HR.out; omega, HR⟩
      case round =>
        obtain ⟨a, z, rfl, rfl, rfl, hm, hz1, hz2, haD, hrest⟩ := hrel
        by_cases hz0 : z < 0
        · have u2 : decide ((0 : Int) ≤ z) = false := decide_eq_false (by omega)
          have haD : a = D := by
            have := hrest.out
            unfold Br.rest at this
            rw [if_pos hz0] at this
            omega
          subst haD
          clear hrest hm
          by_cases hpa : p ≤ a
          · go_wp2_with fail
            go_roundg (og - 1)
            case measure => have := HO.out; have := HP.out.2.2.1; omega
            case rel => exact ⟨k + 1, by have := HO.out; have := HP.out.2.2.1; omega, congrArg (Value.int .i64) (by omega), congrArg (Value.int .i64) (by rw [HP.out.1, HP.out.2.1]; omega), rfl⟩
          · go_wp2_with fail
            go_roundg (og - 1)
            case measure => have := HO.out; have := HP.out.2.2.1; omega
            case rel => exact ⟨k + 1, by have := HO.out; have := HP.out.2.2.1; omega, congrArg (Value.int .i64) (by omega), congrArg (Value.int .i64) (by rw [HP.out.1, HP.out.2.1]; omega), rfl⟩
        · have u2 : decide ((0 : Int) ≤ z) = true := decide_eq_true (by omega)
          obtain ⟨j, rfl⟩ : ∃ j : Nat, z = (j : Int) := ⟨z.toNat, by omega⟩
          obtain ⟨n2, hn2⟩ : ∃ n, T.l[j]? = some n := ⟨_, List.getElem?_eq_getElem (by omega)⟩
          obtain ⟨g', hg', _, _, b0, b1, b2, b3⟩ := Br.row_at hS.row hn2
          obtain rfl : g = g' := by injection hg' with e; injection e
          obtain ⟨s1, s2, s3⟩ := Br.rest_step HG.out hn2
          have hd2 := hrest.out
          rw [s1] at hd2
          have hjl : j < T.l.length := by omega
          generalize n2.over = o2 at *
          have HD2 := Lib.hid hd2
          clear b0 b1 b3 hn2 s1 hd2 hrest hz1 hz2 hg'
          have haD2 : a + 1 ≤ D := by have := HD2.out; omega
          go_wp2_with fail
          go_roundg (o2 + 1).toNat
          case measure => omega
          case rel => exact ⟨a + 1, o2, congrArg (Value.int .i64) (by omega), rfl, rfl, rfl, s2, by omega, haD2, Lib.hid (by have := HD2.out; omega)⟩
theorem Br.St.grow {w3 : World} (h : Br.St W t T A cap) (o : Obj) (x : Bk.N) {A' : Option Addr} {cap' : Nat} (hrow : w3.ownsRow 0 75 4 (.slice A' (T.l.length + 1) cap') (T.l.length + 1) (Br.ncs T.l ++ Br.nc x))
    (hg : (W.alloc o).grownBy w3 (Value.slice A T.l.length cap).ownBlock) (hat : (Value.slice A' (T.l.length + 1) cap').ownBlock = (Value.slice A T.l.length cap).ownBlock ∨ (Value.slice A' (T.l.length + 1) cap').ownBlock = some (W.alloc o).heap.size) :
    Br.Moved W (w3.setCell ⟨t, 1, none⟩ (.slice A' (T.l.length + 1) cap')) t (Br.foot t (.slice A T.l.length cap)) { T with l := T.l ++ [x] } := by
  have e : (T.l ++ [x]).length = T.l.length + 1 := by simp
  have hne : some t ≠ (Value.slice A T.l.length cap).ownBlock := fun e => h.off t e.symm rfl
  have B3 : Blk w3 t _ _ := (h.tree.alloc o).grown hg hne
  have B4 := B3.set_ 1 (.slice A' (T.l.length + 1) cap')
  have ht := h.tree.lt
  have hne' : ∀ j, (Value.slice A' (T.l.length + 1) cap').ownBlock = some j → j ≠ t := fun j hj => by
    rcases hat with h1 | h1
    · exact h.off j (h1.symm.trans hj)
    · rw [h1] at hj
      have := Option.some.inj hj
      rw [World.size_alloc] at this
      omega
  have e2 : Br.ncs (T.l ++ [x]) = Br.ncs T.l ++ Br.nc x := by rw [Br.ncs_app]; unfold Br.ncs; rw [List.flatMap_singleton]
  refine ⟨Br.foot t (.slice A' (T.l ++ [x]).length cap'), ⟨A', cap', ⟨?_, ?_, ?_⟩, rfl⟩, ?_, fun k hk => ?_⟩
  · show Blk _ t _ #[.int .i64 T.w, .slice A' (T.l ++ [x]).length cap', .int .i64 (Bk.w64 T.seen)]
    rw [e]; exact B4
  · show World.ownsRow _ 0 _ 4 (.slice A' (T.l ++ [x]).length cap') (T.l ++ [x]).length (Br.ncs (T.l ++ [x]))
    rw [e, e2]
    exact Bk.own_of hrow fun k hk => Below.heap_setCell w3 ⟨t, 1, none⟩ _ k (hne' k hk)
  · show ∀ j, (Value.slice A' (T.l ++ [x]).length cap').ownBlock = some j → j ≠ t
    rw [e]; exact hne'
  · exact (((Bk.Only.refl (Br.foot t (.slice A T.l.length cap)) W).alloc o).grown hg fun k hk => .inl (.inr hk)).setCell (p := ⟨t, 1, none⟩) (.inl (.inl rfl)) _
  · rw [e] at hk
    rcases hk with rfl | hk
    · exact .inl (.inl rfl)
    · rcases hat with h1 | h1
      · exact .inl (.inr (h1.symm.trans hk))
      · rw [h1] at hk
        have := Option.some.inj hk
        rw [World.size_alloc] at this
        exact .inr (by omega)
set_option maxRecDepth 100000 in
set_option maxHeartbeats 2000000 in
theorem Br.hang_nil (h : Br.At W t T F) (h0 : T.l = []) (c : ByteArray) (hc : c.size ≤ 128) :
    Calls Tryz.prog 43 #[.pointer (some ⟨t, 0, none⟩), .string c] W fun e W' => e = .returned (.tuple #[]) ∧ Br.Moved W W' t F { T with l := Bk.hang T.l c.data.toList } := by
  obtain ⟨i0, hi, hz0, hz1, hz2⟩ := info_parts Br.nodeInfo
  obtain ⟨A, cap, hS, rfl⟩ := h
  have c1 := hS.t1
  have hlen : T.l.length = 0 := by rw [h0]; rfl
  have hne : some t ≠ (Value.slice A T.l.length cap).ownBlock := fun e => hS.off t e.symm rfl
  have hbase := hS.tree.lt
  have HN := Lib.hid (And.intro hlen h0)
  have u1 : ((T.l.length : Int) == 0) = true := by rw [hlen]; rfl
  have hl1 : T.l.length ≤ 1 := by omega
  clear hlen h0
  go_enter Tryz.func43, Tryz.ntmps43
  go_wp2_with (at_builtin; refine Br.wpList_append_one rfl _ _ 45 rfl 0 75 i0 (.agg #[.string ⟨#[]⟩, .bool false, .int .i64 0, .int .i64 0]) 4 40 Tryz.underlying45 hi hz0 hz1 hz2 rfl (by decide) (.slice A T.l.length cap) T.l.length _ rfl (hS.row.alloc _) ⟨W.heap.size, 0, none⟩ 1 [.string c, .bool true, .int .i64 (-1), .int .i64 0] rfl rfl (Br.cells4 _ _ _ _ _ _) (by simp [Value.oneCell']) (by unfold maxLen; omega) (by decide) (by omega) (by omega) (Nat.zero_le _) ?_; intro v' w3 hown' hg' hat; obtain ⟨A', cp', rfl⟩ := Bk.row_form hown'; have B3 := (hS.tree.alloc (.cells #[.string c, .bool true, .int .i64 (-1), .int .i64 0] 75)).grown hg' hne; have b1 := B3.cell 1; have f1 := B3.frozen 1; have HO := Lib.hid (And.intro hown' (And.intro hg' hat)); clear hown' hg' hat B3)
  refine bodyPost_ret (results_none rfl _ _ _) rfl ?_
  refine ⟨rfl, ?_⟩
  have hh : Bk.hang T.l c.data.toList = T.l ++ [⟨c.data.toList, true, -1, 0⟩] := by rw [HN.out.2]; rfl
  rw [hh]
  exact hS.grow _ _ (by
    have := HO.out.1
    unfold Br.nc
    rw [Tx.v_eq (b := c) rfl]
    exact this) HO.out.2.1 HO.out.2.2
set_option maxRecDepth 100000 in
set_option maxHeartbeats 4000000 in
theorem Br.hang_some (h : Br.At W t T F) (h0 : T.l ≠ []) (hG : Bk.Good T.w T.l) (hw : T.w ≤ 1024) (hl : T.l.length ≤ 4398046511103) (c : ByteArray) (hc : c.size = T.w / 8) :
    Calls Tryz.prog 43 #[.pointer (some ⟨t, 0, none⟩), .string c] W fun e W' => e = .returned (.tuple #[]) ∧ Br.Moved W W' t F { T with l := Bk.hang T.l c.data.toList } := by
  obtain ⟨i0, hi, hz0, hz1, hz2⟩ := info_parts Br.nodeInfo
  have hat0 := h
  obtain ⟨A, cap, hS, rfl⟩ := h
  have c1 := hS.t1
  have hlen : 0 < T.l.length := List.length_pos_iff.2 h0
  have hne : some t ≠ (Value.slice A T.l.length cap).ownBlock := fun e => hS.off t e.symm rfl
  obtain ⟨p, e, hseat⟩ := hG.seat_ex c.data.toList (T.l.length + 1) 0 (by omega)
  have hh := hG.hang_of hseat h0
  have u1 : ((T.l.length : Int) == 0) = false := by rw [beq_eq_false_iff_ne]; omega
  have hcl := fun i => Br.child_any hat0 (by omega) i
  have HG := Lib.hid hG
  have HH := Lib.hid (And.intro hh (And.intro hat0 hc))
  have HSe := Lib.hid hseat
  have hcs : c.size ≤ 128 := by omega
  clear hG hh hat0 hseat h0 hc
  go_enter Tryz.func43, Tryz.ntmps43
  go_upto_region 3 with fail
  go_loopg [4] T.l.length (fun m v wr => ∃ i : Nat, v = .int .i64 (i : Nat) ∧ W = wr ∧ i < T.l.length ∧ m = T.l.length - i ∧ Hid (Bk.Seat T.l c.data.toList i p e))
  case atStart => exact ⟨0, rfl, rfl, hlen, rfl, HSe⟩
  case round =>
    clear HSe
    obtain ⟨i, rfl, rfl, hil, hm, hse⟩ := hrel
    obtain ⟨n, hn⟩ : ∃ n, T.l[i]? = some n := ⟨_, List.getElem?_eq_getElem hil⟩
    obtain ⟨g, rfl, hg1, hg2, d0, d1, d2, d3⟩ := Br.row_at hS.row hn
    obtain ⟨xb, hxb, hxs⟩ := Tx.of n.code
    rw [Tx.v_eq hxb] at d0
    have hsz : xb.size = c.size := by rw [hxs, HG.out.len n (List.mem_of_getElem? hn), HH.out.2.2]
    have kf := Br.far_any xb c hsz (by omega) W
    rw [hxb] at kf
    have hcase := hse.out.case
    rw [Bk.code_at hn] at hcase
    have hfl := Bk.far_le n.code c.data.toList
    rw [← hxs] at hfl
    obtain ⟨d, hd⟩ : ∃ d, Bk.far n.code c.data.toList = d := ⟨_, rfl⟩
    rw [hd] at kf hcase hfl
    have kc := hcl i d
    clear d1 d2 d3 hn hse hxb hxs hd
    rcases hcase with ⟨rfl, rfl, hch⟩ | ⟨k, hch, hse2⟩
    · rw [hch] at kc
      unfold Br.idx at kc
      have HC := Lib.hid hch
      clear hch hcl
      have u2 : decide ((-1 : Int) < 0) = true := by decide
      go_wp2_with (first | (go_at_call 57; refine kf.mono ?_; clear kf; rintro e w2 ⟨rfl, rfl⟩) | (go_at_call 58; refine kc.mono ?_; clear kc; rintro e w2 ⟨rfl, rfl⟩) | (at_builtin; refine Br.wpList_append_one rfl _ _ 45 rfl 0 75 i0 (.agg #[.string ⟨#[]⟩, .bool false, .int .i64 0, .int .i64 0]) 4 40 Tryz.underlying45 hi hz0 hz1 hz2 rfl (by decide) (.slice (some ⟨g, 0, none⟩) T.l.length cap) T.l.length _ rfl (hS.row.alloc _) ⟨W.heap.size, 0, none⟩ 1 [.string c, .bool true, .int .i64 (i : Nat), .int .i64 (d : Nat)] rfl rfl (Br.cells4 _ _ _ _ _ _) (by simp [Value.oneCell']) (by unfold maxLen; omega) (by decide) (by omega) (by omega) (Nat.zero_le _) ?_; intro v' w3 hown' hg' hat; obtain ⟨A', cp', rfl⟩ := Bk.row_form hown'; have B3 := (hS.tree.alloc (.cells #[.string c, .bool true, .int .i64 (i : Nat), .int .i64 (d : Nat)] 75)).grown hg' hne; have b1 := B3.cell 1; have f1 := B3.frozen 1; have HO := Lib.hid (And.intro hown' (And.intro hg' hat)); clear hown' hg' hat B3))
      refine bodyPost_ret (results_none rfl _ _ _) rfl ?_
      refine ⟨rfl, ?_⟩
      rw [HH.out.1]
      exact hS.grow _ _ (by
        have := HO.out.1
        unfold Br.nc
        rw [Tx.v_eq (b := c) rfl]
        exact this) HO.out.2.1 HO.out.2.2
    · rw [hch] at kc
      unfold Br.idx at kc
      obtain ⟨h1, h2⟩ := HG.out.child_lt hch
      have HC := Lib.hid hse2
      clear hch hcl hse2
      have u2 : decide ((k : Int) < 0) = false := decide_eq_false (by omega)
      go_wp2_with (first | (go_at_call 57; refine kf.mono ?_; clear kf; rintro e w2 ⟨rfl, rfl⟩) | (go_at_call 58; refine kc.mono ?_; clear kc; rintro e w2 ⟨rfl, rfl⟩))
      go_roundg (T.l.length - k)
      case measure => omega
      case rel => exact ⟨k, rfl, rfl, h2, rfl, HC⟩
theorem Br.hang_any (h : Br.At W t T F) (hG : Bk.Good T.w T.l) (hw : T.w ≤ 1024) (hl : T.l.length ≤ 4398046511103) (c : ByteArray) (hc : c.size = T.w / 8) :
    Calls Tryz.prog 43 #[.pointer (some ⟨t, 0, none⟩), .string c] W fun e W' => e = .returned (.tuple #[]) ∧ Br.Moved W W' t F { T with l := Bk.hang T.l c.data.toList } := by
  by_cases h0 : T.l = []
  · exact Br.hang_nil h h0 c (by omega)
  · exact Br.hang_some h h0 hG hw hl c hc
end
end Go.Proofs.YtikhahkmebkccaaGreatDoor
