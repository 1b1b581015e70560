/- The law TreeLists: what stands beside the trees. Conditions: each theorem's own hypotheses. -/
import Derived.Test.YtikhahkmebkccaaGreatDoorBrR
namespace Go.Proofs.YtikhahkmebkccaaGreatDoor
open Go.RowKit Go.Maps Go.Sort Go.Shelf
set_option linter.unusedVariables false
set_option linter.unusedSimpArgs false

theorem Br.told_ask {W : World} {t : Nat} {T : Bk.T} {F : Nat → Prop} (h : Br.Tree W t T F) (hl : T.l.length ≤ 4398046511104) (c : ByteArray) (hc : c.size ≤ 9223372036854775807) (kd n : Int) (hk : kd = 4 ∨ kd = 5) :
    Calls Tryz.prog 10 #[.pointer (some ⟨t, 0, none⟩), .agg #[.int .i64 kd, .string c, .int .i64 n]] W (Br.Did W t F (Bk.run T kd c.data.toList n)) := by
  rcases hk with rfl | rfl
  · exact Br.told_within h hl c hc n
  · exact Br.told_nearest h hl c hc n
section
variable {W X X1 X2 : World} {t d : Nat} {T T' : Bk.T} {F F' G G' : Nat → Prop}
theorem Br.Ex1.later (h : Br.Ex1 W t d T T' F F' G X X1) (hb : Below X1.heap.size X1 X2) : Br.Ex1 W t d T T' F F' G X X2 :=
  ⟨h.bk.later hb (Nat.le_refl _), h.br.keep fun k hk => hb.block k (h.br.at'.lt hk), h.bel.trans (hb.mono h.bel.size), h.fge, h.gge, h.dis, h.only.trans (.of hb), h.new⟩
end
/-- Lists that were handed out, beside the two trees; K: blocks that stay. -/
structure Br.Lx (W : World) (t d : Nat) (Y : World) (K : Nat → Prop) (T : Bk.T) (F G : Nat → Prop) (vs : List (Value × Nat)) (Al : Option Addr) (cl : Nat) (X : World) : Prop where
  ex : Br.Ex W t d T F G X
  slim : Bk.Slim T
  tl : T.l.length ≤ 4398046511104
  row : X.ownsRow W.heap.size 28 1 (.slice Al vs.length cl) vs.length (vs.map fun p => p.1)
  rows : ∀ (i : Nat) (p : Value × Nat), vs[i]? = some p → ∃ xs, X.ownsRow W.heap.size 61 3 p.1 p.2 xs
  len : ∀ p ∈ vs, p.2 ≤ 4398046511104
  dis : ∀ (i j : Nat) (p q : Value × Nat) (b : Nat), vs[i]? = some p → vs[j]? = some q → p.1.ownBlock = some b → q.1.ownBlock = some b → i = j
  off : ∀ p ∈ vs, ∀ b, p.1.ownBlock = some b → (Value.slice Al vs.length cl).ownBlock ≠ some b
  sep : ∀ p ∈ vs, ∀ b, p.1.ownBlock = some b → ¬ (F b ∨ G b) ∧ ¬ K b
  sepl : ∀ b, (Value.slice Al vs.length cl).ownBlock = some b → ¬ (F b ∨ G b) ∧ ¬ K b
  kept : ∀ b, K b → X.heap[b]? = Y.heap[b]? ∧ b < X.heap.size ∧ ¬ (F b ∨ G b)
section
variable {W X X' Y : World} {t d : Nat} {K : Nat → Prop} {T T' : Bk.T} {F F' G G' : Nat → Prop} {vs : List (Value × Nat)} {Al : Option Addr} {cl : Nat}
theorem Br.Lx.ap (h : Br.Lx W t d Y K T F G vs Al cl X) : Br.Ap W.heap.size vs (.slice Al vs.length cl) X := ⟨h.row, h.rows, h.len, h.dis, h.off⟩
theorem Br.Lx.plt (h : Br.Lx W t d Y K T F G vs Al cl X) {p : Value × Nat} (hp : p ∈ vs) {b : Nat} (hb : p.1.ownBlock = some b) : W.heap.size ≤ b ∧ b < X.heap.size := by
  obtain ⟨i, hi⟩ := List.getElem?_of_mem hp
  obtain ⟨xs, hx⟩ := h.rows i p hi
  exact hx.lt b hb
theorem Br.Lx.move (h : Br.Lx W t d Y K T F G vs Al cl X) (hex : Br.Ex W t d T' F' G' X') (ho : Bk.Only (fun k => F k ∨ G k) X X') (hn : ∀ k, F' k ∨ G' k → (F k ∨ G k) ∨ X.heap.size ≤ k) (hsl : Bk.Slim T') (htl : T'.l.length ≤ 4398046511104) : Br.Lx W t d Y K T' F' G' vs Al cl X' := by
  have hs := ho.size
  have hno : ∀ b, b < X.heap.size → ¬ (F b ∨ G b) → ¬ (F' b ∨ G' b) := fun b hb h1 h2 => (hn b h2).elim h1 fun e => by omega
  refine ⟨hex, hsl, htl, Bk.own_of h.row fun b hb => ho.block b (h.row.lt b hb).2 (h.sepl b hb).1, fun i p hp => ?_, h.len, h.dis, h.off, fun p hp b hb => ⟨hno b (h.plt hp hb).2 (h.sep p hp b hb).1, (h.sep p hp b hb).2⟩, fun b hb => ⟨hno b (h.row.lt b hb).2 (h.sepl b hb).1, (h.sepl b hb).2⟩, fun b hb => ?_⟩
  · obtain ⟨xs, hx⟩ := h.rows i p hp
    exact ⟨xs, Bk.own_of hx fun b hb => ho.block b (hx.lt b hb).2 (h.sep p (List.mem_of_getElem? hp) b hb).1⟩
  · obtain ⟨k1, k2, k3⟩ := h.kept b hb
    exact ⟨(ho.block b k2 k3).trans k1, by omega, hno b k2 k3⟩
theorem Br.Lx.push (h : Br.Lx W t d Y K T F G vs Al cl X) {v : Value} {n : Nat} {xs : List Value} (hv : X.ownsRow W.heap.size 61 3 v n xs) (hn : n ≤ 4398046511104) (hvd : ∀ p ∈ vs, ∀ b, p.1.ownBlock = some b → v.ownBlock ≠ some b) (hvl : ∀ b, v.ownBlock = some b → (Value.slice Al vs.length cl).ownBlock ≠ some b) (hvs : ∀ b, v.ownBlock = some b → ¬ (F b ∨ G b) ∧ ¬ K b)
    (o : Obj) {A' : Option Addr} {c' : Nat} (hr : X'.ownsRow W.heap.size 28 1 (.slice A' (vs.length + 1) c') (vs.length + 1) ((vs.map fun p => p.1) ++ [v])) (hg : (X.alloc o).grownBy X' (Value.slice Al vs.length cl).ownBlock)
    (hat : (Value.slice A' (vs.length + 1) c').ownBlock = (Value.slice Al vs.length cl).ownBlock ∨ (Value.slice A' (vs.length + 1) c').ownBlock = some (X.alloc o).heap.size) :
    Br.Lx W t d Y K T F G (vs ++ [(v, n)]) A' c' X' := by
  have hsz : (X.alloc o).heap.size = X.heap.size + 1 := World.size_alloc _ _
  have hgs := hg.size
  have hlen : (vs ++ [(v, n)]).length = vs.length + 1 := by simp
  have keep : ∀ b, b < X.heap.size → (Value.slice Al vs.length cl).ownBlock ≠ some b → X'.heap[b]? = X.heap[b]? := fun b hb hn => (hg.block b (by omega) fun e => hn e.symm).trans (Below.heap_alloc X o b hb)
  have ho : Bk.Only (fun b => (Value.slice Al vs.length cl).ownBlock = some b) X X' := ⟨hg.os, hg.tape, hg.output, by omega, fun b hb hn => keep b hb hn⟩
  have hbel : Below W.heap.size W X' := h.ex.bel.trans (ho.below h.ex.bel.size fun b hb => (h.row.lt b hb).1)
  have hnew : ∀ b, b < X.heap.size → (Value.slice Al vs.length cl).ownBlock ≠ some b → (Value.slice A' (vs.length + 1) c').ownBlock ≠ some b := fun b hb hn e => by
    rcases hat with h1 | h1
    · exact hn (h1.symm.trans e)
    · rw [h1] at e
      have := Option.some.inj e
      omega
  have get : ∀ (i : Nat) (p : Value × Nat), (vs ++ [(v, n)])[i]? = some p → vs[i]? = some p ∨ (i = vs.length ∧ p = (v, n)) := fun i p hp => by
    by_cases e : i < vs.length
    · rw [List.getElem?_append_left e] at hp; exact .inl hp
    · have hi : i = vs.length := by
        have := (List.getElem?_eq_some_iff.1 hp).1
        rw [hlen] at this
        omega
      subst hi
      rw [List.getElem?_append_right (Nat.le_refl _), Nat.sub_self] at hp
      exact .inr ⟨rfl, (Option.some.inj hp).symm⟩
  have mem : ∀ p ∈ vs ++ [(v, n)], p ∈ vs ∨ p = (v, n) := fun p hp => (List.mem_append.1 hp).imp id fun e => List.mem_singleton.1 e
  refine ⟨h.ex.apart ho (fun j hj hk => (h.sepl j hk).1 hj) hbel, h.slim, h.tl, ?_, fun i p hp => ?_, fun p hp => ?_, fun i j p q b hp hq hb hb' => ?_, fun p hp b hb => ?_, fun p hp b hb => ?_, fun b hb => ?_, fun b hb => ?_⟩
  · rw [hlen, List.map_append]; exact hr
  · rcases get i p hp with h1 | ⟨_, rfl⟩
    · obtain ⟨ys, hy⟩ := h.rows i p h1
      exact ⟨ys, Bk.own_of hy fun b hb => keep b (hy.lt b hb).2 (h.off p (List.mem_of_getElem? h1) b hb)⟩
    · exact ⟨xs, Bk.own_of hv fun b hb => keep b (hv.lt b hb).2 (hvl b hb)⟩
  · rcases mem p hp with h1 | rfl
    · exact h.len p h1
    · exact hn
  · rcases get i p hp with h1 | ⟨rfl, rfl⟩ <;> rcases get j q hq with h2 | ⟨rfl, rfl⟩
    · exact h.dis i j p q b h1 h2 hb hb'
    · exact absurd hb' (hvd p (List.mem_of_getElem? h1) b hb)
    · exact absurd hb (hvd q (List.mem_of_getElem? h2) b hb')
    · rfl
  · rw [hlen]
    rcases mem p hp with h1 | rfl
    · exact hnew b (h.plt h1 hb).2 (h.off p h1 b hb)
    · exact hnew b (hv.lt b hb).2 (hvl b hb)
  · rcases mem p hp with h1 | rfl
    · exact h.sep p h1 b hb
    · exact hvs b hb
  · rw [hlen] at hb
    rcases hat with h1 | h1
    · exact h.sepl b (h1.symm.trans hb)
    · rw [h1] at hb
      have e := Option.some.inj hb
      refine ⟨fun hf => ?_, fun hk => ?_⟩
      · have := h.ex.lt hf; omega
      · have := (h.kept b hk).2.1; omega
  · obtain ⟨k1, k2, k3⟩ := h.kept b hb
    exact ⟨(keep b k2 fun e => (h.sepl b e).2 hb).trans k1, by omega, k3⟩
end
theorem Br.zero_cells (n j : Nat) (hj : j < (List.replicate n (0 : UInt8)).length) : (madeCells #[.int .u8 0] n)[j]? = some (.int .u8 ((List.replicate n (0 : UInt8))[j].toNat : Int)) := by
  have hl : j < n := by simpa using hj
  rw [← Array.getElem?_toList, toList_madeCells_one, List.getElem?_replicate, if_pos hl, List.getElem_replicate]; rfl
theorem Br.zero_conv (n : Nat) (X : World) (g : Nat) (h : Blk X g 5 (madeCells #[.int .u8 0] n)) :
    (convert 37 9 (.slice (some ⟨g, 0, none⟩) n n)).run Tryz.prog X = .ok (Tx.v (List.replicate n 0)) X := by
  have := run_convert_bytes_back X 37 9 5 ⟨g, 0, none⟩ n (List.replicate n 0) Tryz.underlying37 Tryz.underlying5 Tryz.underlying9 fun j hj => by
    rw [Bk.addr_add, h.cell]
    exact Br.zero_cells n j hj
  rw [List.length_replicate] at this
  exact this
theorem Br.u8Info : (Tryz.prog.info? 5).map (fun i => (i.zero, i.size, i.bytes)) = some (some (.int .u8 0), 1, 1) := by kernel_rfl
end Go.Proofs.YtikhahkmebkccaaGreatDoor
/- The law TreeLists, the walk. Conditions: each theorem's own hypotheses. -/
namespace Go.Proofs.YtikhahkmebkccaaGreatDoor
open Go.RowKit Go.Maps Go.Sort Go.Shelf
set_option linter.unusedVariables false
set_option linter.unusedSimpArgs false

theorem Br.run_l {T : Bk.T} {k : Int} (h1 : k ≠ 1) (h2 : k ≠ 2) (c : List UInt8) (n : Int) : (Bk.run T k c n).1.l = T.l := by
  unfold Bk.run
  rw [if_neg h1, if_neg h2]
  split
  · rfl
  split
  · exact (Bk.within_l T c n).1
  split
  · exact (Bk.nearest_l T c n).1
  split <;> rfl
/-- Calls, as cells. -/
def Br.ocs (L : List Bk.O) : List Value := L.flatMap fun x => [.int .i64 x.k, .string x.c, .int .i64 x.n]
theorem Br.ocs_get : ∀ (L : List Bk.O) (i : Nat) (x : Bk.O), L[i]? = some x → (Br.ocs L)[i * 3]? = some (.int .i64 x.k) ∧ (Br.ocs L)[i * 3 + 1]? = some (.string x.c) ∧ (Br.ocs L)[i * 3 + 2]? = some (.int .i64 x.n)
  | [], _, _, e => by simp at e
  | y :: L, 0, x, e => by
    obtain rfl : y = x := by simpa using e
    exact ⟨rfl, rfl, rfl⟩
  | y :: L, i + 1, x, e => by
    have ih := Br.ocs_get L i x (by simpa using e)
    have e1 : Br.ocs (y :: L) = .int .i64 y.k :: .string y.c :: .int .i64 y.n :: Br.ocs L := rfl
    rw [e1, show (i + 1) * 3 = i * 3 + 3 by omega]
    exact ih
/-- The ten calls. -/
def Br.asks (q z : ByteArray) (r k w : Int) : List Bk.O := [⟨4, q, r⟩, ⟨4, q, r⟩, ⟨4, z, w⟩, ⟨4, z, w⟩, ⟨4, q, r⟩, ⟨5, q, k⟩, ⟨5, q, k⟩, ⟨5, z, 3⟩, ⟨5, z, 3⟩, ⟨5, q, k⟩]
theorem Br.asks_in (q z : ByteArray) (r k w : Int) : ∀ x ∈ Br.asks q z r k w, (x.k = 4 ∨ x.k = 5) ∧ (x.c = q ∨ x.c = z) := by
  intro x hx
  simp only [Br.asks, List.mem_cons, List.not_mem_nil, or_false] at hx
  rcases hx with rfl | rfl | rfl | rfl | rfl | rfl | rfl | rfl | rfl | rfl <;> simp
/-- Between two of the ten. -/
def Br.LR (W : World) (t d : Nat) (Y : World) (K : Nat → Prop) (m : Nat) (vl v : Value) (wr : World) : Prop :=
  ∃ (i : Nat) (T : Bk.T) (F G : Nat → Prop) (vs : List (Value × Nat)) (Al : Option Addr) (cl : Nat), m + i = 10 ∧ vs.length = i ∧ v = .int .i64 (i : Nat) ∧ vl = .slice Al vs.length cl ∧ Br.Lx W t d Y K T F G vs Al cl wr
/-- A call that stands in a block of its own. -/
theorem Br.ccc_of {w : World} {b ty : Nat} {x y z : Value} (h : Blk w b ty #[x, y, z]) : w.cell? ⟨b, 0, none⟩ = some x ∧ w.cell? ⟨b, 1, none⟩ = some y ∧ w.cell? ⟨b, 2, none⟩ = some z :=
  ⟨(h.cell 0).trans rfl, (h.cell 1).trans rfl, (h.cell 2).trans rfl⟩
set_option maxRecDepth 100000 in
set_option maxHeartbeats 32000000 in
theorem Br.lists_law (w0 : Int) (L : List Bk.O) (A : Option Addr) (c : Nat) (qb : ByteArray) (r kk : Int) (W : World) (hI : Bk.Ops W W.heap.size A L) (hn : L.length ≤ 4398046511104) (hs : ∀ x ∈ L, x.c.size ≤ 140737488355328) (hqb : qb.size ≤ 140737488355328) (hT : TabO W) :
    Calls Tryz.prog 5 #[.int .i64 w0, .slice A L.length c, .string qb, .int .i64 r, .int .i64 kk] W fun e W' => e = .returned (.bool true) ∧ Below W.heap.size W W' := by
  obtain ⟨il, hil, hl0, hl1, hl2⟩ := info_parts Br.listInfo
  cases hw : Bt.wide w0 with
  | false =>
    have hnew := fun W' => Bk.new_none w0 hw W'
    have hnew2 := fun W' => Br.new_none w0 hw W'
    go_enter Tryz.func5, Tryz.ntmps5
    go_wp2_with (first | (go_at_call 6; refine (hnew _).mono ?_; clear hnew; rintro e w2 ⟨rfl, rfl⟩) | (go_at_call 7; refine (hnew2 _).mono ?_; clear hnew2; rintro e w2 ⟨rfl, rfl⟩))
    go_ret
    exact ⟨rfl, Below.refl _ _⟩
  | true =>
    obtain ⟨w, rfl⟩ : ∃ w : Nat, w0 = (w : Int) := ⟨w0.toNat, by have := Bt.wide_in hw; omega⟩
    have hwl := Bt.wide_in hw
    have hnew := Bk.new_tree w hw W hT
    have hnew2 := fun W' => Br.new_any w hw W'
    go_enter Tryz.func5, Tryz.ntmps5
    go_upto_region 3 with (first | (go_at_call 6; refine hnew.mono ?_; clear hnew; rintro e w1 ⟨t, F0, rfl, h1, h2, h3, h4⟩) | (go_at_call 7; refine (hnew2 _).mono ?_; clear hnew2; rintro e w2 ⟨d, G0, rfl, k1, k2, k3⟩))
    have hex : Br.Ex W t d ⟨w, [], 0⟩ F0 G0 w2 := ⟨h1.later k2 (Nat.le_refl _), ⟨k1, Bk.Good.nil w, hw⟩, h2.trans (k2.mono h2.size), h3, fun j hj => Nat.le_trans h2.size (k3 j hj), fun j hj hf => by have := k3 j hj; have := h1.at'.lt hf; omega⟩
    have HS := Lib.hid (show Br.XR W t d L.length w L.length (.int .i64 ((0 : Nat) : Int)) w2 from ⟨0, ⟨w, [], 0⟩, F0, G0, by omega, rfl, hex, by unfold Bk.Slim; simp, Nat.le_refl _⟩)
    clear hex h1 h2 h3 h4 k1 k2 k3
    go_upto_region 8 with fail
    go_loopg [13] L.length (fun m i wr => Br.XR W t d L.length w m i wr)
    case atStart => exact HS.out
    case round =>
      clear HS F0 G0 w2
      obtain ⟨k, T, F, G, hmk, rfl, hex, hsl, hlk⟩ := hrel
      by_cases hkn : k = L.length
      · have u1 : decide (k < L.length) = false := decide_eq_false (by omega)
        have hTl : T.l.length ≤ 4398046511104 := by omega
        clear hmk hkn
        obtain ⟨w8, hw8⟩ : ∃ w8, w / 8 = w8 := ⟨_, rfl⟩
        have e8 : Int.tdiv (w : Int) 8 = (w8 : Int) := by rw [← hw8]; rfl
        have hw9 : w8 ≤ 128 := by omega
        have hmk := fun W => run_make_row' (P := Tryz.prog) 37 5 (.int .u8 0) 1 Tryz.underlying37 Br.u8Info rfl .i64 .i64 w8 (by omega) (by omega) W
        obtain ⟨zb, hzb, hzs⟩ := Tx.of (List.replicate w8 (0 : UInt8))
        have hcv := Br.zero_conv w8 (wr.alloc (.cells (madeCells #[.int .u8 0] w8) 5)) wr.heap.size (Blk.new wr 5 _)
        rw [Tx.v_eq hzb] at hcv
        rw [List.length_replicate] at hzs
        clear hzb hw8
        go_upto_region 13 with fail
        have E1 := hex.later ((Below.refl _ wr).alloc (Nat.le_refl _) (.cells (madeCells #[.int .u8 0] w8) 5))
        have hlt : ∀ j, F j ∨ G j → j < wr.heap.size := fun j hj => hex.lt hj
        have hz1 : (wr.alloc (.cells (madeCells #[.int .u8 0] w8) 5)).heap.size = wr.heap.size + 1 := World.size_alloc _ _
        clear hcv hmk hex
        generalize wr.alloc (.cells (madeCells #[.int .u8 0] w8) 5) = w1' at *
        have hlt1 : ∀ j, F j ∨ G j → j < w1'.heap.size := fun j hj => by have := hlt j hj; omega
        clear hlt hz1
        go_upto_region 17 with fail
        have hb5 := ((((Below.refl _ w1').alloc (Nat.le_refl _) (.cells #[.int .i64 4, .string qb, .int .i64 r] 33)).alloc (by simp) (.cells #[.int .i64 5, .string qb, .int .i64 kk] 33)).alloc (by simp; omega) (.cells #[.int .i64 4, .string zb, .int .i64 (w : Nat)] 33)).alloc (by simp; omega) (.cells #[.int .i64 5, .string zb, .int .i64 3] 33)
        have n1 := (((Blk.new w1' 33 #[.int .i64 4, .string qb, .int .i64 r]).alloc (.cells #[.int .i64 5, .string qb, .int .i64 kk] 33)).alloc (.cells #[.int .i64 4, .string zb, .int .i64 (w : Nat)] 33)).alloc (.cells #[.int .i64 5, .string zb, .int .i64 3] 33)
        have n2 := ((Blk.new (w1'.alloc (.cells #[.int .i64 4, .string qb, .int .i64 r] 33)) 33 #[.int .i64 5, .string qb, .int .i64 kk]).alloc (.cells #[.int .i64 4, .string zb, .int .i64 (w : Nat)] 33)).alloc (.cells #[.int .i64 5, .string zb, .int .i64 3] 33)
        have n3 := (Blk.new ((w1'.alloc (.cells #[.int .i64 4, .string qb, .int .i64 r] 33)).alloc (.cells #[.int .i64 5, .string qb, .int .i64 kk] 33)) 33 #[.int .i64 4, .string zb, .int .i64 (w : Nat)]).alloc (.cells #[.int .i64 5, .string zb, .int .i64 3] 33)
        have n4 := Blk.new (((w1'.alloc (.cells #[.int .i64 4, .string qb, .int .i64 r] 33)).alloc (.cells #[.int .i64 5, .string qb, .int .i64 kk] 33)).alloc (.cells #[.int .i64 4, .string zb, .int .i64 (w : Nat)] 33)) 33 #[.int .i64 5, .string zb, .int .i64 3]
        simp only [World.size_alloc] at n2 n3 n4
        have hz5 : ((((w1'.alloc (.cells #[.int .i64 4, .string qb, .int .i64 r] 33)).alloc (.cells #[.int .i64 5, .string qb, .int .i64 kk] 33)).alloc (.cells #[.int .i64 4, .string zb, .int .i64 (w : Nat)] 33)).alloc (.cells #[.int .i64 5, .string zb, .int .i64 3] 33)).heap.size = w1'.heap.size + 1 + 1 + 1 + 1 := by simp
        have E5 := E1.later hb5
        clear E1 hb5
        generalize (((w1'.alloc (.cells #[.int .i64 4, .string qb, .int .i64 r] 33)).alloc (.cells #[.int .i64 5, .string qb, .int .i64 kk] 33)).alloc (.cells #[.int .i64 4, .string zb, .int .i64 (w : Nat)] 33)).alloc (.cells #[.int .i64 5, .string zb, .int .i64 3] 33) = w5 at n1 n2 n3 n4 hz5 E5 ⊢
        generalize hnb : w1'.heap.size = nb at *
        clear hnb w1'
        have a0 := n1.cell 0
        have a1 := n1.cell 1
        have a2 := n1.cell 2
        have b0 := n2.cell 0
        have b1 := n2.cell 1
        have b2 := n2.cell 2
        have c0 := n3.cell 0
        have c1 := n3.cell 1
        have c2 := n3.cell 2
        have d0 := n4.cell 0
        have d1 := n4.cell 1
        have d2 := n4.cell 2
        simp only [List.getElem?_toArray, List.getElem?_cons_zero, List.getElem?_cons_succ] at a0 a1 a2 b0 b1 b2 c0 c1 c2 d0 d1 d2
        have HZ5 := Lib.hid hz5
        clear hz5
        go_upto_region 18 with fail
        have hb6 := (Below.refl _ w5).alloc (Nat.le_refl _) (.cells #[.int .i64 4, .string qb, .int .i64 r, .int .i64 4, .string qb, .int .i64 r, .int .i64 4, .string zb, .int .i64 (w : Nat), .int .i64 4, .string zb, .int .i64 (w : Nat), .int .i64 4, .string qb, .int .i64 r, .int .i64 5, .string qb, .int .i64 kk, .int .i64 5, .string qb, .int .i64 kk, .int .i64 5, .string zb, .int .i64 3, .int .i64 5, .string zb, .int .i64 3, .int .i64 5, .string qb, .int .i64 kk] 33)
        have E6 := E5.later hb6
        have m1 := n1.alloc (.cells #[.int .i64 4, .string qb, .int .i64 r, .int .i64 4, .string qb, .int .i64 r, .int .i64 4, .string zb, .int .i64 (w : Nat), .int .i64 4, .string zb, .int .i64 (w : Nat), .int .i64 4, .string qb, .int .i64 r, .int .i64 5, .string qb, .int .i64 kk, .int .i64 5, .string qb, .int .i64 kk, .int .i64 5, .string zb, .int .i64 3, .int .i64 5, .string zb, .int .i64 3, .int .i64 5, .string qb, .int .i64 kk] 33)
        have m2 := n2.alloc (.cells #[.int .i64 4, .string qb, .int .i64 r, .int .i64 4, .string qb, .int .i64 r, .int .i64 4, .string zb, .int .i64 (w : Nat), .int .i64 4, .string zb, .int .i64 (w : Nat), .int .i64 4, .string qb, .int .i64 r, .int .i64 5, .string qb, .int .i64 kk, .int .i64 5, .string qb, .int .i64 kk, .int .i64 5, .string zb, .int .i64 3, .int .i64 5, .string zb, .int .i64 3, .int .i64 5, .string qb, .int .i64 kk] 33)
        have m5 := Blk.new w5 33 #[.int .i64 4, .string qb, .int .i64 r, .int .i64 4, .string qb, .int .i64 r, .int .i64 4, .string zb, .int .i64 (w : Nat), .int .i64 4, .string zb, .int .i64 (w : Nat), .int .i64 4, .string qb, .int .i64 r, .int .i64 5, .string qb, .int .i64 kk, .int .i64 5, .string qb, .int .i64 kk, .int .i64 5, .string zb, .int .i64 3, .int .i64 5, .string zb, .int .i64 3, .int .i64 5, .string qb, .int .i64 kk]
        have hz6 : (w5.alloc (.cells #[.int .i64 4, .string qb, .int .i64 r, .int .i64 4, .string qb, .int .i64 r, .int .i64 4, .string zb, .int .i64 (w : Nat), .int .i64 4, .string zb, .int .i64 (w : Nat), .int .i64 4, .string qb, .int .i64 r, .int .i64 5, .string qb, .int .i64 kk, .int .i64 5, .string qb, .int .i64 kk, .int .i64 5, .string zb, .int .i64 3, .int .i64 5, .string zb, .int .i64 3, .int .i64 5, .string qb, .int .i64 kk] 33)).heap.size = w5.heap.size + 1 := World.size_alloc _ _
        have hz5 := HZ5.out
        clear a0 a1 a2 b0 b1 b2 c0 c1 c2 d0 d1 d2 n1 n2 n3 n4 E5 hb6
        generalize w5.alloc (.cells #[.int .i64 4, .string qb, .int .i64 r, .int .i64 4, .string qb, .int .i64 r, .int .i64 4, .string zb, .int .i64 (w : Nat), .int .i64 4, .string zb, .int .i64 (w : Nat), .int .i64 4, .string qb, .int .i64 r, .int .i64 5, .string qb, .int .i64 kk, .int .i64 5, .string qb, .int .i64 kk, .int .i64 5, .string zb, .int .i64 3, .int .i64 5, .string zb, .int .i64 3, .int .i64 5, .string qb, .int .i64 kk] 33) = w6 at m1 m2 m5 hz6 E6 ⊢
        generalize hab : w5.heap.size = ab at *
        clear hab HZ5 w5
        have hLx : Br.Lx W t d w6 (fun b => b = nb ∨ b = nb + 1 ∨ b = ab) T F G [] none 0 w6 :=
          ⟨E6, hsl, hTl, ⟨rfl, .inl ⟨rfl, rfl⟩⟩, fun i p hp => (by simp at hp), fun p hp => (by cases hp), fun i j p q b hp => (by simp at hp), fun p hp => (by cases hp), fun p hp => (by cases hp), fun b hb => (by simp [Value.ownBlock] at hb), fun b hb => ⟨rfl, by omega, fun hf => by have := hlt1 b hf; omega⟩⟩
        have HL := Lib.hid (show Br.LR W t d w6 (fun b => b = nb ∨ b = nb + 1 ∨ b = ab) 10 (.slice none 0 0) (.int .i64 ((0 : Nat) : Int)) w6 from ⟨0, T, F, G, [], none, 0, rfl, rfl, rfl, rfl, hLx⟩)
        have HM := Lib.hid (And.intro m1 (And.intro m2 m5))
        have HZ := Lib.hid (And.intro hz6 hz5)
        clear hLx E6 m1 m2 m5 hz6 hz5 hlt1 hsl hTl hlk
        go_upto_region 20 with fail
        go_loopg [20, 21] 10 (fun m vl v wr => Br.LR W t d w6 (fun b => b = nb ∨ b = nb + 1 ∨ b = ab) m vl v wr)
        case atStart => exact HL.out
        case round =>
          clear HL u1
          obtain ⟨i, T, F, G, vs, Al, cl, hmi, hvi, rfl, rfl, hLx⟩ := hrel
          by_cases hi10 : i = 10
          · have u1 : decide ((i : Int) < 10) = false := decide_eq_false (by omega)
            have hap := Br.apart_any hLx.ap hLx.ex.bel.size (by omega)
            have HLx := Lib.hid hLx
            clear hmi hvi hLx hi10
            go_upto_region 28 with (go_at_call 11; refine hap.mono ?_; clear hap; rintro e x1 ⟨rfl, hon⟩)
            have hLx := HLx.out
            have E1 : Br.Ex W t d T F G x1 := hLx.ex.apart hon (fun j hj hb => by obtain ⟨p, hp, hb⟩ := hb; exact (hLx.sep p hp j hb).1 hj) (hLx.ex.bel.trans (hon.below hLx.ex.bel.size fun j hj => by obtain ⟨p, hp, hb⟩ := hj; exact (hLx.plt hp hb).1))
            have kp : ∀ b, (b = nb ∨ b = nb + 1 ∨ b = ab) → x1.heap[b]? = w6.heap[b]? ∧ ¬ (F b ∨ G b) := fun b hb => by
              obtain ⟨k1, k2, k3⟩ := hLx.kept b hb
              exact ⟨(hon.block b k2 fun h => by obtain ⟨p, hp, hb'⟩ := h; exact (hLx.sep p hp b hb').2 hb).trans k1, k3⟩
            have n1 : Blk x1 nb 33 #[.int .i64 4, .string qb, .int .i64 r] := (kp nb (.inl rfl)).1.trans HM.out.1
            have n2 : Blk x1 (nb + 1) 33 #[.int .i64 5, .string qb, .int .i64 kk] := (kp (nb + 1) (.inr (.inl rfl))).1.trans HM.out.2.1
            have nf1 := (kp nb (.inl rfl)).2
            have nf2 := (kp (nb + 1) (.inr (.inl rfl))).2
            have hsl := hLx.slim
            have hTl := hLx.tl
            have HM2 := Lib.hid n2
            clear hLx kp hon n2 HLx HM HZ
            go_cut [25] (fun v X => ∃ (y1 : World) (T' : Bk.T) (F' G' : Nat → Prop), y1 = X ∧ v = .bool true ∧ Br.Ex W t d T' F' G' y1 ∧ Bk.Slim T' ∧ T'.l.length ≤ 4398046511104 ∧ Blk y1 (nb + 1) 33 #[.int .i64 5, .string qb, .int .i64 kk] ∧ ¬ (F' (nb + 1) ∨ G' (nb + 1)))
            case first =>
              have hnum := E1.bk.good.num hsl 4 qb.data.toList r
              have hrl := Br.run_l (T := T) (k := 4) (by omega) (by omega) qb.data.toList r
              have hdo := fun X (h : Br.Ex W t d T F G X) => Bk.do_any h.bk (hT.below h.bel (Nat.le_refl _)) hTl qb (by omega) 4 r
              have hto := fun X0 X F' T' (h : Br.Ex1 W t d T T' F F' G X0 X) => Br.told_ask h.br hTl qb (by omega) 4 r (.inl rfl)
              obtain ⟨R, hR⟩ : ∃ R, Bk.run T 4 qb.data.toList r = R := ⟨_, rfl⟩
              simp only [hR] at hdo hto
              rw [hR] at hnum hrl
              obtain ⟨T', yes, er, l, len, nodes, depth, looked⟩ := R
              unfold Bk.Did at hdo
              unfold Br.Did at hto
              dsimp only at hdo hto hrl
              have htl' : T'.l.length ≤ 4398046511104 := by rw [hrl]; exact hTl
              have hll : l.length ≤ 4611686018427387903 := by
                have h1 := hnum.hits
                have h2 := hnum.le
                simp only at h1 h2
                omega
              have hsm := fun X v1 v2 h1 h2 => Br.same_any (W := X) (v1 := v1) (v2 := v2) (l := l) h1 h2 hll yes er len nodes depth looked
              have HN := Lib.hid (And.intro hnum.slim htl')
              clear hnum hR hrl htl' hll
              have D1 := E1.dn 1
              have B1 : Blk (x1.drewN 1) (nb) 33 #[.int .i64 4, .string qb, .int .i64 r] := n1
              have e1w : x1.drewN 1 = x1.drew := rfl
              rw [e1w] at D1 B1
              have S1 := Br.ccc_of B1
              clear e1w E1 n1
              go_region_held3 (fun W' => W'.cell? ⟨nb, 0, none⟩ = some (.int .i64 4) ∧ W'.cell? ⟨nb, 1, none⟩ = some (.string qb) ∧ W'.cell? ⟨nb, 2, none⟩ = some (.int .i64 r))
                (first
                  | with_reducible assumption)
                (first
                  | (go_at_call 9; refine (hdo _ (by with_reducible assumption)).mono ?_; clear hdo; rintro e w15 ⟨v, F', rfl, hrow, htr, ho, hF', hvF, htab⟩; have E2 := D1.one htr ho hF'; have B2 := (ho.block (nb) B1.lt fun hf => nf1 (.inl hf)).trans B1; have S2 := Br.ccc_of B2)
                  | (go_at_call 10; refine (hto _ _ _ _ E2).mono ?_; clear hto; rintro e w16 ⟨v2, G', rfl, hrow2, htr2, ho2, hG', hvG⟩; have E3 := E2.two htr2 ho2 hG'; have B3 := (ho2.block (nb) (Blk.lt B2) fun hf => nf1 (.inr hf)).trans B2; have S3 := Br.ccc_of B3; have hrow3 := Bk.own_base (Bk.own_of hrow fun j hj => ho2.block j (hrow.lt j hj).2 fun hg => by have := (hrow.lt j hj).1; have := (E2.gge j hg).2; omega) (Nat.zero_le _); have hrow4 := Bk.own_base hrow2 (Nat.zero_le _))
                  | (go_at_call 8; refine (hsm _ _ _ hrow3 hrow4).mono ?_; rintro e w17 ⟨rfl, hb7⟩; have S4 := Br.ccc_of ((hb7.block (nb) (Blk.lt B3)).trans B3)))
              all_goals
                go_wp2_with fail
                go_meet
                have hl2 := Blk.lt HM2.out
                exact ⟨_, T', F', G', rfl, rfl, E3.1.later hb7, HN.out.1, HN.out.2, (hb7.block (nb + 1) (Nat.lt_of_lt_of_le hl2 E3.2.1.size)).trans ((E3.2.1.block (nb + 1) hl2 nf2).trans HM2.out), fun hf => (E3.2.2 _ hf).elim nf2 fun e => Nat.not_le.2 hl2 e⟩
            case rest =>
            obtain ⟨y1, T1, F1, G1, rfl, rfl, E1', hsl', hTl', n2', nf2'⟩ := hcut
            clear E1 n1 nf1 nf2 hsl hTl HM2
            go_upto_region 29 with fail
            go_cut [26] (fun v X => v = .bool true ∧ Below W.heap.size W X)
            case first =>
              have hnum := E1'.bk.good.num hsl' 5 qb.data.toList kk
              have hrl := Br.run_l (T := T1) (k := 5) (by omega) (by omega) qb.data.toList kk
              have hdo := fun X (h : Br.Ex W t d T1 F1 G1 X) => Bk.do_any h.bk (hT.below h.bel (Nat.le_refl _)) hTl' qb (by omega) 5 kk
              have hto := fun X0 X F' T' (h : Br.Ex1 W t d T1 T' F1 F' G1 X0 X) => Br.told_ask h.br hTl' qb (by omega) 5 kk (.inr rfl)
              obtain ⟨R, hR⟩ : ∃ R, Bk.run T1 5 qb.data.toList kk = R := ⟨_, rfl⟩
              simp only [hR] at hdo hto
              rw [hR] at hnum hrl
              obtain ⟨T', yes, er, l, len, nodes, depth, looked⟩ := R
              unfold Bk.Did at hdo
              unfold Br.Did at hto
              dsimp only at hdo hto hrl
              have htl' : T'.l.length ≤ 4398046511104 := by rw [hrl]; exact hTl'
              have hll : l.length ≤ 4611686018427387903 := by
                have h1 := hnum.hits
                have h2 := hnum.le
                simp only at h1 h2
                omega
              have hsm := fun X v1 v2 h1 h2 => Br.same_any (W := X) (v1 := v1) (v2 := v2) (l := l) h1 h2 hll yes er len nodes depth looked
              have HN := Lib.hid (And.intro hnum.slim htl')
              clear hnum hR hrl htl' hll
              have D1 := E1'.dn 1
              have B1 : Blk (y1.drewN 1) (nb + 1) 33 #[.int .i64 5, .string qb, .int .i64 kk] := n2'
              have e1w : y1.drewN 1 = y1.drew := rfl
              rw [e1w] at D1 B1
              have S1 := Br.ccc_of B1
              clear e1w E1' n2'
              go_region_held3 (fun W' => W'.cell? ⟨nb + 1, 0, none⟩ = some (.int .i64 5) ∧ W'.cell? ⟨nb + 1, 1, none⟩ = some (.string qb) ∧ W'.cell? ⟨nb + 1, 2, none⟩ = some (.int .i64 kk))
                (first
                  | with_reducible assumption)
                (first
                  | (go_at_call 9; refine (hdo _ (by with_reducible assumption)).mono ?_; clear hdo; rintro e w15 ⟨v, F', rfl, hrow, htr, ho, hF', hvF, htab⟩; have E2 := D1.one htr ho hF'; have B2 := (ho.block (nb + 1) B1.lt fun hf => nf2' (.inl hf)).trans B1; have S2 := Br.ccc_of B2)
                  | (go_at_call 10; refine (hto _ _ _ _ E2).mono ?_; clear hto; rintro e w16 ⟨v2, G', rfl, hrow2, htr2, ho2, hG', hvG⟩; have E3 := E2.two htr2 ho2 hG'; have B3 := (ho2.block (nb + 1) (Blk.lt B2) fun hf => nf2' (.inr hf)).trans B2; have S3 := Br.ccc_of B3; have hrow3 := Bk.own_base (Bk.own_of hrow fun j hj => ho2.block j (hrow.lt j hj).2 fun hg => by have := (hrow.lt j hj).1; have := (E2.gge j hg).2; omega) (Nat.zero_le _); have hrow4 := Bk.own_base hrow2 (Nat.zero_le _))
                  | (go_at_call 8; refine (hsm _ _ _ hrow3 hrow4).mono ?_; rintro e w17 ⟨rfl, hb7⟩; have S4 := Br.ccc_of ((hb7.block (nb + 1) (Blk.lt B3)).trans B3)))
              all_goals
                go_wp2_with fail
                go_meet
                exact ⟨rfl, E3.1.bel.trans (hb7.mono E3.1.bel.size)⟩
            case rest =>
            obtain ⟨rfl, hbl⟩ := hcut
            go_wp2_with fail
            go_ret
            exact ⟨rfl, hbl⟩
          · have u1 : decide ((i : Int) < 10) = true := decide_eq_true (by omega)
            obtain ⟨x, hx⟩ : ∃ x, (Br.asks qb zb r kk w)[i]? = some x := ⟨_, List.getElem?_eq_getElem (by show i < 10; omega)⟩
            obtain ⟨hk45, hxc⟩ := Br.asks_in qb zb r kk w x (List.mem_of_getElem? hx)
            obtain ⟨k1, k2, k3⟩ := hLx.kept ab (.inr (.inr rfl))
            have mab : Blk wr ab 33 (Br.ocs (Br.asks qb zb r kk w)).toArray := k1.trans HM.out.2.2
            obtain ⟨o0, o1, o2⟩ := Br.ocs_get _ i x hx
            have a0 : wr.cell? ⟨ab, i * 3, none⟩ = some (.int .i64 x.k) := by rw [mab.cell (i * 3), List.getElem?_toArray]; exact o0
            have a1 : wr.cell? ⟨ab, i * 3 + 1, none⟩ = some (.string x.c) := by rw [mab.cell (i * 3 + 1), List.getElem?_toArray]; exact o1
            have a2 : wr.cell? ⟨ab, i * 3 + 2, none⟩ = some (.int .i64 x.n) := by rw [mab.cell (i * 3 + 2), List.getElem?_toArray]; exact o2
            have hxs : x.c.size ≤ 140737488355328 := by rcases hxc with e | e <;> rw [e] <;> omega
            have hi9 : i < 10 := by omega
            have HX := Lib.hid (And.intro hmi (And.intro hvi (And.intro hk45 hx)))
            clear hx hxc o0 o1 o2 k1 hmi hi10 mab hvi
            obtain ⟨kd, cc, nn⟩ := x
            simp only at a0 a1 a2 hxs
            have hk45 : kd = 4 ∨ kd = 5 := HX.out.2.2.1
            have hrl := Br.run_l (T := T) (k := kd) (by omega) (by omega) cc.data.toList nn
            have hnum := hLx.ex.bk.good.num hLx.slim kd cc.data.toList nn
            have hdo := Bk.do_any hLx.ex.bk (hT.below hLx.ex.bel (Nat.le_refl _)) hLx.tl cc (by omega) kd nn
            have hto := fun X0 X F' T' (h : Br.Ex1 W t d T T' F F' G X0 X) => Br.told_ask h.br hLx.tl cc (by omega) kd nn hk45
            obtain ⟨R, hR⟩ : ∃ R, Bk.run T kd cc.data.toList nn = R := ⟨_, rfl⟩
            simp only [hR] at hdo hto
            rw [hR] at hnum hrl
            obtain ⟨T', yes, er, l, len, nodes, depth, looked⟩ := R
            unfold Bk.Did at hdo
            unfold Br.Did at hto
            dsimp only at hdo hto hrl
            have htl' : T'.l.length ≤ 4398046511104 := by rw [hrl]; exact hLx.tl
            have hll : l.length ≤ 4398046511104 := by
              have h1 := hnum.hits
              have h2 := hnum.le
              simp only at h1 h2
              omega
            have hsm := fun X v1 v2 h1 h2 => Br.same_any (W := X) (v1 := v1) (v2 := v2) (l := l) h1 h2 (by omega) yes er len nodes depth looked
            have HN := Lib.hid (And.intro hnum.slim htl')
            have HLx := Lib.hid hLx
            clear hnum hR hrl htl' hk45
            go_upto_region 23 with (go_at_call 9; refine hdo.mono ?_; clear hdo; rintro e x5 ⟨v, F', rfl, hrow, htr, ho, hF', hvF, htab⟩; obtain ⟨Av, cv, rfl⟩ := Bk.row_form hrow)
            have E2 := hLx.ex.one htr ho hF'
            have hox := ho.size
            have hG0 : ∀ j, G j → j < wr.heap.size := fun j hj => hLx.ex.lt (.inr hj)
            have hba := (Below.refl _ x5).alloc (Nat.le_refl _) (.cells #[.bool yes, .int .i64 er, .slice Av l.length cv, .int .i64 len, .int .i64 nodes, .int .i64 depth, .int .i64 looked] 30)
            have E2' := E2.later hba
            have hr1 := Bk.own_later hrow hba (Nat.le_refl _)
            have bg1 := Blk.new x5 30 #[.bool yes, .int .i64 er, .slice Av l.length cv, .int .i64 len, .int .i64 nodes, .int .i64 depth, .int .i64 looked]
            have eA := (Below.heap_alloc x5 (.cells #[.bool yes, .int .i64 er, .slice Av l.length cv, .int .i64 len, .int .i64 nodes, .int .i64 depth, .int .i64 looked] 30) ab (by omega)).trans (ho.block ab k2 fun hf => k3 (.inl hf))
            have a0' := (World.cell?_of_block (a := ⟨ab, i * 3, none⟩) eA).trans a0
            have a1' := (World.cell?_of_block (a := ⟨ab, i * 3 + 1, none⟩) eA).trans a1
            have a2' := (World.cell?_of_block (a := ⟨ab, i * 3 + 2, none⟩) eA).trans a2
            clear a0 a1 a2 eA htr ho hF' htab E2 hba hrow hLx
            generalize x5.alloc (.cells #[.bool yes, .int .i64 er, .slice Av l.length cv, .int .i64 len, .int .i64 nodes, .int .i64 depth, .int .i64 looked] 30) = x6 at *
            generalize hgb : x5.heap.size = gb at *
            have hgw : wr.heap.size ≤ gb := hox
            clear hgb hox x5
            go_upto_region 24 with (go_at_call 10; refine (hto _ _ _ _ E2').mono ?_; clear hto; rintro e x7 ⟨v2, G', rfl, hrow2, htr2, ho2, hG', hvG⟩; obtain ⟨Av2, cv2, rfl⟩ := Bk.row_form hrow2)
            have E3 := E2'.two htr2 ho2 hG'
            have bg2 : Blk x7 gb 30 _ := (ho2.block gb bg1.lt fun hg => by have := hG0 gb hg; omega).trans bg1
            have hr2 : x7.ownsRow wr.heap.size 61 3 (.slice Av l.length cv) l.length (Bk.hcs l) := Bk.own_of hr1 fun j hj => ho2.block j (hr1.lt j hj).2 fun hg => by have := hG0 j hg; have := (hr1.lt j hj).1; omega
            have hvG' : ∀ b, (Value.slice Av l.length cv).ownBlock = some b → ¬ G' b := fun b hb hg => by
              have := hr1.lt b hb
              rcases hG' b hg with h1 | h1
              · have := hG0 b h1; omega
              · omega
            have hbb := (Below.refl _ x7).alloc (Nat.le_refl _) (.cells #[.bool yes, .int .i64 er, .slice Av2 l.length cv2, .int .i64 len, .int .i64 nodes, .int .i64 depth, .int .i64 looked] 30)
            have bh := Blk.new x7 30 #[.bool yes, .int .i64 er, .slice Av2 l.length cv2, .int .i64 len, .int .i64 nodes, .int .i64 depth, .int .i64 looked]
            have bg3 := bg2.alloc (.cells #[.bool yes, .int .i64 er, .slice Av2 l.length cv2, .int .i64 len, .int .i64 nodes, .int .i64 depth, .int .i64 looked] 30)
            have hr3 := Bk.own_later hr2 hbb (Nat.le_refl _)
            have hq3 := Bk.own_later hrow2 hbb (Nat.le_refl _)
            have E4 := E3.1.later hbb
            have O4 := E3.2.1.trans (.of hbb)
            have N4 := E3.2.2
            clear a0' a1' a2' htr2 ho2 hG' hvG bg1 bg2 hr1 hr2 hrow2 E2' E3 hbb
            generalize x7.alloc (.cells #[.bool yes, .int .i64 er, .slice Av2 l.length cv2, .int .i64 len, .int .i64 nodes, .int .i64 depth, .int .i64 looked] 30) = x8 at *
            generalize x7.heap.size = hb at *
            clear x7
            have p0 := bg3.cell 0
            have p1 := bg3.cell 1
            have p2 := bg3.cell 2
            have p3 := bg3.cell 3
            have p4 := bg3.cell 4
            have p5 := bg3.cell 5
            have p6 := bg3.cell 6
            have q0 := bh.cell 0
            have q1 := bh.cell 1
            have q2 := bh.cell 2
            have q3 := bh.cell 3
            have q4 := bh.cell 4
            have q5 := bh.cell 5
            have q6 := bh.cell 6
            simp only [List.getElem?_toArray, List.getElem?_cons_zero, List.getElem?_cons_succ] at p0 p1 p2 p3 p4 p5 p6 q0 q1 q2 q3 q4 q5 q6
            go_upto_region 26 with (go_at_call 8; refine (hsm _ _ _ (Bk.own_base hr3 (Nat.zero_le _)) (Bk.own_base hq3 (Nat.zero_le _))).mono ?_; rintro e x9 ⟨rfl, hb9⟩)
            have hM := HLx.out.move (E4.later hb9) (O4.trans (.of hb9)) N4 HN.out.1 HN.out.2
            have bg9 : Blk x9 gb 30 _ := (hb9.block gb bg3.lt).trans bg3
            have hr9 := Bk.own_later hr3 hb9 (Nat.le_refl _)
            clear p0 p1 p2 p3 p4 p5 p6 q0 q1 q2 q3 q4 q5 q6 bg3 bh hr3 hq3 E4 O4 N4 hb9 hsm
            have p2 := bg9.cell 2
            simp only [List.getElem?_toArray, List.getElem?_cons_zero, List.getElem?_cons_succ] at p2
            have hsz9 := hM.ex.bel.size
            have hvl9 : vs.length ≤ 10 := by have := HX.out.2.1; omega
            go_wp2_with (at_builtin; refine wpList_append_own_at _ rfl _ _ 38 rfl W.heap.size 28 il (.slice none 0 0) 1 24 Tryz.underlying38 hil hl0 hl1 hl2 rfl (by decide) (.slice Al vs.length cl) vs.length _ rfl (hM.row.alloc _) ⟨x9.heap.size, 0, none⟩ 1 1 [.slice Av l.length cv] rfl rfl (cell_one_new _ _ _) (by simp [Value.oneCell']) (by unfold maxLen; omega) (by omega) (by simp; omega) ?_; intro v' y1 hown' hg' hnil hat'; obtain ⟨A9, c9, rfl⟩ := Bk.row_form hown'; have hP := Lib.hid (hM.push (Bk.own_base hr9 HLx.out.ex.bel.size) hll (fun p hp b hb hv => by have := (HLx.out.plt hp hb).2; have := (hr9.lt b hv).1; omega) (fun b hb hl => by have := (HLx.out.row.lt b hl).2; have := (hr9.lt b hb).1; omega) (fun b hb => ⟨fun hf => hf.elim (hvF b hb) (hvG' b hb), fun hk => by have := (HLx.out.kept b hk).2.1; have := (hr9.lt b hb).1; omega⟩) _ hown' hg' hat'); clear hown' hg' hnil hat')
            go_roundg (gk - 1)
            case measure => have := HX.out.1; omega
            case rel => exact ⟨i + 1, T', F', G', vs ++ [(.slice Av l.length cv, l.length)], A9, c9, by have := HX.out.1; omega, by rw [List.length_append, HX.out.2.1]; rfl, congrArg (Value.int .i64) (by omega), by rw [List.length_append]; rfl, hP.out⟩
      · have u1 : decide (k < L.length) = true := decide_eq_true (by omega)
        obtain ⟨x, hx⟩ : ∃ x, L[k]? = some x := ⟨_, List.getElem?_eq_getElem (by omega)⟩
        obtain ⟨b, off, rfl, hb, hcells⟩ := hI (by omega)
        obtain ⟨q0', q1', q2'⟩ := hcells k x hx
        have S0 : wr.cell? ⟨b, off + k * 3, none⟩ = some (.int .i64 x.k) ∧ wr.cell? ⟨b, off + k * 3 + 1, none⟩ = some (.string x.c) ∧ wr.cell? ⟨b, off + k * 3 + 2, none⟩ = some (.int .i64 x.n) := Br.ccc_later hex.bel ⟨hb, hb, hb⟩ ⟨q0', q1', q2'⟩
        have hxs := hs x (List.mem_of_getElem? hx)
        have hkl : k < L.length := by omega
        have hnum := hex.bk.good.num hsl x.k x.c.data.toList x.n
        have HX := Lib.hid (And.intro hx (And.intro hmk (And.intro hI hs)))
        clear hx hmk hcells hs hkn q0' q1' q2'
        obtain ⟨kd, cc, nn⟩ := x
        simp only at S0 hxs hnum
        have hdo := fun X (h : Br.Ex W t d T F G X) => Bk.do_any h.bk (hT.below h.bel (Nat.le_refl _)) (by omega) cc (by omega) kd nn
        have hto := fun X0 X F' T' (h : Br.Ex1 W t d T T' F F' G X0 X) => Br.told_any h.br (by omega) cc (by omega) kd nn
        obtain ⟨R, hR⟩ : ∃ R, Bk.run T kd cc.data.toList nn = R := ⟨_, rfl⟩
        simp only [hR] at hdo hto
        rw [hR] at hnum
        obtain ⟨T', yes, er, l, len, nodes, depth, looked⟩ := R
        unfold Bk.Did at hdo
        unfold Br.Did at hto
        dsimp only at hdo hto
        have hll : l.length ≤ 4611686018427387903 := by
          have h1 := hnum.hits
          have h2 := hnum.le
          have h3 := hnum.len
          simp only at h1 h2 h3
          omega
        have hsm := fun X v1 v2 h1 h2 => Br.same_any (W := X) (v1 := v1) (v2 := v2) (l := l) h1 h2 hll yes er len nodes depth looked
        have HN := Lib.hid (And.intro hnum hR)
        clear hnum hR
        have E1 : Br.Ex W t d T F G wr.drew := hex.dn 1
        have S1 : wr.drew.cell? ⟨b, off + k * 3, none⟩ = some (.int .i64 kd) ∧ wr.drew.cell? ⟨b, off + k * 3 + 1, none⟩ = some (.string cc) ∧ wr.drew.cell? ⟨b, off + k * 3 + 2, none⟩ = some (.int .i64 nn) := S0
        clear hex
        go_upto_region 10 with fail
        go_region_held3 (fun W' => W'.cell? ⟨b, off + k * 3, none⟩ = some (.int .i64 kd) ∧ W'.cell? ⟨b, off + k * 3 + 1, none⟩ = some (.string cc) ∧ W'.cell? ⟨b, off + k * 3 + 2, none⟩ = some (.int .i64 nn))
          (first
            | with_reducible assumption)
          (first
            | (go_at_call 9; refine (hdo _ (by with_reducible assumption)).mono ?_; clear hdo; rintro e w5 ⟨v, F', rfl, hrow, htr, ho, hF', hvF, htab⟩; have E2 := E1.one htr ho hF'; have S2 := Br.ccc_later (ho.below E1.bel.size E1.fge) ⟨hb, hb, hb⟩ S1)
            | (go_at_call 10; refine (hto _ _ _ _ E2).mono ?_; clear hto; rintro e w6 ⟨v2, G', rfl, hrow2, htr2, ho2, hG', hvG⟩; have E3 := (E2.two htr2 ho2 hG').1; have S3 := Br.ccc_later (ho2.below E2.bel.size (fun j hj => (E2.gge j hj).1)) ⟨hb, hb, hb⟩ S2; have hrow3 := Bk.own_base (Bk.own_of hrow fun j hj => ho2.block j (hrow.lt j hj).2 fun hg => by have := (hrow.lt j hj).1; have := (E2.gge j hg).2; omega) (Nat.zero_le _); have hrow4 := Bk.own_base hrow2 (Nat.zero_le _))
            | (go_at_call 8; refine (hsm _ _ _ hrow3 hrow4).mono ?_; rintro e w7 ⟨rfl, hb7⟩; have S4 := Br.ccc_later (hb7.mono E3.bel.size) ⟨hb, hb, hb⟩ S3))
        all_goals
          go_wp2_with fail
          go_roundg (gk - 1)
          case measure => have := HX.out.2.1; omega
          case rel => exact ⟨k + 1, T', F', G', by have := HX.out.2.1; omega, congrArg (Value.int .i64) (by omega), E3.later hb7, HN.out.1.slim, Nat.le_trans HN.out.1.len (by omega)⟩
end Go.Proofs.YtikhahkmebkccaaGreatDoor
