/- Disks in memory (the document's): without, with, accepted, step. Conditions: each theorem's own hypotheses. -/
import Derived.Test.YtgbeeghdoilmkaaDrE
import Derived.Deep.RegionHeld3
import Derived.Deep.DeepCutAuto
namespace Go.Proofs.Ytgbeeghdoilmkaa
open Go.RowKit Go.Maps Go.Sort
set_option linter.unusedVariables false

theorem Dr.Own.lt {W : World} {B : Nat} {v : Value} {l : List Dk.F} (h : Dr.Own W B v l) {k : Nat} (hk : v.ownBlock = some k) : B ≤ k ∧ k < W.heap.size := World.ownsRow.lt h k hk
theorem Dr.Own.below {W W' : World} {B : Nat} {v : Value} {l : List Dk.F} (h : Dr.Own W B v l) (hB : Below W.heap.size W W') : Dr.Own W' B v l := h.keep fun k hk => hB.block k (h.lt hk).2
/-- A file's cells, by its place in a row. -/
theorem Dr.Own.three {W : World} {B : Nat} {v : Value} {l : List Dk.F} (h : Dr.Own W B v l) {k : Nat} {f : Dk.F} (hk : l[k]? = some f) : ∃ g c nb db, v = .slice (some ⟨g, 0, none⟩) l.length c ∧ k < l.length ∧ nb.data.toList = f.name ∧ db.data.toList = f.data ∧ db.size = f.data.length ∧
    W.cell? ⟨g, k * 3, none⟩ = some (.string nb) ∧ W.cell? ⟨g, k * 3 + 1, none⟩ = some (.string db) ∧ W.cell? ⟨g, k * 3 + 2, none⟩ = some (.int .i64 f.sure) := by
  obtain ⟨g, c, hv, q0, q1, q2⟩ := h.at_ hk
  obtain ⟨nb, hnb, _⟩ := Tx.of f.name
  obtain ⟨db, hdb, hds⟩ := Tx.of f.data
  rw [Tx.v_eq hnb] at q0
  rw [Tx.v_eq hdb] at q1
  exact ⟨g, c, nb, db, hv, (List.getElem?_eq_some_iff.1 hk).1, hnb, hdb, hds, q0, q1, q2⟩
theorem Dr.one_cells (w : World) {nb db : ByteArray} {f : Dk.F} (h1 : nb.data.toList = f.name) (h2 : db.data.toList = f.data) : ∀ j u, (Dr.cellsOf [f])[j]? = some u → (w.alloc (.cells #[.string nb, .string db, .int .i64 f.sure] 38)).cell? ((⟨w.heap.size, 0, none⟩ : Addr).add j) = some u :=
  Dr.news (Tx.v_eq h1) (Tx.v_eq h2) (Blk.new w _ _)
theorem Dr.del_take {L : List Dk.F} {k : Nat} {f : Dk.F} (h : L[k]? = some f) (nm : List UInt8) : Dk.del Dk.F.name nm (L.take (k + 1)) = Dk.del Dk.F.name nm (L.take k) ++ (if f.name = nm then [] else [f]) := by
  unfold Dk.del
  rw [List.take_add_one, h, List.filter_append]
  congr 1
  show List.filter _ [f] = _
  rw [List.filter_cons]
  by_cases e : f.name = nm
  · rw [if_pos e, e]; simp
  · rw [if_neg e]; simp [e]
set_option maxRecDepth 100000 in
set_option maxHeartbeats 1000000 in
theorem Dr.without_any {W : World} {B : Nat} {v : Value} {L : List Dk.F} (h : Dr.Own W B v L) (hl : L.length ≤ 1000000000) (nb : ByteArray) :
    Calls Try.prog 84 #[v, .string nb] W fun e W' => ∃ v', e = .returned v' ∧ Dr.Own W' W.heap.size v' (Dk.del Dk.F.name nb.data.toList L) ∧ Below W.heap.size W W' := by
  obtain ⟨i0, hi, hz0, hz1, hz2⟩ := info_parts Dr.info
  obtain ⟨a, c, rfl⟩ := h.form
  go_enter Try.func84, Try.ntmps84
  go_wp2_with fail
  go_loopw [5, 6] (fun o i wr => ∃ k : Nat, k ≤ L.length ∧ i = .int .i64 k ∧ Dr.Own wr W.heap.size o (Dk.del Dk.F.name nb.data.toList (L.take k)) ∧ Below W.heap.size W wr) (fun _ i _ => L.length - (intOf i).toNat)
  case atStart => exact ⟨0, Nat.zero_le _, rfl, Dr.Own.nil _ _, Below.refl _ _⟩
  case round =>
    obtain ⟨k, hk, rfl, HO, hB⟩ := hrel
    by_cases hlt : k < L.length
    · obtain ⟨f, hf⟩ : ∃ f, L[k]? = some f := ⟨_, List.getElem?_eq_getElem hlt⟩
      have hdt := Dr.del_take hf nb.data.toList
      obtain ⟨g, c', xb, db, hv, _, hxb, hdb, _, c0, c1, c2⟩ := (h.below hB).three hf
      injection hv with hv1 _ hv2
      subst hv1 hv2
      by_cases he : f.name = nb.data.toList
      · have hb1 : (xb.toList == nb.toList) = true := by rw [Tx.beq, hxb]; exact decide_eq_true he
        have hb : (xb.toList != nb.toList) = false := by simp [bne, hb1]
        rw [if_pos he, List.append_nil] at hdt
        rw [← hdt] at HO
        obtain ⟨oa, oc, rfl⟩ := HO.form
        have HO2 := HO
        clear hf hxb hdb he c1 c2 hdt
        go_wp2_with fail
        go_roundw
        case rel => exact ⟨k + 1, hlt, by go_num, HO2, hB⟩
        case measure => simp [intOf]; omega
      · have hb1 : (xb.toList == nb.toList) = false := by rw [Tx.beq, hxb]; exact decide_eq_false he
        have hb : (xb.toList != nb.toList) = true := by simp [bne, hb1]
        rw [if_neg he] at hdt
        have hle : (Dk.del Dk.F.name nb.data.toList (L.take k)).length ≤ L.length := by
          refine Nat.le_trans (List.length_filter_le _ _) ?_
          rw [List.length_take]; omega
        obtain ⟨l0, hl0⟩ : ∃ l0, Dk.del Dk.F.name nb.data.toList (L.take k) = l0 := ⟨_, rfl⟩
        rw [hl0] at hdt HO hle
        obtain ⟨oa, oc, rfl⟩ := HO.form
        have hone := Dr.one_cells wr hxb hdb
        have HDT := Lib.hid hdt
        clear hf hxb hdb he hdt hl0
        go_wp2_with (at_builtin; refine wpList_append_own _ rfl (.tmp 20) (.tmp 25) 32 rfl W.heap.size 38 i0 (.agg #[.string ⟨#[]⟩, .string ⟨#[]⟩, .int .i64 0]) 3 40 Try.underlying32 hi hz0 hz1 hz2 rfl (by decide) _ _ _ rfl (World.ownsRow.alloc HO _) ⟨wr.heap.size, 0, none⟩ 1 1 (Dr.cellsOf [f]) rfl rfl hone (Dr.cellsOf_one _) (by unfold maxLen; omega) (by omega) (by have := hB.size; simp; omega) ?_; intro v2 w2 hown2 hgrow2 _)
        go_roundw
        case rel =>
          refine ⟨k + 1, hlt, by go_num, ?_, (hB.alloc hB.size _).grown hgrow2 (by have := hB.size; simp; omega) (fun q hq => (HO.lt hq).1)⟩
          rw [HDT.out]
          unfold Dr.Own
          rw [List.length_append, Dr.cellsOf_append]
          exact hown2
        case measure => simp [intOf]; omega
    · obtain rfl : k = L.length := by omega
      rw [List.take_length] at HO
      go_wp2_with fail
      go_ret
      exact ⟨_, rfl, HO, hB⟩
/-- A list with a file set in: from some place on. -/
def Dr.with_ (f : Dk.F) : Bool → List Dk.F → List Dk.F
  | q, [] => if q = true then [] else [f]
  | q, g :: l => (if q = false ∧ bytesBefore g.name f.name = false then [f] else []) ++ (if g.name = f.name then [] else [g]) ++ Dr.with_ f (q || !bytesBefore g.name f.name) l
theorem Dr.with_true (f : Dk.F) : ∀ l, Dr.with_ f true l = Dk.del Dk.F.name f.name l
  | [] => rfl
  | g :: l => by
    show _ ++ _ ++ Dr.with_ f true l = _
    rw [Dr.with_true f l, if_neg (fun h => by cases h.1)]
    unfold Dk.del
    rw [List.filter_cons]
    by_cases e : g.name = f.name
    · rw [if_pos e]; simp [e]
    · rw [if_neg e]; simp [e]
theorem Dr.with_put (f : Dk.F) : ∀ {l : List Dk.F}, Dk.Up Dk.F.name l → Dr.with_ f false l = Dk.put Dk.F.name f l
  | [], _ => rfl
  | g :: l, h => by
    have hp := List.pairwise_cons.1 h
    unfold Dr.with_ Dk.put
    cases hb : bytesBefore g.name f.name with
    | true =>
      have hne : g.name ≠ f.name := fun e => by rw [e, WideAt.bytes_irrefl] at hb; cases hb
      have hnb : bytesBefore f.name g.name = false := by
        cases h2 : bytesBefore f.name g.name with
        | false => rfl
        | true =>
          have := WideShapes.bytes_trans _ _ _ hb h2
          rw [WideAt.bytes_irrefl] at this
          cases this
      rw [if_neg (fun h => by cases h.2), if_neg hne]
      show [] ++ [g] ++ Dr.with_ f false l = _
      rw [Dr.with_put f hp.2]
      unfold Dk.put Dk.del
      rw [List.filter_cons]
      have : (!(g.name == f.name)) = true := by simp [hne]
      rw [if_pos this]
      show _ = (if bytesBefore f.name g.name = true then _ else _)
      rw [if_neg (by rw [hnb]; decide)]
      rfl
    | false =>
      rw [if_pos ⟨rfl, rfl⟩]
      show [f] ++ _ ++ Dr.with_ f true l = _
      rw [Dr.with_true]
      have hins : ∀ r : List Dk.F, (∀ y ∈ r, bytesBefore f.name y.name = true) → Dk.ins Dk.F.name f r = f :: r := by
        intro r hr
        cases r with
        | nil => rfl
        | cons y r =>
          show (if bytesBefore f.name y.name = true then _ else _) = _
          rw [if_pos (hr y (List.mem_cons_self ..))]
      by_cases e : g.name = f.name
      · rw [if_pos e]
        have hd : Dk.del Dk.F.name f.name (g :: l) = Dk.del Dk.F.name f.name l := by unfold Dk.del; rw [List.filter_cons]; simp [e]
        rw [hd, hins _ fun y hy => by rw [← e]; exact hp.1 y ((Dk.mem_del Dk.F.name).1 hy).1]
        rfl
      · rw [if_neg e]
        have hfg : bytesBefore f.name g.name = true := (WideAt.bytes_total _ _ (fun h => e h.symm)).resolve_right (by rw [hb]; decide)
        have hd : Dk.del Dk.F.name f.name (g :: l) = g :: Dk.del Dk.F.name f.name l := by unfold Dk.del; rw [List.filter_cons]; simp [e]
        rw [hd, hins _ fun y hy => by
          rcases List.mem_cons.1 hy with rfl | hy
          · exact hfg
          · exact WideShapes.bytes_trans _ _ _ hfg (hp.1 y ((Dk.mem_del Dk.F.name).1 hy).1)]
        rfl
theorem Dr.with_len (f : Dk.F) : ∀ (q : Bool) (l : List Dk.F), (Dr.with_ f q l).length ≤ l.length + 1
  | q, [] => by unfold Dr.with_; split <;> simp
  | q, g :: l => by
    cases q with
    | true =>
      rw [Dr.with_true]
      exact Nat.le_trans (List.length_filter_le _ _) (Nat.le_succ _)
    | false =>
      unfold Dr.with_
      cases hb : bytesBefore g.name f.name with
      | true =>
        rw [if_neg (fun h => by cases h.2)]
        have := Dr.with_len f false l
        show ([] ++ _ ++ Dr.with_ f false l).length ≤ _
        rw [List.length_append, List.nil_append, List.length_cons]
        have : (if g.name = f.name then [] else [g] : List Dk.F).length ≤ 1 := by split <;> simp
        omega
      | false =>
        rw [if_pos ⟨rfl, rfl⟩]
        show ([f] ++ _ ++ Dr.with_ f true l).length ≤ _
        rw [Dr.with_true, List.length_append, List.length_append, List.length_cons]
        have h1 : (if g.name = f.name then [] else [g] : List Dk.F).length ≤ 1 := by split <;> simp
        have h2 : (Dk.del Dk.F.name f.name l).length ≤ l.length := List.length_filter_le _ _
        simp only [List.length_cons, List.length_nil]
        omega
theorem Dr.run_geq {P : Program} (a b : ByteArray) (t : TypeId) (q : Bool) (hq : Op.bytesLess a.toList b.toList = q) (W : World) : (binOp .geq t (.string a) (.string b)).run P W = .ok (.bool (!q)) W := by
  have h : binOp .geq t (.string a) (.string b) = pure (.bool (!Op.bytesLess a.toList b.toList)) := by simp [binOp, Op.stringOp]
  rw [h, hq]
  rfl
/-- The loop of with: the list, the boxed file, what is made. -/
structure Dr.WSt (W wr : World) (p B : Nat) (v : Value) (L : List Dk.F) (box : Array Value) (o : Value) (acc : List Dk.F) : Prop where
  row : Dr.Own wr B v L
  low : ∀ k, v.ownBlock = some k → k < p
  box : Blk wr p 38 box
  own : Dr.Own wr (p + 1) o acc
  below : Below p W wr
theorem Dr.WSt.dn {W wr : World} {p B : Nat} {v o : Value} {L acc : List Dk.F} {box : Array Value} (h : Dr.WSt W wr p B v L box o acc) (n : Nat) : Dr.WSt W (wr.drewN n) p B v L box o acc :=
  ⟨h.row.keep fun _ _ => rfl, h.low, h.box, h.own.keep fun _ _ => rfl, below_dn h.below n⟩
theorem Dr.WSt.more {W wr w2 : World} {p B : Nat} {v o v2 : Value} {L acc : List Dk.F} {box : Array Value} (h : Dr.WSt W wr p B v L box o acc) {ob : Obj} {x : Dk.F}
    (ho : w2.ownsRow (p + 1) 38 3 v2 (acc.length + 1) (Dr.cellsOf acc ++ Dr.cellsOf [x])) (hg : (wr.alloc ob).grownBy w2 o.ownBlock) : Dr.WSt W w2 p B v L box v2 (acc ++ [x]) := by
  have hpl := h.box.lt
  refine ⟨h.row.keep fun k hk => ?_, h.low, ?_, ?_, ?_⟩
  · have hkp := h.low k hk
    exact (hg.block k (by simp; omega) fun e => by have := (h.own.lt e.symm).1; omega).trans (Below.heap_alloc wr ob k (by omega))
  · exact (h.box.alloc ob).grown hg fun e => by have := (h.own.lt e.symm).1; omega
  · unfold Dr.Own
    rw [List.length_append, Dr.cellsOf_append]
    exact ho
  · exact (h.below.alloc (by omega) ob).grown hg (by simp; omega) fun q hq => by have := (h.own.lt hq).1; omega
set_option maxRecDepth 100000 in
set_option maxHeartbeats 4000000 in
theorem Dr.with_any {W : World} {B : Nat} {v : Value} {L : List Dk.F} (h : Dr.Own W B v L) (hl : L.length ≤ 1000000000) (f : Dk.F) {fb fd : ByteArray} (hfb : fb.data.toList = f.name) (hfd : fd.data.toList = f.data) :
    Calls Try.prog 68 #[v, .agg #[.string fb, .string fd, .int .i64 f.sure]] W fun e W' => ∃ v', e = .returned v' ∧ Dr.Own W' W.heap.size v' (Dr.with_ f false L) ∧ Below W.heap.size W W' := by
  obtain ⟨i0, hi, hz0, hz1, hz2⟩ := info_parts Dr.info
  obtain ⟨Z, hZ⟩ : ∃ Z, Dr.with_ f false L = Z := ⟨_, rfl⟩
  have hZl : Z.length ≤ L.length + 1 := by rw [← hZ]; exact Dr.with_len f false L
  have HZ := Lib.hid hZ
  rw [hZ]
  clear hZ
  have hst : Dr.WSt W (W.alloc (.cells #[.string fb, .string fd, .int .i64 f.sure] 38)) W.heap.size B v L #[.string fb, .string fd, .int .i64 f.sure] (.slice none 0 0) [] :=
    ⟨h.alloc _, fun k hk => (h.lt hk).2, Blk.new _ _ _, Dr.Own.nil _ _, (Below.refl _ _).alloc (Nat.le_refl _) _⟩
  obtain ⟨a, c, rfl⟩ := h.form
  have hone : ∀ w : World, _ := fun w => Dr.one_cells w hfb hfd
  have HFB := Lib.hid hfb
  clear h hfb hfd
  go_enter Try.func68, Try.ntmps68
  go_wp2_with fail
  obtain ⟨p, hp⟩ : ∃ p, W.heap.size = p := ⟨_, rfl⟩
  rw [hp] at hst ⊢
  have HPW := Lib.hid hp
  clear hp
  go_loopw [5, 6, 7] (fun o q i wr => ∃ (k : Nat) (acc : List Dk.F) (b : Bool), k ≤ L.length ∧ i = .int .i64 k ∧ q = .bool b ∧ Dr.WSt W wr p B (.slice a L.length c) L #[.string fb, .string fd, .int .i64 f.sure] o acc ∧ Hid (acc ++ Dr.with_ f b (L.drop k) = Z)) (fun _ _ i _ => L.length - (intOf i).toNat)
  case atStart => exact ⟨0, [], false, Nat.zero_le _, rfl, rfl, hst, Lib.hid (by rw [List.nil_append]; exact HZ.out)⟩
  case round =>
    clear hst
    obtain ⟨k, acc, q, hk, rfl, rfl, hS, HA⟩ := hrel
    have hal : acc.length ≤ L.length + 1 := by
      have := congrArg List.length HA.out
      rw [List.length_append] at this
      omega
    obtain ⟨oa, oc, rfl⟩ := hS.own.form
    have b0 := hS.box.cell 0
    have b1 := hS.box.cell 1
    have b2 := hS.box.cell 2
    simp only [List.getElem?_toArray, List.getElem?_cons_zero, List.getElem?_cons_succ] at b0 b1 b2
    by_cases hlt : k < L.length
    · obtain ⟨x, hx⟩ : ∃ x, L[k]? = some x := ⟨_, List.getElem?_eq_getElem hlt⟩
      have hdr : L.drop k = x :: L.drop (k + 1) := by
        rw [List.drop_eq_getElem_cons hlt]
        rw [List.getElem?_eq_getElem hlt] at hx
        rw [Option.some.inj hx]
      obtain ⟨g, c', xb, db, hv, _, hxb, hdb, _, c0, c1, c2⟩ := hS.row.three hx
      injection hv with hv1 _ hv2
      subst hv1 hv2
      have hone2 : ∀ w : World, _ := fun w => Dr.one_cells w hxb hdb
      obtain ⟨bb, hbb⟩ : ∃ bb, bytesBefore x.name f.name = bb := ⟨_, rfl⟩
      have t1 : Op.bytesLess xb.toList fb.toList = bb := by rw [Dk.less_eq, ByteArray.toList_eq, ByteArray.toList_eq, hxb, HFB.out]; exact hbb
      have t3 : ∀ w, _ := fun w => Dr.run_geq (P := Try.prog) xb fb 9 bb t1 w
      obtain ⟨ee, hee⟩ : ∃ ee, decide (x.name = f.name) = ee := ⟨_, rfl⟩
      have t2 : (xb.toList == fb.toList) = ee := by rw [Tx.beq, hxb, HFB.out]; exact hee
      have HA2 : Hid (acc ++ ((if q = false ∧ bb = false then [f] else []) ++ (if ee = true then [] else [x]) ++ Dr.with_ f (q || !bb) (L.drop (k + 1))) = Z) := by
        have := HA.out
        rw [hdr] at this
        unfold Dr.with_ at this
        rw [hbb] at this
        rw [← hee]
        simp only [decide_eq_true_eq]
        exact this
      have hrd : ∀ {w2 o acc}, Dr.WSt W w2 p B (.slice (some ⟨g, 0, none⟩) L.length c) L #[.string fb, .string fd, .int .i64 f.sure] o acc → w2.cell? ⟨g, k * 3, none⟩ = some (.string xb) ∧ w2.cell? ⟨g, k * 3 + 1, none⟩ = some (.string db) ∧ w2.cell? ⟨g, k * 3 + 2, none⟩ = some (.int .i64 x.sure) := fun h => by
        obtain ⟨g2, c2', e, q0, q1, q2⟩ := h.row.at_ hx
        injection e with e
        injection e with e
        injection e with e
        subst e
        rw [Tx.v_eq hxb] at q0
        rw [Tx.v_eq hdb] at q1
        exact ⟨q0, q1, q2⟩
      have hbox : ∀ {w2 v o acc}, Dr.WSt W w2 p B v L #[.string fb, .string fd, .int .i64 f.sure] o acc → w2.cell? ⟨p, 0, none⟩ = some (.string fb) ∧ w2.cell? ⟨p, 1, none⟩ = some (.string fd) ∧ w2.cell? ⟨p, 2, none⟩ = some (.int .i64 f.sure) := fun h => ⟨h.box.cell 0, h.box.cell 1, h.box.cell 2⟩
      have hplt := hS.box.lt
      clear hx hdr hxb hdb hbb hee HA
      cases q with
      | true =>
        go_wp2_with fail
        go_quiet (fail)
        go_wp2_with fail
        go_quiet (fail)
        cases ee with
        | true =>
          have HA3 : Hid (acc ++ Dr.with_ f true (L.drop (k + 1)) = Z) := Lib.hid (by simpa using HA2.out)
          clear HA2 hrd hbox
          go_wp2_with fail
          go_roundw
          case rel => exact ⟨k + 1, acc, true, hlt, by go_num, rfl, hS.dn _, HA3⟩
          case measure => simp [intOf]; omega
        | false =>
          have HA3 : Hid ((acc ++ [x]) ++ Dr.with_ f true (L.drop (k + 1)) = Z) := Lib.hid (by simpa using HA2.out)
          clear HA2 hrd hbox
          have hsz := (hS).box.lt
          go_wp2_with (at_builtin; refine wpList_append_own _ rfl (.tmp 38) (.tmp 43) 32 rfl (p + 1) 38 i0 (.agg #[.string ⟨#[]⟩, .string ⟨#[]⟩, .int .i64 0]) 3 40 Try.underlying32 hi hz0 hz1 hz2 rfl (by decide) _ _ _ rfl (World.ownsRow.alloc (hS.dn _).own _) ⟨_, 0, none⟩ 1 1 (Dr.cellsOf [x]) rfl rfl (hone2 _) (Dr.cellsOf_one _) (by unfold maxLen; (try simp only [List.length_append, List.length_cons, List.length_nil]); omega) (by omega) (by (try simp); omega) ?_; intro v3 w3 hown3 hgrow3 _)
          go_roundw
          case rel => exact ⟨k + 1, acc ++ [x], true, hlt, by go_num, rfl, (hS.dn _).more hown3 hgrow3, HA3⟩
          case measure => simp [intOf]; omega
      | false =>
        cases bb with
        | true =>
          go_wp2_with fail
          go_quiet (fail)
          go_wp2_with fail
          go_quiet (fail)
          cases ee with
          | true =>
            have HA3 : Hid (acc ++ Dr.with_ f false (L.drop (k + 1)) = Z) := Lib.hid (by simpa using HA2.out)
            clear HA2 hrd hbox
            go_wp2_with fail
            go_roundw
            case rel => exact ⟨k + 1, acc, false, hlt, by go_num, rfl, hS.dn _, HA3⟩
            case measure => simp [intOf]; omega
          | false =>
            have HA3 : Hid ((acc ++ [x]) ++ Dr.with_ f false (L.drop (k + 1)) = Z) := Lib.hid (by simpa using HA2.out)
            clear HA2 hrd hbox
            have hsz := (hS).box.lt
            go_wp2_with (at_builtin; refine wpList_append_own _ rfl (.tmp 38) (.tmp 43) 32 rfl (p + 1) 38 i0 (.agg #[.string ⟨#[]⟩, .string ⟨#[]⟩, .int .i64 0]) 3 40 Try.underlying32 hi hz0 hz1 hz2 rfl (by decide) _ _ _ rfl (World.ownsRow.alloc (hS.dn _).own _) ⟨_, 0, none⟩ 1 1 (Dr.cellsOf [x]) rfl rfl (hone2 _) (Dr.cellsOf_one _) (by unfold maxLen; (try simp only [List.length_append, List.length_cons, List.length_nil]); omega) (by omega) (by (try simp); omega) ?_; intro v3 w3 hown3 hgrow3 _)
            go_roundw
            case rel => exact ⟨k + 1, acc ++ [x], false, hlt, by go_num, rfl, (hS.dn _).more hown3 hgrow3, HA3⟩
            case measure => simp [intOf]; omega
        | false =>
          obtain ⟨acc2, HAC⟩ : ∃ acc2, Hid (acc ++ [f] = acc2) := ⟨_, Lib.hid rfl⟩
          have hal2 : acc2.length ≤ L.length + 2 := by rw [← HAC.out]; simp; omega
          go_wp2_with fail
          go_quiet (fail)
          go_wp2_with (at_builtin; refine wpList_append_own _ rfl (.tmp 26) (.tmp 28) 32 rfl (p + 1) 38 i0 (.agg #[.string ⟨#[]⟩, .string ⟨#[]⟩, .int .i64 0]) 3 40 Try.underlying32 hi hz0 hz1 hz2 rfl (by decide) _ _ _ rfl (World.ownsRow.alloc (hS.dn _).own _) ⟨_, 0, none⟩ 1 1 (Dr.cellsOf [f]) rfl rfl (hone _) (Dr.cellsOf_one _) (by unfold maxLen; (try simp only [List.length_append, List.length_cons, List.length_nil]); omega) (by omega) (by (try simp); omega) ?_; intro v2 w2 hown2 hgrow2 _; have S2 := (hS.dn _).more hown2 hgrow2; rw [HAC.out] at S2; obtain ⟨d0, d1, d2⟩ := hrd S2; obtain ⟨e0, e1, e2⟩ := hbox S2; obtain ⟨oa2, oc2, rfl⟩ := S2.own.form; clear c0 c1 c2 b0 b1 b2)
          go_quiet (fail)
          cases ee with
          | true =>
            have HA3 : Hid (acc2 ++ Dr.with_ f true (L.drop (k + 1)) = Z) := Lib.hid (by rw [← HAC.out]; simpa using HA2.out)
            clear HA2 hrd hbox
            go_wp2_with fail
            go_roundw
            case rel => exact ⟨k + 1, acc2, true, hlt, by go_num, rfl, S2.dn _, HA3⟩
            case measure => simp [intOf]; omega
          | false =>
            have HA3 : Hid ((acc2 ++ [x]) ++ Dr.with_ f true (L.drop (k + 1)) = Z) := Lib.hid (by rw [← HAC.out]; simpa using HA2.out)
            clear HA2 hrd hbox
            have hsz := (S2).box.lt
            go_wp2_with (at_builtin; refine wpList_append_own _ rfl (.tmp 38) (.tmp 43) 32 rfl (p + 1) 38 i0 (.agg #[.string ⟨#[]⟩, .string ⟨#[]⟩, .int .i64 0]) 3 40 Try.underlying32 hi hz0 hz1 hz2 rfl (by decide) _ _ _ rfl (World.ownsRow.alloc (S2.dn _).own _) ⟨_, 0, none⟩ 1 1 (Dr.cellsOf [x]) rfl rfl (hone2 _) (Dr.cellsOf_one _) (by unfold maxLen; (try simp only [List.length_append, List.length_cons, List.length_nil]); omega) (by omega) (by (try simp); omega) ?_; intro v3 w3 hown3 hgrow3 _)
            go_roundw
            case rel => exact ⟨k + 1, acc2 ++ [x], true, hlt, by go_num, rfl, (S2.dn _).more hown3 hgrow3, HA3⟩
            case measure => simp [intOf]; omega
    · obtain rfl : k = L.length := by omega
      have HA3 : Hid (acc ++ Dr.with_ f q [] = Z) := Lib.hid (by have := HA.out; rw [List.drop_length] at this; exact this)
      clear HA
      have hplt := hS.box.lt
      cases q with
      | true =>
        have hz := HA3.out
        unfold Dr.with_ at hz
        rw [if_pos rfl, List.append_nil] at hz
        subst hz
        clear HZ HA3
        go_wp2_with fail
        go_ret
        refine ⟨_, rfl, hS.own.base fun q hq => ?_, ?_⟩
        · have h1 := (hS.own.lt hq).1
          have h2 := HPW.out
          omega
        · rw [HPW.out]; exact hS.below
      | false =>
        have hz := HA3.out
        unfold Dr.with_ at hz
        rw [if_neg (by decide)] at hz
        subst hz
        clear HZ HA3
        go_wp2_with (at_builtin; refine wpList_append_own _ rfl (.tmp 47) (.tmp 49) 32 rfl (p + 1) 38 i0 (.agg #[.string ⟨#[]⟩, .string ⟨#[]⟩, .int .i64 0]) 3 40 Try.underlying32 hi hz0 hz1 hz2 rfl (by decide) _ _ _ rfl (World.ownsRow.alloc hS.own _) ⟨_, 0, none⟩ 1 1 (Dr.cellsOf [f]) rfl rfl (hone _) (Dr.cellsOf_one _) (by unfold maxLen; (try simp only [List.length_append, List.length_cons, List.length_nil]); omega) (by omega) (by (try simp); omega) ?_; intro v2 w2 hown2 hgrow2 _; have S2 := hS.more hown2 hgrow2)
        go_ret
        refine ⟨_, rfl, S2.own.base fun q hq => ?_, ?_⟩
        · have h1 := (S2.own.lt hq).1
          have h2 := HPW.out
          omega
        · rw [HPW.out]; exact S2.below
#print axioms Dr.with_any
#print axioms Dr.without_any
end Go.Proofs.Ytgbeeghdoilmkaa
