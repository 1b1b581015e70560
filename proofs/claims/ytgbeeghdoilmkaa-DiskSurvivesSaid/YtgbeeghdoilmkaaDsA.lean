/- What is known of files, in rows of the call's own; the helpers at and drop. Conditions: each theorem's own hypotheses. -/
import Derived.Test.YtgbeeghdoilmkaaDwH
import Derived.OwnWalk
import Derived.Laws.AppendOwn
import Derived.Laws.AppendOwnNone
import Derived.Laws.OwnMore
import Derived.Deep.AppendLies
import Derived.Deep.QuietTactic
import Derived.BigQuiet
namespace Go.Proofs.Ytgbeeghdoilmkaa
open Go.RowKit Go.Maps Go.Sort
set_option linter.unusedVariables false

theorem Try.infoKnown : (Try.prog.info? 50).map (fun i => (i.zero, i.size, i.bytes)) = some (some (.agg #[.string ⟨#[]⟩, .string ⟨#[]⟩, .int .i64 0]), 3, 40) := by kernel_rfl
/-- The cells of what is known. -/
def Ds.cells : List Dk.F → List Value
  | [] => []
  | f :: l => Tx.v f.name :: Tx.v f.data :: .int .i64 f.sure :: Ds.cells l
theorem Ds.cells_len : ∀ l, (Ds.cells l).length = l.length * 3
  | [] => rfl
  | h :: l => by rw [Ds.cells, List.length_cons, List.length_cons, List.length_cons, Ds.cells_len l, List.length_cons]; omega
theorem Ds.cells_append : ∀ a b, Ds.cells (a ++ b) = Ds.cells a ++ Ds.cells b
  | [], _ => rfl
  | h :: a, b => by rw [List.cons_append, Ds.cells, Ds.cells, Ds.cells_append a b]; rfl
theorem Ds.cells_one : ∀ (l : List Dk.F), ∀ u ∈ Ds.cells l, u.oneCell' = true
  | [], u, hu => by cases hu
  | h :: l, u, hu => by
    rw [Ds.cells] at hu
    rcases List.mem_cons.1 hu with rfl | hu
    · rfl
    rcases List.mem_cons.1 hu with rfl | hu
    · rfl
    rcases List.mem_cons.1 hu with rfl | hu
    · rfl
    exact Ds.cells_one l u hu
theorem Ds.cells_get : ∀ (l : List Dk.F) (q : Nat) (h : Dk.F), l[q]? = some h → (Ds.cells l)[q * 3]? = some (Tx.v h.name) ∧ (Ds.cells l)[q * 3 + 1]? = some (Tx.v h.data) ∧ (Ds.cells l)[q * 3 + 2]? = some (.int .i64 h.sure)
  | [], q, h, hq => by simp at hq
  | x :: l, 0, h, hq => by
    obtain rfl := Option.some.inj hq
    exact ⟨rfl, rfl, rfl⟩
  | x :: l, q + 1, h, hq => by
    have := Ds.cells_get l q h hq
    rw [show (q + 1) * 3 = q * 3 + 1 + 1 + 1 from by omega, Ds.cells]
    exact this
theorem Ds.cells_set : ∀ (l : List Dk.F) (q : Nat) (f : Dk.F), q < l.length → (((Ds.cells l).set (q * 3) (Tx.v f.name)).set (q * 3 + 1) (Tx.v f.data)).set (q * 3 + 2) (.int .i64 f.sure) = Ds.cells (l.set q f)
  | [], q, f, hq => absurd hq (Nat.not_lt_zero _)
  | x :: l, 0, f, hq => rfl
  | x :: l, q + 1, f, hq => by
    have := Ds.cells_set l q f (by rw [List.length_cons] at hq; omega)
    rw [show (q + 1) * 3 = q * 3 + 1 + 1 + 1 from by omega, List.set_cons_succ, Ds.cells, Ds.cells, ← this]
    rfl
theorem Ds.set_same {l : List Value} {i : Nat} {x : Value} (h : l[i]? = some x) : l.set i x = l := by
  obtain ⟨hi, rfl⟩ := List.getElem?_eq_some_iff.1 h
  exact List.set_getElem_self hi
theorem Ds.cells_set1 (l : List Dk.F) (q : Nat) (f : Dk.F) (h : l[q]? = some f) (d : List UInt8) : (Ds.cells l).set (q * 3 + 1) (Tx.v d) = Ds.cells (l.set q ⟨f.name, d, f.sure⟩) := by
  obtain ⟨h0, h1, h2⟩ := Ds.cells_get l q f h
  rw [← Ds.cells_set l q ⟨f.name, d, f.sure⟩ (List.getElem?_eq_some_iff.1 h).1]
  show _ = (((Ds.cells l).set (q * 3) (Tx.v f.name)).set (q * 3 + 1) (Tx.v d)).set (q * 3 + 2) (.int .i64 f.sure)
  rw [Ds.set_same h0]
  refine (Ds.set_same ?_).symm
  rw [List.getElem?_set_ne (by omega)]
  exact h2
theorem Ds.cells_set2 (l : List Dk.F) (q : Nat) (f : Dk.F) (h : l[q]? = some f) (n : Nat) : (Ds.cells l).set (q * 3 + 2) (.int .i64 n) = Ds.cells (l.set q ⟨f.name, f.data, n⟩) := by
  obtain ⟨h0, h1, h2⟩ := Ds.cells_get l q f h
  rw [← Ds.cells_set l q ⟨f.name, f.data, n⟩ (List.getElem?_eq_some_iff.1 h).1]
  show _ = (((Ds.cells l).set (q * 3) (Tx.v f.name)).set (q * 3 + 1) (Tx.v f.data)).set (q * 3 + 2) (.int .i64 n)
  rw [Ds.set_same h0, Ds.set_same h1]
/-- A row of what is known. -/
def Ds.Ls (W : World) (B : Nat) (v : Value) (L : List Dk.F) : Prop := W.ownsRow B 50 3 v L.length (Ds.cells L)
section
variable {W W' : World} {B : Nat} {v : Value} {L : List Dk.F}
theorem Ds.Ls.form (h : Ds.Ls W B v L) : ∃ a c, v = .slice a L.length c := by
  rcases h.2 with ⟨h1, h2⟩ | ⟨g, cap, cur, h1, _⟩
  · exact ⟨none, 0, by rw [h1, h2]⟩
  · exact ⟨_, _, h1⟩
theorem Ds.Ls.at_ (h : Ds.Ls W B v L) {k : Nat} {f : Dk.F} (hk : L[k]? = some f) : ∃ g c, v = .slice (some ⟨g, 0, none⟩) L.length c ∧ W.cell? ⟨g, k * 3, none⟩ = some (Tx.v f.name) ∧ W.cell? ⟨g, k * 3 + 1, none⟩ = some (Tx.v f.data) ∧ W.cell? ⟨g, k * 3 + 2, none⟩ = some (.int .i64 f.sure) ∧ ∀ j, W.frozen? ⟨g, j, none⟩ = false := by
  have hlt := (List.getElem?_eq_some_iff.1 hk).1
  obtain ⟨g, c, rfl, _⟩ := World.ownsRow.form h (by omega)
  obtain ⟨h0, h1, h2⟩ := Ds.cells_get L k f hk
  refine ⟨g, c, rfl, ?_, ?_, ?_, World.ownsRow.frozenAt h⟩
  · rw [World.ownsRow.cellAt h _ (by omega)]; exact h0
  · rw [World.ownsRow.cellAt h _ (by omega)]; exact h1
  · rw [World.ownsRow.cellAt h _ (by omega)]; exact h2
theorem Ds.Ls.lt (h : Ds.Ls W B v L) {k : Nat} (hk : v.ownBlock = some k) : B ≤ k ∧ k < W.heap.size := World.ownsRow.lt h k hk
theorem Ds.Ls.keep (h : Ds.Ls W B v L) (hk : ∀ k, v.ownBlock = some k → W'.heap[k]? = W.heap[k]?) : Ds.Ls W' B v L := by
  refine ⟨h.1, ?_⟩
  rcases h.2 with h | ⟨g, cap, cur, rfl, hb, hg, r⟩
  · exact .inl h
  · exact .inr ⟨g, cap, cur, rfl, hb, (hk g rfl).trans hg, r⟩
theorem Ds.Ls.below (h : Ds.Ls W B v L) (hB : Below W.heap.size W W') : Ds.Ls W' B v L := h.keep fun k hk => hB.block k (h.lt hk).2
theorem Ds.Ls.less {B' : Nat} (h : Ds.Ls W B v L) (hb : B' ≤ B) : Ds.Ls W B' v L :=
  ⟨h.1, h.2.elim Or.inl (fun ⟨g, cap, cur, hv, hg, r⟩ => Or.inr ⟨g, cap, cur, hv, Nat.le_trans hb hg, r⟩)⟩
theorem Ds.Ls.nil (W : World) (B : Nat) : Ds.Ls W B (.slice none 0 0) [] := World.ownsRow_nil W B _ 3
theorem Ds.Ls.set1 {g c : Nat} (h : Ds.Ls W B (.slice (some ⟨g, 0, none⟩) L.length c) L) {k : Nat} {f : Dk.F} (hk : L[k]? = some f) (d : List UInt8) : Ds.Ls (W.setCell ⟨g, k * 3 + 1, none⟩ (Tx.v d)) B (.slice (some ⟨g, 0, none⟩) L.length c) (L.set k ⟨f.name, d, f.sure⟩) := by
  have := (World.ownsRow.stored h (k * 3 + 1) (Tx.v d)).1
  unfold Ds.Ls
  rw [List.length_set, ← Ds.cells_set1 L k f hk d]
  exact this
theorem Ds.Ls.set2 {g c : Nat} (h : Ds.Ls W B (.slice (some ⟨g, 0, none⟩) L.length c) L) {k : Nat} {f : Dk.F} (hk : L[k]? = some f) (n : Nat) : Ds.Ls (W.setCell ⟨g, k * 3 + 2, none⟩ (.int .i64 n)) B (.slice (some ⟨g, 0, none⟩) L.length c) (L.set k ⟨f.name, f.data, n⟩) := by
  have := (World.ownsRow.stored h (k * 3 + 2) (.int .i64 n)).1
  unfold Ds.Ls
  rw [List.length_set, ← Ds.cells_set2 L k f hk n]
  exact this
theorem Ds.Ls.set3 {g c : Nat} (h : Ds.Ls W B (.slice (some ⟨g, 0, none⟩) L.length c) L) {k : Nat} (hk : k < L.length) (f : Dk.F) : Ds.Ls (((W.setCell ⟨g, k * 3, none⟩ (Tx.v f.name)).setCell ⟨g, k * 3 + 1, none⟩ (Tx.v f.data)).setCell ⟨g, k * 3 + 2, none⟩ (.int .i64 f.sure)) B (.slice (some ⟨g, 0, none⟩) L.length c) (L.set k f) := by
  have h1 := (World.ownsRow.stored h (k * 3) (Tx.v f.name)).1
  have h2 := (World.ownsRow.stored h1 (k * 3 + 1) (Tx.v f.data)).1
  have h3 := (World.ownsRow.stored h2 (k * 3 + 2) (.int .i64 f.sure)).1
  unfold Ds.Ls
  rw [List.length_set, ← Ds.cells_set L k f hk]
  exact h3
end
/-- None of the first k has this name. -/
def Ds.No (L : List Dk.F) (k : Nat) (nm : List UInt8) : Prop := ∀ j, j < k → ∀ f, L[j]? = some f → f.name ≠ nm
theorem Ds.No.succ {L : List Dk.F} {k : Nat} {nm : List UInt8} (h : Ds.No L k nm) {f : Dk.F} (hf : L[k]? = some f) (hn : f.name ≠ nm) : Ds.No L (k + 1) nm := fun j hj g hg => by
  by_cases e : j = k
  · subst e
    rw [hf] at hg
    obtain rfl := Option.some.inj hg
    exact hn
  · exact h j (by omega) g hg
set_option maxRecDepth 100000 in
theorem Ds.at_any {W : World} {B : Nat} {v : Value} {L : List Dk.F} (h : Ds.Ls W B v L) (hl : L.length ≤ 9223372036854775806) (nb : ByteArray) (R : Int)
    (hR : ∀ k, Ds.No L k nb.data.toList → (k = L.length → R = -1) ∧ (∀ f, L[k]? = some f → f.name = nb.data.toList → R = k)) :
    Calls Try.prog 53 #[v, .string nb] W fun e W' => e = .returned (.int .i64 R) ∧ W = W' := by
  obtain ⟨a, c, rfl⟩ := h.form
  have HR : Hid _ := Lib.hid hR
  clear hR
  go_enter Try.func53, Try.ntmps53
  go_wp2_with fail
  go_loop [5] (fun i => ∃ k : Nat, k ≤ L.length ∧ i = .int .i64 k ∧ Ds.No L k nb.data.toList) (fun i => L.length - (intOf i).toNat)
  case atStart => exact ⟨0, Nat.zero_le _, rfl, fun j hj => by omega⟩
  case round =>
    obtain ⟨k, hk, rfl, HN⟩ := hrel
    by_cases hlt : k < L.length
    · obtain ⟨f, hf⟩ : ∃ f, L[k]? = some f := ⟨_, List.getElem?_eq_getElem hlt⟩
      obtain ⟨g, c', hv, c0, c1, c2, hfz⟩ := h.at_ hf
      injection hv with hv1 _ hv2
      subst hv1 hv2
      obtain ⟨xb, hxb, _⟩ := Tx.of f.name
      rw [Tx.v_eq hxb] at c0
      by_cases he : f.name = nb.data.toList
      · have hb : (xb.toList == nb.toList) = true := by rw [Tx.beq, hxb]; exact decide_eq_true he
        have hr : R = k := (HR.out k HN).2 f hf he
        subst hr
        clear hf hxb he c1 c2 hfz HN HR
        go_wp2_with fail
        go_ret
        exact ⟨rfl, rfl⟩
      · have hb : (xb.toList == nb.toList) = false := by rw [Tx.beq, hxb]; exact decide_eq_false he
        have HN2 := HN.succ hf he
        clear hf hxb he c1 c2 hfz HN
        go_wp2_with fail
        go_round
        case rel => exact ⟨k + 1, hlt, by go_num, HN2⟩
        case measure => simp [intOf]; omega
    · have hr : R = -1 := (HR.out k HN).1 (by omega)
      obtain rfl : k = L.length := by omega
      subst hr
      clear HN HR
      go_wp2_with fail
      go_ret
      exact ⟨rfl, rfl⟩
theorem Ds.one_cells (w : World) {nb db : ByteArray} {f : Dk.F} (h1 : nb.data.toList = f.name) (h2 : db.data.toList = f.data) : ∀ j u, (Ds.cells [f])[j]? = some u → (w.alloc (.cells #[.string nb, .string db, .int .i64 f.sure] 50)).cell? ((⟨w.heap.size, 0, none⟩ : Addr).add j) = some u := by
  intro j u hu
  rw [Dw.add_lit, Nat.zero_add]
  have hb := Blk.new w 50 #[.string nb, .string db, .int .i64 f.sure]
  rw [hb.cell j, ← hu, Ds.cells, Ds.cells, ← Tx.v_eq h1, ← Tx.v_eq h2]
  simp
theorem Ds.del_take {L : List Dk.F} {k : Nat} {f : Dk.F} (h : L[k]? = some f) (nm : List UInt8) : Dk.del Dk.F.name nm (L.take (k + 1)) = Dk.del Dk.F.name nm (L.take k) ++ (if f.name = nm then [] else [f]) := by
  unfold Dk.del
  rw [List.take_add_one, h, List.filter_append]
  congr 1
  show List.filter _ [f] = _
  rw [List.filter_cons]
  by_cases e : f.name = nm
  · rw [if_pos e, e]; simp
  · rw [if_neg e]; simp [e]
theorem Ds.Ls.three {W : World} {B : Nat} {v : Value} {l : List Dk.F} (h : Ds.Ls W B v l) {k : Nat} {f : Dk.F} (hk : l[k]? = some f) : ∃ g c nb db, v = .slice (some ⟨g, 0, none⟩) l.length c ∧ k < l.length ∧ nb.data.toList = f.name ∧ db.data.toList = f.data ∧ db.size = f.data.length ∧
    W.cell? ⟨g, k * 3, none⟩ = some (.string nb) ∧ W.cell? ⟨g, k * 3 + 1, none⟩ = some (.string db) ∧ W.cell? ⟨g, k * 3 + 2, none⟩ = some (.int .i64 f.sure) := by
  obtain ⟨g, c, hv, q0, q1, q2, _⟩ := h.at_ hk
  obtain ⟨nb, hnb, _⟩ := Tx.of f.name
  obtain ⟨db, hdb, hds⟩ := Tx.of f.data
  rw [Tx.v_eq hnb] at q0
  rw [Tx.v_eq hdb] at q1
  exact ⟨g, c, nb, db, hv, (List.getElem?_eq_some_iff.1 hk).1, hnb, hdb, hds, q0, q1, q2⟩
set_option maxRecDepth 100000 in
set_option maxHeartbeats 1000000 in
theorem Ds.drop_any {W : World} {B : Nat} {v : Value} {L : List Dk.F} (h : Ds.Ls W B v L) (hl : L.length ≤ 1000000000) (nb : ByteArray) :
    Calls Try.prog 54 #[v, .string nb] W fun e W' => ∃ v', e = .returned v' ∧ Ds.Ls W' W.heap.size v' (Dk.del Dk.F.name nb.data.toList L) ∧ Below W.heap.size W W' := by
  obtain ⟨i0, hi, hz0, hz1, hz2⟩ := info_parts Try.infoKnown
  obtain ⟨a, c, rfl⟩ := h.form
  go_enter Try.func54, Try.ntmps54
  go_wp2_with fail
  go_loopw [5, 6] (fun o i wr => ∃ k : Nat, k ≤ L.length ∧ i = .int .i64 k ∧ Ds.Ls wr W.heap.size o (Dk.del Dk.F.name nb.data.toList (L.take k)) ∧ Below W.heap.size W wr) (fun _ i _ => L.length - (intOf i).toNat)
  case atStart => exact ⟨0, Nat.zero_le _, rfl, Ds.Ls.nil _ _, Below.refl _ _⟩
  case round =>
    obtain ⟨k, hk, rfl, HO, hB⟩ := hrel
    by_cases hlt : k < L.length
    · obtain ⟨f, hf⟩ : ∃ f, L[k]? = some f := ⟨_, List.getElem?_eq_getElem hlt⟩
      have hdt := Ds.del_take hf nb.data.toList
      obtain ⟨g, c', xb, db, hv, _, hxb, hdb, _, c0, c1, c2⟩ := (h.below hB).three hf
      injection hv with hv1 _ hv2
      subst hv1 hv2
      by_cases he : f.name = nb.data.toList
      · have hb1 : (xb.toList == nb.toList) = true := by rw [Tx.beq, hxb]; exact decide_eq_true he
        have hb : (xb.toList != nb.toList) = false := by simp [bne, hb1]
        rw [if_pos he, List.append_nil] at hdt
        rw [← hdt] at HO
        obtain ⟨oa, oc, rfl⟩ := HO.form
        have HO2 := HO
        clear hf hxb hdb he c1 c2 hdt
        go_wp2_with fail
        go_roundw
        case rel => exact ⟨k + 1, hlt, by go_num, HO2, hB⟩
        case measure => simp [intOf]; omega
      · have hb1 : (xb.toList == nb.toList) = false := by rw [Tx.beq, hxb]; exact decide_eq_false he
        have hb : (xb.toList != nb.toList) = true := by simp [bne, hb1]
        rw [if_neg he] at hdt
        have hle : (Dk.del Dk.F.name nb.data.toList (L.take k)).length ≤ L.length := by
          refine Nat.le_trans (List.length_filter_le _ _) ?_
          rw [List.length_take]; omega
        obtain ⟨l0, hl0⟩ : ∃ l0, Dk.del Dk.F.name nb.data.toList (L.take k) = l0 := ⟨_, rfl⟩
        rw [hl0] at hdt HO hle
        obtain ⟨oa, oc, rfl⟩ := HO.form
        have hone := Ds.one_cells wr hxb hdb
        have HDT := Lib.hid hdt
        clear hf hxb hdb he hdt hl0
        go_wp2_with (at_builtin; refine wpList_append_own _ rfl (.tmp 20) (.tmp 25) 42 rfl W.heap.size 50 i0 (.agg #[.string ⟨#[]⟩, .string ⟨#[]⟩, .int .i64 0]) 3 40 Try.underlying42 hi hz0 hz1 hz2 rfl (by decide) _ _ _ rfl (World.ownsRow.alloc HO _) ⟨wr.heap.size, 0, none⟩ 1 1 (Ds.cells [f]) rfl rfl hone (Ds.cells_one _) (by unfold maxLen; omega) (by omega) (by have := hB.size; simp; omega) ?_; intro v2 w2 hown2 hgrow2 _)
        go_roundw
        case rel =>
          refine ⟨k + 1, hlt, by go_num, ?_, (hB.alloc hB.size _).grown hgrow2 (by have := hB.size; simp; omega) (fun q hq => (HO.lt hq).1)⟩
          rw [HDT.out]
          unfold Ds.Ls
          rw [List.length_append, Ds.cells_append]
          exact hown2
        case measure => simp [intOf]; omega
    · obtain rfl : k = L.length := by omega
      rw [List.take_length] at HO
      go_wp2_with fail
      go_ret
      exact ⟨_, rfl, HO, hB⟩
#print axioms Ds.at_any
#print axioms Ds.drop_any
end Go.Proofs.Ytgbeeghdoilmkaa
