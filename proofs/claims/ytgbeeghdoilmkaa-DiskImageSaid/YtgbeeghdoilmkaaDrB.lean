/- Disks (the document's): what is used, names, images. Conditions: each theorem's own hypotheses. -/
import Derived.Test.YtgbeeghdoilmkaaDrA
namespace Go.Proofs.Ytgbeeghdoilmkaa
open Go.RowKit Go.Maps Go.Sort
set_option linter.unusedVariables false

theorem Dk.used_take (l : List Dk.F) (k : Nat) : Dk.used (l.take k) ≤ Dk.used l := by
  have := Dk.used_append (l.take k) (l.drop k)
  rw [List.take_append_drop] at this
  omega
theorem Dk.used_more {l : List Dk.F} {k : Nat} {f : Dk.F} (h : l[k]? = some f) : Dk.used (l.take (k + 1)) = Dk.used (l.take k) + f.data.length := by
  rw [Dk.take_more h, Dk.used_append]
  show _ + (f.data.length + 0) = _
  omega
section
variable {W : World} {r : Nat} {m : Dk.M} {F : Nat → Prop}
set_option maxRecDepth 100000 in
set_option maxHeartbeats 1000000 in
theorem Dr.used_any (h : Dr.At W r m F) (hu : Dk.used m.files ≤ 1099511627776) (hm : m.files.length ≤ 4096) :
    Calls Try.prog 40 #[.pointer (some ⟨r, 0, none⟩)] W fun e W' => e = .returned (.int .i64 (Dk.used m.files)) ∧ W = W' := by
  obtain ⟨v, hS, rfl⟩ := h
  obtain ⟨c0, c1, c2, c3, c4, c5, c6⟩ := hS.seven
  obtain ⟨a, c, hv⟩ := hS.row.form
  rw [hv] at c1
  go_enter Try.func40, Try.ntmps40
  go_wp2_with fail
  go_loop [3, 4] (fun n i => ∃ k : Nat, k ≤ m.files.length ∧ i = .int .i64 k ∧ Hid (n = .int .i64 (Dk.used (m.files.take k)))) (fun _ i => m.files.length - (intOf i).toNat)
  case atStart => exact ⟨0, Nat.zero_le _, rfl, Lib.hid rfl⟩
  case round =>
    obtain ⟨k, hk, rfl, HN⟩ := hrel
    obtain rfl := HN.out
    by_cases hlt : k < m.files.length
    · obtain ⟨f, hf⟩ : ∃ f, m.files[k]? = some f := ⟨_, List.getElem?_eq_getElem hlt⟩
      obtain ⟨g, c', hv2, q1, q2, q3⟩ := hS.row.at_ hf
      rw [hv] at hv2
      injection hv2 with hv2 _ hc
      subst hv2 hc
      obtain ⟨db, hdb, hdbs⟩ := Tx.of f.data
      rw [Tx.v_eq hdb] at q2
      have h1 := Dk.used_more hf
      have h2 := Dk.used_take m.files (k + 1)
      obtain ⟨u, hu0⟩ : ∃ u, Dk.used (m.files.take k) = u := ⟨_, rfl⟩
      rw [hu0] at h1 ⊢
      have hwr : IntKind.i64.wrap ((u : Int) + (db.size : Int)) = ((Dk.used (m.files.take (k + 1)) : Nat) : Int) := (IntWalk.i64_in _ (by omega)).trans (by omega)
      have HU := Lib.hid hu
      clear HN hu0 h1 h2 hf hdbs hv c0 c2 c3 c4 c5 c6 hu q1 q3
      go_wp2_with fail
      go_round
      case rel => exact ⟨k + 1, hlt, by go_num, Lib.hid rfl⟩
      case measure => simp [intOf]; omega
    · obtain rfl : k = m.files.length := by omega
      rw [List.take_length]
      clear HN hu
      go_wp2_with fail
      go_ret
      exact ⟨rfl, rfl⟩
set_option maxRecDepth 100000 in
set_option maxHeartbeats 1000000 in
theorem Dr.names_any (h : Dr.At W r m F) (hm : m.files.length ≤ 4096) :
    Calls Try.prog 36 #[.pointer (some ⟨r, 0, none⟩)] W fun e W' => ∃ v, e = .returned v ∧
      W'.ownsRow W.heap.size 9 1 v (Dk.told m).length ((Dk.told m).map encStr) ∧ Below W.heap.size W W' := by
  obtain ⟨i0, hi, hz0, hz1, hz2⟩ := info_parts Dk.strInfo
  obtain ⟨v, hS, rfl⟩ := h
  obtain ⟨c0, c1, c2, c3, c4, c5, c6⟩ := hS.seven
  obtain ⟨a, c, hv⟩ := hS.row.form
  rw [hv] at c1
  unfold Dk.told
  cases ho : m.off with
  | true =>
    rw [ho] at c2
    rw [if_pos rfl]
    go_enter Try.func36, Try.ntmps36
    go_wp2_with fail
    go_ret
    exact ⟨_, rfl, World.ownsRow_nil _ _ _ _, Below.refl _ _⟩
  | false =>
    rw [ho] at c2
    rw [if_neg (by decide), List.length_map]
    clear ho c0 c3 c4 c5 c6
    go_enter Try.func36, Try.ntmps36
    go_wp2_with fail
    go_loopw [3, 4] (fun l i wr => ∃ k : Nat, k ≤ m.files.length ∧ i = .int .i64 k ∧ wr.ownsRow W.heap.size 9 1 l k (((m.files.take k).map Dk.F.name).map encStr) ∧ Below W.heap.size W wr) (fun _ i _ => m.files.length - (intOf i).toNat)
    case atStart => exact ⟨0, Nat.zero_le _, rfl, World.ownsRow_nil _ _ _ _, Below.refl _ _⟩
    case round =>
      obtain ⟨k, hk, rfl, hrow, hB⟩ := hrel
      have hSr := hS.later hB (Nat.le_refl _)
      obtain ⟨d0, d1, d2, d3, d4, d5, d6⟩ := hSr.seven
      rw [hv] at d1
      by_cases hlt : k < m.files.length
      · obtain ⟨f, hf⟩ : ∃ f, m.files[k]? = some f := ⟨_, List.getElem?_eq_getElem hlt⟩
        obtain ⟨g, c', hv2, q1, q2, q3⟩ := hSr.row.at_ hf
        rw [hv] at hv2
        injection hv2 with hv2 _ hc
        subst hv2 hc
        have hmore := Lib.hid (Dk.take_more hf)
        obtain ⟨nb, hnb, _⟩ := Tx.of f.name
        have hnv := Tx.v_eq hnb
        rw [hnv] at q1
        have HNV := Lib.hid hnv
        have HV := Lib.hid hv
        clear hf hv d0 d2 d3 d4 d5 d6 q2 q3 hnb hnv
        go_wp2_with (at_builtin; refine wpList_append_own _ rfl _ _ 63 rfl W.heap.size 9 i0 (.string ⟨#[]⟩) 1 16 Try.underlying63 hi hz0 hz1 hz2 rfl (by decide) _ _ _ rfl (hrow.alloc _) ⟨wr.heap.size, 0, none⟩ 1 1 [.string nb] rfl rfl (cell_one_new _ _ _) (by simp [Value.oneCell']) (by unfold maxLen at *; omega) (by omega) (by have := hB.size; simp; omega) ?_; intro v' w3 hown' hg3 hnil3)
        go_roundw
        case rel =>
          refine ⟨k + 1, hlt, by go_num, ?_, (hB.alloc hB.size _).grown hg3 (by have := hB.size; simp; omega) (fun j hj => (World.ownsRow.lt hrow j hj).1)⟩
          rw [hmore.out, List.map_append, List.map_append]
          show World.ownsRow _ _ _ _ _ _ (_ ++ [Tx.v f.name])
          rw [HNV.out]
          exact hown'
        case measure => simp [intOf]; omega
      · obtain rfl : k = m.files.length := by omega
        rw [List.take_length] at hrow
        have HV := Lib.hid hv
        clear hv
        go_wp2_with fail
        go_ret
        exact ⟨_, rfl, hrow, hB⟩
end
end Go.Proofs.Ytgbeeghdoilmkaa
