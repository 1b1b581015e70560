/- Law DiskNew: whatever the image and the capacity: it returns true. Conditions: each theorem's own hypotheses. -/
import Derived.Test.YtgbeeghdoilmkaaDwA
namespace Go.Proofs.Ytgbeeghdoilmkaa
open Go.RowKit Go.Maps Go.Sort
set_option linter.unusedVariables false

theorem Dk.code_at {m : Dk.M} (hG : Dk.Good m) (ho : m.off = false) {k : Nat} {f : Dk.F} (hf : m.files[k]? = some f) : Dk.code m f.name = 0 ∧ Dk.data m f.name = f.data := by
  have hg := Dk.get_at hG.up hf
  have hn := (hG.file f (List.mem_of_getElem? hf)).1
  unfold Dk.code Dk.data
  rw [ho, hn, hg]
  exact ⟨rfl, rfl⟩
theorem Dk.read_all {m : Dk.M} (hG : Dk.Good m) (ho : m.off = false) {k : Nat} {f : Dk.F} (hf : m.files[k]? = some f) : Dk.readV m f.name 0 (f.data.length : Nat) = .tuple #[Tx.v f.data, .int .i64 0] := by
  obtain ⟨h1, h2⟩ := Dk.code_at hG ho hf
  unfold Dk.readV
  rw [if_pos h1, h2, if_neg (by omega)]
  rw [Int.toNat_natCast, show (0 : Int).toNat = 0 from rfl, List.drop_zero, List.take_length]
theorem Dk.opened_off {l : List UInt8} {c : Int} {m : Dk.M} (h : Dk.opened l c = .ok m) : m.off = false ∧ m.cap = c.toNat ∧ 0 ≤ c ∧ c ≤ 1073741824 := by
  unfold Dk.opened at h
  split at h
  · cases h
  · rename_i hc
    cases l with
    | nil => cases h
    | cons x r =>
      simp only at h
      split at h
      · cases hs : Dk.scan (r.length + 1) [] r with
        | none => rw [hs] at h; cases h
        | some fs =>
          rw [hs] at h
          unfold Dk.verdict at h
          simp only at h
          split at h
          · cases h
          · injection h with h
            subst h
            exact ⟨rfl, rfl, by omega, by omega⟩
      · cases h
theorem Dk.opened_error {l : List UInt8} {c x : Int} (h : Dk.opened l c = .error x) : x = 13 ∨ x = 46 ∨ x = 44 := by
  unfold Dk.opened at h
  split at h
  · injection h with h; exact .inl h.symm
  · cases l with
    | nil => injection h with h; exact .inr (.inl h.symm)
    | cons y r =>
      simp only at h
      split at h
      · cases hs : Dk.scan (r.length + 1) [] r with
        | none => rw [hs] at h; injection h with h; exact .inr (.inl h.symm)
        | some fs =>
          rw [hs] at h
          unfold Dk.verdict at h
          simp only at h
          split at h
          · injection h with h; exact .inr (.inr h.symm)
          · cases h
      · injection h with h; exact .inr (.inl h.symm)
set_option maxRecDepth 100000 in
set_option maxHeartbeats 4000000 in
theorem Dw.diskNew (W : World) (s : ByteArray) (hs : s.size ≤ 9223372036854775807) (n : Int) (hn : -9223372036854775808 ≤ n ∧ n < 9223372036854775808) :
    Calls Try.prog 3 #[.string s, .int .i64 n] W fun e W' => e = .returned (.bool true) ∧ Below W.heap.size W W' := by
  obtain ⟨Z, hZ⟩ : ∃ Z, Dk.opened s.data.toList n = Z := ⟨_, rfl⟩
  have k3 : ∀ w, _ := fun w => Dk.open_any w s hs n hn
  have k4 : ∀ w, _ := fun w => Dr.open_any w s hs n hn
  rw [hZ] at k3 k4
  by_cases hc : n < 0 ∨ 1073741824 < n
  · have hz : Z = .error 13 := by
      rw [← hZ]; unfold Dk.opened; rw [if_pos hc]
    subst hz
    have k1 : ∀ w, _ := fun w => Dk.new_none n hc w
    have k2 : ∀ w, _ := fun w => Dr.new_none n hc w
    clear hZ hc
    go_enter Try.func3, Try.ntmps3
    go_wp2_with (first
      | (go_at_call 9; refine (k1 _).mono ?_; rintro e w1 ⟨rfl, rfl⟩)
      | (go_at_call 10; refine (k2 _).mono ?_; rintro e w1 ⟨rfl, rfl⟩)
      | (go_at_call 11; refine (k3 _).mono ?_; rintro e w3 ⟨d, rfl, b3, _⟩; unfold Dk.openV)
      | (go_at_call 12; refine (k4 _).mono ?_; rintro e w4 ⟨r, rfl, b4, _⟩; unfold Dr.openV))
    go_ret
    exact ⟨rfl, b3.trans (b4.mono b3.size)⟩
  · obtain ⟨c, rfl⟩ := Int.eq_ofNat_of_zero_le (show 0 ≤ n by omega)
    have hfg : Dk.Good (Dk.fresh c) := Dk.fresh_good c (by omega)
    have k1 := Dk.new_any c (by omega) W
    have k2 : ∀ w, _ := fun w => Dr.new_any c (by omega) w
    cases Z with
    | error x =>
      have hx := Dk.opened_error hZ
      have hwx : IntKind.i64.wrap x = x := IntWalk.i64_in _ (by omega)
      clear hZ hc hx
      go_enter Try.func3, Try.ntmps3
      go_wp2_with (first
        | (go_at_call 9; refine k1.mono ?_; rintro e w1 ⟨d0, F0, rfl, A1, b1, f1⟩)
        | (go_at_call 10; refine (k2 _).mono ?_; rintro e w2 ⟨r0, G0, rfl, A2, b2, f2⟩)
        | (go_at_call 11; refine (k3 _).mono ?_; rintro e w3 ⟨d, rfl, b3, _⟩; unfold Dk.openV)
        | (go_at_call 12; refine (k4 _).mono ?_; rintro e w4 ⟨r, rfl, b4, _⟩; unfold Dr.openV
           have b5 := (b2.trans (b3.mono b2.size)).trans (b4.mono (Nat.le_trans b2.size b3.size))
           have b6 := b1.trans (b5.mono b1.size)
           have k5 := Dw.alike_any (A1.later b5 (Nat.le_refl _)) (A2.later (b3.trans (b4.mono b3.size)) (Nat.le_refl _)) hfg)
        | (go_at_call 13; refine k5.mono ?_; rintro e w5 ⟨rfl, b7⟩))
      go_ret
      exact ⟨rfl, b6.trans (b7.mono b6.size)⟩
    | ok m =>
      obtain ⟨hG, hF⟩ := Dk.opened_good hZ
      obtain ⟨hoff, _⟩ := Dk.opened_off hZ
      clear hZ hc
      go_enter Try.func3, Try.ntmps3
      go_upto_region 14 with (first
        | (go_at_call 9; refine k1.mono ?_; rintro e w1 ⟨d0, F0, rfl, A1, b1, f1⟩)
        | (go_at_call 10; refine (k2 _).mono ?_; rintro e w2 ⟨r0, G0, rfl, A2, b2, f2⟩)
        | (go_at_call 11; refine (k3 _).mono ?_; rintro e w3 ⟨d, rfl, b3, A0⟩; unfold Dk.openV; obtain ⟨F3, A3, f3⟩ := A0 m rfl; clear A0)
        | (go_at_call 12; refine (k4 _).mono ?_; rintro e w4 ⟨r, rfl, b4, A0⟩; unfold Dr.openV; obtain ⟨F4, A4, f4⟩ := A0 m rfl; clear A0
           have b5 := (b2.trans (b3.mono b2.size)).trans (b4.mono (Nat.le_trans b2.size b3.size))
           have b6 := b1.trans (b5.mono b1.size)
           have k5 := Dw.alike_any (A1.later b5 (Nat.le_refl _)) (A2.later (b3.trans (b4.mono b3.size)) (Nat.le_refl _)) hfg
           have A5 := A3.later b4 (Nat.le_refl _))
        | (go_at_call 13; refine k6.mono ?_; rintro e w6 ⟨rfl, b9⟩; have b10 := b8.trans (b9.mono b8.size); have A7 := (A5.later b7 (Nat.le_refl _)).later b9 (Nat.le_refl _); have A8 := (A4.later b7 (Nat.le_refl _)).later b9 (Nat.le_refl _))
        | (go_at_call 13; refine k5.mono ?_; rintro e w5 ⟨rfl, b7⟩; have b8 := b6.trans (b7.mono b6.size); clear k5; have k6 := Dw.alike_any (A5.later b7 (Nat.le_refl _)) (A4.later b7 (Nat.le_refl _)) hG))
      obtain ⟨v, hS, hGG⟩ := A8
      obtain ⟨c0, c1, c2, c3, c4, c5, c6⟩ := hS.seven
      obtain ⟨a, cp, hv⟩ := hS.row.form
      rw [hv] at c1
      have hmany := hG.many
      clear k1 k2 k3 k4 k6 A1 A2 A3 A5 A4 hfg f1 f2 f3 f4 b1 b2 b3 b4 b5 b6 b7 b8 b9 c0 c2 c3 c4 c5 c6
      go_wp2_with fail
      go_loopw [13] (fun i wr => ∃ k n : Nat, k ≤ m.files.length ∧ i = .int .i64 k ∧ wr = w6.drewN n) (fun i _ => m.files.length - (intOf i).toNat)
      case atStart => exact ⟨0, 0, Nat.zero_le _, rfl, rfl⟩
      case round =>
        obtain ⟨k, n, hk, rfl, rfl⟩ := hrel
        by_cases hlt : k < m.files.length
        · obtain ⟨f, hf⟩ : ∃ f, m.files[k]? = some f := ⟨_, List.getElem?_eq_getElem hlt⟩
          obtain ⟨g, c', hv2, q0, q1, q2⟩ := hS.row.at_ hf
          rw [hv] at hv2
          injection hv2 with hv2 _ hc
          subst hv2
          clear hc
          obtain ⟨hf1, hf2, hf3⟩ := hG.file f (List.mem_of_getElem? hf)
          have hf4 : f.name.length ≤ 32 := by
            have h := hf1
            unfold Dk.named at h
            rw [Bool.and_eq_true, decide_eq_true_iff] at h
            exact h.2.2
          have hread := Dk.read_all hG hoff hf
          obtain ⟨nb, hnb, hnbs⟩ := Tx.of f.name
          obtain ⟨db, hdb, hdbs⟩ := Tx.of f.data
          have hcall : ∀ w, Below w6.heap.size w6 w → Calls Try.prog 14 #[.pointer (some ⟨d, 0, none⟩), .string nb, .int .i64 0, .int .i64 (db.size : Int)] w fun e W' => e = .returned (.tuple #[.string db, .int .i64 0]) ∧ W' = w := fun w hB => by
            have h := Dk.read_any (A7.later hB (Nat.le_refl _)) hG nb (by omega) 0 (db.size : Int) (by omega) (by omega)
            rw [hnb, hdbs, hread, Tx.v_eq hdb, ← hdbs] at h
            exact h.mono fun _ _ ⟨x, y⟩ => ⟨x, y.symm⟩
          rw [Tx.v_eq hnb] at q0
          rw [Tx.v_eq hdb] at q1
          have hbb : (db.toList == db.toList) = true := by simp
          have HV := Lib.hid hv
          obtain ⟨wr, hwr⟩ : ∃ wr, w6.drewN n = wr := ⟨_, rfl⟩
          have hB6 : Below w6.heap.size w6 wr := by rw [← hwr]; exact below_dn (Below.refl _ _) n
          have c1' : wr.cell? ⟨r, 1, none⟩ = some (.slice (some ⟨g, 0, none⟩) m.files.length cp) := by rw [← hwr]; exact c1
          have q0' : wr.cell? ⟨g, k * 3, none⟩ = some (.string nb) := by rw [← hwr]; exact q0
          have q1' : wr.cell? ⟨g, k * 3 + 1, none⟩ = some (.string db) := by rw [← hwr]; exact q1
          rw [hwr]
          have HWR := Lib.hid hwr
          clear hread hf hnb hnbs hdb hdbs hv hf1 hf2 hf3 hf4 hwr c1 q0 q1
          go_wp2_with fail
          go_quiet ((go_at_call 14; exact Calls.quiet_of_same (hcall _ (below_dn hB6 _))))
          go_wp2_with fail
          go_roundw
          case rel => exact ⟨k + 1, _, hlt, by go_num, by rw [← HWR.out, World.drewN_drewN]⟩
          case measure => simp [intOf]; omega
        · obtain rfl : k = m.files.length := by omega
          have HV := Lib.hid hv
          clear hv
          go_wp2_with fail
          go_ret
          exact ⟨rfl, below_dn b10 n⟩
/-- .. as the statement's arguments come. -/
theorem Dw.diskNew_bare (s : ByteArray) (n : Int) (hs : s.size ≤ 140737488355328) (hw : (Lit.int .i64 n).wf = true) (W : World) :
    Calls Try.prog 3 #[.string s, .int .i64 n] W fun e W' => e = .returned (.bool true) ∧ Below W.heap.size W W' :=
  Dw.diskNew W s (by omega) n (by simp [Lit.wf, IntKind.min, IntKind.max, IntKind.bits, IntKind.signed] at hw; omega)
end Go.Proofs.Ytgbeeghdoilmkaa
