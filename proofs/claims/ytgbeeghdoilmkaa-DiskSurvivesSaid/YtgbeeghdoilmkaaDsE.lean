/- What is known of files: the helper holds. Conditions: each theorem's own hypotheses. -/
import Derived.Test.YtgbeeghdoilmkaaDsD
import Derived.Test.YtgbeeghdoilmkaaDrF
namespace Go.Proofs.Ytgbeeghdoilmkaa
open Go.RowKit Go.Maps Go.Sort
set_option linter.unusedVariables false

theorem Ds.size_at {m : Dk.M} (hG : Dk.Good m) (ho : m.off = false) {k : Nat} {f : Dk.F} (hf : m.files[k]? = some f) : Dk.sizeV m f.name = .tuple #[.int .i64 (f.data.length : Nat), .int .i64 0] := by
  obtain ⟨h1, h2⟩ := Dk.code_at hG ho hf
  unfold Dk.sizeV
  rw [if_pos h1, h2]
theorem Ds.up_at {m : Dk.M} (hG : Dk.Good m) {k : Nat} {f g : Dk.F} (hf : m.files[k]? = some f) (hg : m.files[k + 1]? = some g) : bytesBefore f.name g.name = true := by
  obtain ⟨h1, e1⟩ := List.getElem?_eq_some_iff.1 hf
  obtain ⟨h2, e2⟩ := List.getElem?_eq_some_iff.1 hg
  have := List.pairwise_iff_getElem.1 hG.up k (k + 1) h1 h2 (Nat.lt_succ_self k)
  rw [e1, e2] at this
  exact this
set_option maxRecDepth 100000 in
set_option maxHeartbeats 4000000 in
theorem Ds.holds_any {w : World} {d B : Nat} {m : Dk.M} {F : Nat → Prop} {v : Value} {L : List Dk.F} (h : Dk.At w d m F) (hG : Dk.Good m) (ho : m.off = false) (hL : Ds.Ls w B v L) (hp : L.Perm m.files) :
    Calls Try.prog 22 #[.pointer (some ⟨d, 0, none⟩), v] w fun e W' => e = .returned (.bool true) ∧ Below w.heap.size w W' := by
  have k1 := Dk.Names_any h hG
  have htold : Dk.told m = m.files.map Dk.F.name := by unfold Dk.told; rw [ho, if_neg (by decide)]
  rw [htold] at k1
  have hlen : L.length = m.files.length := hp.length_eq
  have hmany := hG.many
  have hcap := hG.cap
  have hused := hG.used
  obtain ⟨a, c, rfl⟩ := hL.form
  have hnl : (m.files.map Dk.F.name).length = m.files.length := List.length_map ..
  have ku : ∀ w2, Below w.heap.size w w2 → Calls Try.prog 26 #[.pointer (some ⟨d, 0, none⟩)] w2 fun e W' => e = .returned (.int .i64 (Dk.used m.files)) ∧ w2 = W' := fun w2 hB => Dk.used_any (h.later hB (Nat.le_refl _))
  have kr : ∀ w2, Below w.heap.size w w2 → Calls Try.prog 44 #[.pointer (some ⟨d, 0, none⟩)] w2 fun e W' => e = .returned (.int .i64 m.cap) ∧ w2 = W' := fun w2 hB => Dk.room_any (h.later hB (Nat.le_refl _))
  have hnod : (L.map Dk.F.name).Nodup := (hp.map _).nodup_iff.2 (Ds.nodup hG.up)
  have HL := Lib.hid hlen
  have HNL := Lib.hid hnl
  obtain ⟨nn, hnn⟩ : ∃ nn, m.files.length = nn := ⟨_, rfl⟩
  rw [hlen, hnn]
  have HNN := Lib.hid hnn
  go_enter Try.func22, Try.ntmps22
  go_upto_region 2 with (go_at_call 31; refine k1.mono ?_; rintro e w1 ⟨v1, rfl, hT, b1⟩)
  have hT : Dw.Txs w1 w.heap.size v1 (m.files.map Dk.F.name) := hT
  obtain ⟨na, nc, hv1⟩ := hT.form
  rw [hnl, hnn] at hv1
  subst hv1
  clear hlen hnl hnn k1
  go_wp2_with fail
  go_loopw [6, 7] (fun t i wr => ∃ k q : Nat, k ≤ nn ∧ i = .int .i64 k ∧ Hid (t = .int .i64 (Dk.used (m.files.take k))) ∧ wr = w1.drewN q) (fun _ i _ => nn - (intOf i).toNat)
  case atStart => exact ⟨0, 0, Nat.zero_le _, rfl, Lib.hid rfl, rfl⟩
  case round =>
    obtain ⟨k, q, hk, rfl, HT, rfl⟩ := hrel
    have b2 : Below w.heap.size w (w1.drewN q) := below_dn b1 q
    obtain rfl := HT.out
    by_cases hlt : k < nn
    · obtain ⟨f, hf⟩ : ∃ f, m.files[k]? = some f := ⟨_, List.getElem?_eq_getElem (by rw [HNN.out]; exact hlt)⟩
      have hfm := List.mem_of_getElem? hf
      obtain ⟨hf1, hf2, hf3⟩ := hG.file f hfm
      obtain ⟨j, hj1, hj2⟩ := Ds.place L f (hp.mem_iff.2 hfm) hnod
      have hL1 : Ds.Ls (w1.drewN q) B (.slice a L.length c) L := hL.below b2
      obtain ⟨g, c', fb, fd, hv, hjlt, hfb, hfd, hfds, c0, c1, c2⟩ := (hL.below b1).three hj1
      injection hv with hv1 _ hv2
      subst hv1 hv2
      obtain ⟨g1, cc1, hv3, n0⟩ := hT.at_ (k := k) (x := f.name) (by rw [List.getElem?_map, hf]; rfl)
      rw [HNL.out, HNN.out] at hv3
      injection hv3 with hv3 _ hv4
      subst hv3 hv4
      rw [Tx.v_eq hfb] at n0
      have ka := Ds.at_any hL1 (by rw [HL.out]; omega) fb j fun i hi => ⟨fun e => by
          exact absurd hfb.symm (hi j (by omega) f hj1), fun x hx e => by
          rw [hfb] at hi e
          by_cases e1 : i < j
          · exact absurd e (hj2 i e1 x hx)
          by_cases e2 : j < i
          · exact absurd rfl (hi j e2 f hj1)
          rw [show i = j by omega]⟩
      rw [HL.out, HNN.out] at ka
      have hread := Dk.read_all hG ho hf
      have hsz := Ds.size_at hG ho hf
      have hn32 : f.name.length ≤ 32 := by
        have h := hf1
        unfold Dk.named at h
        rw [Bool.and_eq_true, decide_eq_true_iff] at h
        exact h.2.2
      have fbs : fb.size ≤ 9223372036854775807 := by rw [Tx.size, hfb]; omega
      have kd : ∀ z, Calls Try.prog 14 #[.pointer (some ⟨d, 0, none⟩), .string fb, .int .i64 0, .int .i64 (fd.size : Int)] (w1.drewN z) fun e W' => e = .returned (.tuple #[.string fd, .int .i64 0]) ∧ w1.drewN z = W' := fun z => by
        have h := Dk.read_any (h.later (below_dn b1 z) (Nat.le_refl _)) hG fb fbs 0 (fd.size : Int) (by omega) (by omega)
        rw [hfb, hfds, hread, Tx.v_eq hfd, ← hfds] at h
        exact h
      have ks : ∀ z, Calls Try.prog 50 #[.pointer (some ⟨d, 0, none⟩), .string fb] (w1.drewN z) fun e W' => e = .returned (.tuple #[.int .i64 (fd.size : Int), .int .i64 0]) ∧ w1.drewN z = W' := fun z => by
        have h := Dk.size_any (h.later (below_dn b1 z) (Nat.le_refl _)) fb fbs
        rw [hfb, hsz, ← hfds] at h
        exact h
      have hum := Dk.used_more hf
      have hut := Dk.used_take m.files (k + 1)
      obtain ⟨u, hu0⟩ : ∃ u, Dk.used (m.files.take k) = u := ⟨_, rfl⟩
      rw [hu0] at hum ⊢
      have hwr : IntKind.i64.wrap ((u : Int) + (fd.size : Int)) = ((Dk.used (m.files.take (k + 1)) : Nat) : Int) := (IntWalk.i64_in _ (by omega)).trans (by omega)
      obtain ⟨u2, hu2⟩ : ∃ u2, Dk.used (m.files.take (k + 1)) = u2 := ⟨_, rfl⟩
      rw [hu2] at hwr
      have HU2 := Lib.hid hu2
      have hjn : j < nn := by have h1 := HL.out; have h2 := HNN.out; omega
      have tj : decide ((j : Int) < 0) = false := decide_eq_false (by omega)
      cases k with
      | zero =>
        clear hf hfm hj1 hj2 hfb hfd hfds hum hut hu0 hu2 hread hsz HT hL1 hn32
        go_upto_region 9 with (go_at_call 53; refine ka.mono ?_; rintro e w' ⟨rfl, rfl⟩)
        go_quiet (fail)
        go_wp2_with (first
          | (go_at_call 14; refine (kd _).mono ?_; rintro e w' ⟨rfl, rfl⟩)
          | (go_at_call 50; refine (ks _).mono ?_; rintro e w' ⟨rfl, rfl⟩))
        go_roundw
        case rel => exact ⟨1, _, hlt, by go_num, by show _ = _; rw [HU2.out], by first | rfl | rw [World.drewN_drewN]⟩
        case measure => simp [intOf]; omega
      | succ k =>
        obtain ⟨f0, hf0⟩ : ∃ f0, m.files[k]? = some f0 := ⟨_, List.getElem?_eq_getElem (by rw [HNN.out]; omega)⟩
        have hup := Ds.up_at hG hf0 hf
        obtain ⟨f0b, hf0b, _⟩ := Tx.of f0.name
        obtain ⟨g9, cc9, hv9, n9⟩ := hT.at_ (k := k) (x := f0.name) (by rw [List.getElem?_map, hf0]; rfl)
        injection hv9 with hv9 hv98 hv99
        injection hv9 with hv9
        injection hv9 with hv9
        subst hv9
        rw [Tx.v_eq hf0b] at n9
        have tg := fun W => Dr.run_geq (P := Try.prog) f0b fb 9 true (by rw [Dk.less_eq, ByteArray.toList_eq, ByteArray.toList_eq, hf0b, hfb]; exact hup) W
        have hn4 : nn ≤ 4096 := by have := HNN.out; omega
        have wk : IntKind.i64.wrap (((k + 1 : Nat) : Int) - 1) = (k : Int) := (IntWalk.i64_in _ (by omega)).trans (by omega)
        have tk : decide (0 < ((k + 1 : Nat) : Int)) = true := decide_eq_true (by omega)
        have hk0 : k < nn := by omega
        obtain ⟨k1, hk1⟩ : ∃ k1, k + 1 = k1 := ⟨_, rfl⟩
        rw [hk1] at wk tk n0 hlt hk HU2 ⊢
        have tk2 : decide (0 < k1) = true := decide_eq_true (by omega)
        have HK1 := Lib.hid hk1
        clear hf hfm hj1 hj2 hfb hfd hfds hum hut hu0 hu2 hread hsz HT hL1 hn32 hf0 hf0b hup hk1 hv99 hv98
        go_upto_region 9 with (go_at_call 53; refine ka.mono ?_; rintro e w' ⟨rfl, rfl⟩)
        go_quiet (fail)
        go_wp2_with (first
          | (go_at_call 14; refine (kd _).mono ?_; rintro e w' ⟨rfl, rfl⟩)
          | (go_at_call 50; refine (ks _).mono ?_; rintro e w' ⟨rfl, rfl⟩))
        go_roundw
        case rel => exact ⟨k1 + 1, _, hlt, by go_num, by show _ = _; rw [HU2.out], by first | rfl | rw [World.drewN_drewN]⟩
        case measure => simp [intOf]; omega
    · obtain rfl : nn = k := by omega
      have hall : Dk.used (m.files.take nn) = Dk.used m.files := by rw [← HNN.out, List.take_length]
      rw [hall]
      obtain ⟨u, hu⟩ : ∃ u, Dk.used m.files = u := ⟨_, rfl⟩
      have ku2 := ku _ b2
      have kr2 := kr _ b2
      rw [hu] at ku2 hused ⊢
      have tu : decide (u ≤ m.cap) = true := decide_eq_true hused
      clear HT hall hu ku kr
      go_wp2_with (first
        | (go_at_call 26; refine ku2.mono ?_; rintro e w' ⟨rfl, rfl⟩)
        | (go_at_call 44; refine kr2.mono ?_; rintro e w' ⟨rfl, rfl⟩))
      go_ret
      exact ⟨rfl, b2⟩
#print axioms Ds.holds_any
end Go.Proofs.Ytgbeeghdoilmkaa
