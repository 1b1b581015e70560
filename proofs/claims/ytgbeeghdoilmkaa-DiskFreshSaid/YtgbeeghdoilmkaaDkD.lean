/- Disks: one file of an image, as the document reads it. Conditions: each theorem's own hypotheses. -/
import Derived.Test.YtgbeeghdoilmkaaDkC
namespace Go.Proofs.Ytgbeeghdoilmkaa
open Go.RowKit
set_option linter.unusedVariables false

/-- What the document's reading answers: the file and where it ends. -/
def Dk.refV (k : Nat) : Option (List UInt8 × List UInt8 × List UInt8) → Value
  | some (a, b, _) => .tuple #[.agg #[Tx.v a, Tx.v b, .int .i64 b.length], .int .i64 ((k + 1 + a.length + 4 + b.length : Nat) : Int)]
  | none => .tuple #[.agg #[.string ⟨#[]⟩, .string ⟨#[]⟩, .int .i64 0], .int .i64 (-1)]

theorem Dk.refV_some (k : Nat) (a b c : List UInt8) : Dk.refV k (some (a, b, c)) = .tuple #[.agg #[Tx.v a, Tx.v b, .int .i64 b.length], .int .i64 ((k + 1 + a.length + 4 + b.length : Nat) : Int)] := rfl
set_option maxRecDepth 100000 in
set_option maxHeartbeats 4000000 in
theorem Dk.refOne_any (s : ByteArray) (hs : s.size ≤ 9223372036854775807) (k : Nat) (hk : k < s.size) (w : World) :
    Calls Try.prog 39 #[.string s, .int .i64 k] w fun e w' => e = .returned (Dk.refV k (Dk.one (s.data.toList.drop k))) ∧ Below w.heap.size w w' := by
  obtain ⟨l, hl0⟩ : ∃ l, s.data.toList.drop k = l := ⟨_, rfl⟩
  have hlen : l.length = s.size - k := by rw [← hl0, List.length_drop, ← Tx.size]
  rw [hl0]
  cases l with
  | nil => rw [List.length_nil] at hlen; omega
  | cons c r =>
    rw [List.length_cons] at hlen
    have hc : s[k] = c := by
      have h : (s.data.toList.drop k)[0]? = some c := by rw [hl0]; rfl
      rw [List.getElem?_drop, Nat.add_zero, List.getElem?_eq_getElem (by rw [← Tx.size]; exact hk)] at h
      exact Option.some.inj h
    have hdr : s.data.toList.drop (k + 1) = r := by
      rw [← List.drop_drop, hl0]; rfl
    have hc8 := c.toNat_lt
    obtain ⟨L1, hL1⟩ : ∃ L1, L1 = s.size - k := ⟨_, rfl⟩
    obtain ⟨L, hL⟩ : ∃ L, L = r.length := ⟨_, rfl⟩
    have v1 : IntKind.i64.wrap (c.toNat : Int) = (c.toNat : Int) := IntWalk.i64_in _ (by omega)
    have v2 : IntKind.i64.wrap ((s.size : Int) - (k : Int)) = (L1 : Int) := (IntWalk.i64_in _ (by omega)).trans (by omega)
    have v3 : IntKind.i64.wrap ((L1 : Int) - 1) = (L : Int) := (IntWalk.i64_in _ (by omega)).trans (by omega)
    by_cases h2 : r.length < c.toNat + 4
    · rw [Dk.one_cons, if_pos h2]
      have u2 : decide ((L : Int) < (c.toNat : Int) + 4) = true := decide_eq_true (by omega)
      clear hL1 hL hlen hl0 hdr h2
      go_enter Try.func39, Try.ntmps39
      go_wp2_with fail
      exact bodyPost_ret (v := Dk.refV k none) (by unfold Dk.refV; simp [results, Try.results39, go_sem]) rfl ⟨rfl, (Below.refl _ _).alloc (Nat.le_refl _) _⟩
    · obtain ⟨k1, hk1⟩ : ∃ k1, k1 = k + 1 := ⟨_, rfl⟩
      obtain ⟨k2, hk2⟩ : ∃ k2, k2 = k1 + c.toNat := ⟨_, rfl⟩
      obtain ⟨k3, hk3⟩ : ∃ k3, k3 = k2 + 4 := ⟨_, rfl⟩
      obtain ⟨L3, hL3⟩ : ∃ L3, L3 = s.size - k3 := ⟨_, rfl⟩
      obtain ⟨nm, hnm⟩ : ∃ nm, s.extract k1 k2 = nm := ⟨_, rfl⟩
      have hnl : nm.data.toList = r.take c.toNat := by rw [← hnm, Tx.extract, hk1, hdr, hk2, hk1]; exact congrArg (fun n => r.take n) (by omega)
      obtain ⟨n, hn⟩ : ∃ n, Dk.num ((r.drop c.toNat).take 4) = n := ⟨_, rfl⟩
      obtain ⟨q, hq⟩ : ∃ q, Dk.named (r.take c.toNat) = q := ⟨_, rfl⟩
      have hd2 : s.data.toList.drop k2 = r.drop c.toNat := by rw [hk2, hk1, ← List.drop_drop, hdr]
      have hd3 : s.data.toList.drop k3 = r.drop (c.toNat + 4) := by rw [hk3, ← List.drop_drop, hd2, List.drop_drop]
      have hn4 : n < 4294967296 := by
        rw [← hn]
        have := Dk.num_lt ((r.drop c.toNat).take 4)
        rw [List.length_take] at this
        have h3 : min 4 (r.drop c.toNat).length = 4 := by rw [List.length_drop]; omega
        rw [h3] at this
        exact this
      have nms : nm.size ≤ 9223372036854775807 := by rw [Tx.size, hnl, List.length_take]; omega
      have u2 : decide ((L : Int) < (c.toNat : Int) + 4) = false := decide_eq_false (by omega)
      have v5 : IntKind.i64.wrap ((k : Int) + 1) = (k1 : Int) := (IntWalk.i64_in _ (by omega)).trans (by omega)
      have v6 : IntKind.i64.wrap ((k1 : Int) + (c.toNat : Int)) = (k2 : Int) := (IntWalk.i64_in _ (by omega)).trans (by omega)
      have v7 : IntKind.i64.wrap ((k2 : Int) + 4) = (k3 : Int) := (IntWalk.i64_in _ (by omega)).trans (by omega)
      have v8 : IntKind.i64.wrap ((s.size : Int) - (k3 : Int)) = (L3 : Int) := (IntWalk.i64_in _ (by omega)).trans (by omega)
      have w1 : (k1 : Int) ≤ (k2 : Int) := by omega
      have w2 : (k2 : Int) ≤ (s.size : Int) := by omega
      have w3 : k2 + 4 ≤ s.size := by omega
      have w4 : (k3 : Int) ≤ (s.size : Int) := by omega
      have hspec : Hid (Dk.one (c :: r) = if q = true ∧ n ≤ 268435456 ∧ n ≤ L3 then some (r.take c.toNat, (r.drop (c.toNat + 4)).take n, (r.drop (c.toNat + 4)).drop n) else none) := by
        show _ = _
        rw [Dk.one_cons, if_neg h2, hn, hq, show r.length - (c.toNat + 4) = L3 from by omega]
      obtain ⟨Z, hZv⟩ : ∃ Z, Dk.refV k (Dk.one (c :: r)) = Z := ⟨_, rfl⟩
      have HZV := Lib.hid hZv
      rw [hZv]
      have HKS := Lib.hid (show k1 = k + 1 ∧ k2 = k1 + c.toNat ∧ k3 = k2 + 4 ∧ L3 = s.size - k3 ∧ s.size = k + 1 + r.length ∧ c.toNat + 4 ≤ r.length from ⟨hk1, hk2, hk3, hL3, by omega, by omega⟩)
      have HN := Lib.hid hn
      have HQ := Lib.hid hq
      have HNL := Lib.hid hnl
      have HD2 := Lib.hid hd2
      have HD3 := Lib.hid hd3
      have hcall : ∀ W : World, Calls Try.prog 71 #[.string nm] W fun e W' => e = .returned (.bool q) ∧ W = W' := fun W => Dk.refNamed_any nm nms q (by rw [hnl]; exact hq) W
      clear hL1 hL hlen hl0 hdr h2 hk1 hk2 hk3 hL3 hZv hn hnl hd2 hd3
      cases hqq : q with
      | false =>
        have hz := HZV.out
        rw [hspec.out, if_neg (fun h => by rw [hqq] at h; cases h.1)] at hz
        rw [hqq] at hcall
        subst hz
        clear HZV hspec HQ HKS HN HNL HD2 HD3 hq
        go_enter Try.func39, Try.ntmps39
        go_wp2_with (go_at_call 71; refine (hcall _).mono ?_; rintro e w' ⟨rfl, rfl⟩)
        exact bodyPost_ret (v := Dk.refV k none) (by unfold Dk.refV; simp [results, Try.results39, go_sem]) rfl ⟨rfl, (Below.refl _ _).alloc (Nat.le_refl _) _⟩
      | true =>
        rw [hqq] at hcall
        clear hq
        go_enter Try.func39, Try.ntmps39
        go_wp2_with (go_at_call 71; refine (hcall _).mono ?_; rintro e w' ⟨rfl, rfl⟩)
        go_loop [9, 10] (fun v i => ∃ j : Nat, j ≤ 4 ∧ i = .int .i64 j ∧ Hid (v = .int .i64 (Dk.num ((r.drop c.toNat).take j)))) (fun v i => 4 - (intOf i).toNat)
        case atStart => exact ⟨0, by omega, rfl, Lib.hid rfl⟩
        case round =>
          obtain ⟨j, hj, rfl, HV⟩ := hrel
          obtain rfl := HV.out
          by_cases hlt : j < 4
          · obtain ⟨m, hm⟩ : ∃ m, m = k2 + j := ⟨_, rfl⟩
            have hms : m < s.size := by omega
            obtain ⟨b, hb⟩ : ∃ b, s[m] = b := ⟨_, rfl⟩
            obtain ⟨v, hv⟩ : ∃ v, Dk.num ((r.drop c.toNat).take j) = v := ⟨_, rfl⟩
            have hv4 : v < 16777216 := by
              rw [← hv]
              have h := Dk.num_lt ((r.drop c.toNat).take j)
              have h3 := List.length_take_le j (r.drop c.toNat)
              have h4 : 256 ^ ((r.drop c.toNat).take j).length ≤ 256 ^ 3 := Nat.pow_le_pow_right (by decide) (by omega)
              have h5 : (256 : Nat) ^ 3 = 16777216 := by decide
              omega
            have hstep : Hid (Dk.num ((r.drop c.toNat).take (j + 1)) = 256 * v + b.toNat) := by
              show _ = _
              have hjl : j < (r.drop c.toNat).length := by rw [List.length_drop]; have := HKS.out; omega
              have hbe : (r.drop c.toNat)[j] = b := by
                have h : (r.drop c.toNat)[j]? = some b := by
                  rw [← HD2.out, List.getElem?_drop, ← hm, List.getElem?_eq_getElem (by rw [← Tx.size]; exact hms)]
                  exact congrArg some hb
                rw [List.getElem?_eq_getElem hjl] at h
                exact Option.some.inj h
              rw [List.take_succ_eq_append_getElem hjl, Dk.num_snoc, hv, hbe]
            have hb8 := b.toNat_lt
            have v9 : IntKind.i64.wrap ((k2 : Int) + (j : Int)) = (m : Int) := (IntWalk.i64_in _ (by omega)).trans (by omega)
            rw [hv]
            clear HV hv hm
            go_wp2_with fail
            go_round
            case rel => exact ⟨j + 1, by omega, by go_num, Lib.hid (by rw [hstep.out]; exact congrArg (Value.int .i64) (by simp))⟩
            case measure => simp [intOf]; omega
          · obtain rfl : j = 4 := by omega
            rw [HN.out]
            clear HV
            have hz := HZV.out
            rw [hspec.out] at hz
            clear HZV
            by_cases g1 : n ≤ 268435456
            · have t1 : decide ((268435456 : Int) < (n : Int)) = false := decide_eq_false (by omega)
              by_cases g2 : n ≤ L3
              · have t2 : decide ((L3 : Int) < (n : Int)) = false := decide_eq_false (by omega)
                rw [if_pos ⟨hqq, g1, g2⟩] at hz
                have HZZ := Lib.hid hz
                clear hz
                obtain ⟨k4, hk4⟩ : ∃ k4, k4 = k3 + n := ⟨_, rfl⟩
                have hks := HKS.out
                have v10 : IntKind.i64.wrap ((k3 : Int) + (n : Int)) = (k4 : Int) := (IntWalk.i64_in _ (by omega)).trans (by omega)
                have w5 : (k3 : Int) ≤ (k4 : Int) := by omega
                have w6 : (k4 : Int) ≤ (s.size : Int) := by omega
                obtain ⟨d, hd⟩ : ∃ d, s.extract k3 k4 = d := ⟨_, rfl⟩
                have hdl : d.data.toList = (r.drop (c.toNat + 4)).take n := by rw [← hd, Tx.extract, HD3.out]; exact congrArg (fun z => (r.drop (c.toNat + 4)).take z) (by omega)
                have G := Lib.hid (show Dk.refV k (some (r.take c.toNat, (r.drop (c.toNat + 4)).take n, (r.drop (c.toNat + 4)).drop n)) = .tuple #[.agg #[.string nm, .string d, .int .i64 n], .int .i64 k4] from by
                  rw [Dk.refV_some, Tx.v_eq HNL.out, Tx.v_eq hdl]
                  have e1 : ((r.drop (c.toNat + 4)).take n).length = n := by rw [List.length_take, List.length_drop]; omega
                  have e2 : (r.take c.toNat).length = c.toNat := by rw [List.length_take]; omega
                  rw [e1, e2, show k + 1 + c.toNat + 4 + n = k4 from by omega])
                clear hspec HQ HKS HN HNL HD2 HD3 hks hk4 hdl
                go_wp2_with fail
                rw [← HZZ.out, G.out]
                exact bodyPost_ret (v := .tuple #[.agg #[.string nm, .string d, .int .i64 n], .int .i64 k4]) (by simp [results, Try.results39, go_sem]) rfl ⟨rfl, (Below.refl _ _).alloc (Nat.le_refl _) _⟩
              · have t2 : decide ((L3 : Int) < (n : Int)) = true := decide_eq_true (by omega)
                rw [if_neg (fun h => g2 h.2.2)] at hz
                subst hz
                clear hspec HQ HKS HN HNL HD2 HD3
                go_wp2_with fail
                exact bodyPost_ret (v := Dk.refV k none) (by unfold Dk.refV; simp [results, Try.results39, go_sem]) rfl ⟨rfl, (Below.refl _ _).alloc (Nat.le_refl _) _⟩
            · have t1 : decide ((268435456 : Int) < (n : Int)) = true := decide_eq_true (by omega)
              rw [if_neg (fun h => g1 h.2.1)] at hz
              subst hz
              clear hspec HQ HKS HN HNL HD2 HD3
              go_wp2_with fail
              exact bodyPost_ret (v := Dk.refV k none) (by unfold Dk.refV; simp [results, Try.results39, go_sem]) rfl ⟨rfl, (Below.refl _ _).alloc (Nat.le_refl _) _⟩
end Go.Proofs.Ytgbeeghdoilmkaa
