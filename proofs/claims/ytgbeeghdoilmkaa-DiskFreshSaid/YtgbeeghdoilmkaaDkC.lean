/- Disks: one file of an image, as the program reads it. Conditions: each theorem's own hypotheses. -/
import Derived.Test.YtgbeeghdoilmkaaDkA
import Derived.BigQuiet
import Derived.Laws.BitsAllLaws
import Derived.Deep.QuietTactic
namespace Go.Proofs.Ytgbeeghdoilmkaa
open Go.RowKit
set_option linter.unusedVariables false

/-- Bytes as a number, the highest first. -/
def Dk.num (l : List UInt8) : Nat := l.foldl (fun m c => 256 * m + c.toNat) 0
theorem Dk.num_snoc (l : List UInt8) (c : UInt8) : Dk.num (l ++ [c]) = 256 * Dk.num l + c.toNat := by
  unfold Dk.num
  rw [List.foldl_append]; rfl
theorem Dk.num_lt (l : List UInt8) : Dk.num l < 256 ^ l.length := by
  suffices h : ∀ (l : List UInt8) (m k : Nat), m < 256 ^ k → l.foldl (fun m c => 256 * m + c.toNat) m < 256 ^ (k + l.length) from by
    have := h l 0 0 (by decide)
    rw [Nat.zero_add] at this
    exact this
  intro l
  induction l with
  | nil => exact fun m k h => h
  | cons c r ih =>
    intro m k h
    have := c.toNat_lt
    have h2 := ih (256 * m + c.toNat) (k + 1) (by rw [Nat.pow_succ]; omega)
    rw [List.foldl_cons, List.length_cons]
    rw [show k + (r.length + 1) = k + 1 + r.length from by omega]
    exact h2
/-- The name, the bytes and the rest of a file that stands at the head. -/
def Dk.one : List UInt8 → Option (List UInt8 × List UInt8 × List UInt8)
  | [] => none
  | c :: r =>
    if r.length < c.toNat + 4 then none
    else
      if Dk.named (r.take c.toNat) = true ∧ Dk.num ((r.drop c.toNat).take 4) ≤ 268435456 ∧ Dk.num ((r.drop c.toNat).take 4) ≤ r.length - (c.toNat + 4) then
        some (r.take c.toNat, (r.drop (c.toNat + 4)).take (Dk.num ((r.drop c.toNat).take 4)), (r.drop (c.toNat + 4)).drop (Dk.num ((r.drop c.toNat).take 4)))
      else none

theorem Dk.one_cons (c : UInt8) (r : List UInt8) : Dk.one (c :: r) =
    if r.length < c.toNat + 4 then none
    else
      if Dk.named (r.take c.toNat) = true ∧ Dk.num ((r.drop c.toNat).take 4) ≤ 268435456 ∧ Dk.num ((r.drop c.toNat).take 4) ≤ r.length - (c.toNat + 4) then
        some (r.take c.toNat, (r.drop (c.toNat + 4)).take (Dk.num ((r.drop c.toNat).take 4)), (r.drop (c.toNat + 4)).drop (Dk.num ((r.drop c.toNat).take 4)))
      else none := rfl
theorem Dk.results4 {fn : Func} {t u v x : Tmp} (h : fn.results = #[.tmp t, .tmp u, .tmp v, .tmp x]) (tmps : Array Value) (P : Program) (w : World) :
    (results fn (tmps : Array Value)).run P w = .ok (.tuple #[tmps.getD t undef, tmps.getD u undef, tmps.getD v undef, tmps.getD x undef]) w := by
  simp [results, h, Array.mapM_eq_mapM_toList]
theorem Dk.i64_or_nat (a b : Nat) (ha : a < 9223372036854775808) (hb : b < 9223372036854775808) : bits .or .i64 (a : Int) (b : Int) = ((a ||| b : Nat) : Int) := by
  have hx : a ||| b < 2 ^ 63 := Nat.or_lt_two_pow (by omega) (by omega)
  show IntKind.i64.wrap ((BitVec.ofInt 64 (a : Int) ||| BitVec.ofInt 64 (b : Int)).toNat : Int) = _
  rw [BitVec.toNat_or, ofInt_u64 a (by omega), ofInt_u64 b (by omega)]
  exact IntWalk.i64_in _ (by omega)
theorem Dk.or_snoc (v : Nat) (c : UInt8) (hv : v < 16777216) : bits .or .i64 ((v : Int) * 256) (wrap64 (c.toNat : Int)) = ((256 * v + c.toNat : Nat) : Int) := by
  have hc := c.toNat_lt
  have e1 : ((v : Int) * 256) = ((v * 256 : Nat) : Int) := by omega
  have e2 : wrap64 (c.toNat : Int) = ((c.toNat : Nat) : Int) := by unfold wrap64; omega
  rw [e1, e2, Dk.i64_or_nat _ _ (by omega) (by omega), nat_join 8 _ _ (by omega) (by omega)]
  exact congrArg _ (by omega)

def Dk.oneV : Option (List UInt8 × List UInt8 × List UInt8) → Value
  | some (a, b, c) => .tuple #[Tx.v a, Tx.v b, Tx.v c, .bool true]
  | none => .tuple #[Tx.v [], Tx.v [], Tx.v [], .bool false]
set_option maxRecDepth 100000 in
set_option maxHeartbeats 2000000 in
theorem Dk.one_any (s : ByteArray) (hs : s.size ≤ 9223372036854775807) (w : World) :
    Calls Try.prog 38 #[.string s] w fun e w' => (∃ k, w' = w.drewN k) ∧
      e = .returned (Dk.oneV (Dk.one s.data.toList)) := by
  cases hl : s.data.toList with
  | nil =>
    have h1 : s.size = 0 := by rw [Tx.size, hl]; rfl
    have u1 : decide ((s.size : Int) < 1) = true := decide_eq_true (by omega)
    clear hl h1
    go_enter Try.func38, Try.ntmps38
    go_wp2_with fail
    refine bodyPost_ret (Dk.results4 rfl _ _ _) rfl ?_
    exact ⟨⟨0, rfl⟩, rfl⟩
  | cons c r =>
    have h1 : s.size = r.length + 1 := by rw [Tx.size, hl]; rfl
    have h0 : 0 < s.size := by omega
    have hc : s[0] = c := by
      have h : s.data.toList[0]? = some c := by rw [hl]; rfl
      have h2 : s.data.toList[0]? = some s[0] := by
        rw [List.getElem?_eq_getElem (by rw [← Tx.size]; exact h0)]; rfl
      rw [h2] at h
      exact Option.some.inj h
    have H1 := Lib.hid h1
    have HL := Lib.hid hl
    have hc8 := c.toNat_lt
    by_cases h2 : r.length < c.toNat + 4
    · have ho : Dk.one (c :: r) = none := by rw [Dk.one_cons, if_pos h2]
      rw [ho]
      obtain ⟨p, hp⟩ : ∃ p, p = c.toNat + 1 := ⟨_, rfl⟩
      have u1 : decide ((s.size : Int) < 1) = false := decide_eq_false (by omega)
      have v1 : IntKind.i64.wrap (c.toNat : Int) = (c.toNat : Int) := IntWalk.i64_in _ (by omega)
      have v2 : IntKind.i64.wrap (1 + (c.toNat : Int)) = (p : Int) := (IntWalk.i64_in _ (by omega)).trans (by omega)
      have v3 : IntKind.i64.wrap ((p : Int) + 4) = (p : Int) + 4 := IntWalk.i64_in _ (by omega)
      have u2 : decide ((s.size : Int) < (p : Int) + 4) = true := decide_eq_true (by omega)
      clear h1 hl hp h2 ho
      go_enter Try.func38, Try.ntmps38
      go_wp2_with fail
      refine bodyPost_ret (Dk.results4 rfl _ _ _) rfl ?_
      exact ⟨⟨0, rfl⟩, rfl⟩
    · obtain ⟨p, hp⟩ : ∃ p, p = c.toNat + 1 := ⟨_, rfl⟩
      obtain ⟨nm, hnm⟩ : ∃ nm, s.extract 1 p = nm := ⟨_, rfl⟩
      obtain ⟨z, hz⟩ : ∃ z, s.extract p s.size = z := ⟨_, rfl⟩
      have hnl : nm.data.toList = r.take c.toNat := by rw [← hnm, Tx.extract, hl, hp]; rfl
      have hzl : z.data.toList = r.drop c.toNat := by
        rw [← hz, Tx.extract, hl, hp, h1, List.drop_succ_cons]
        exact List.take_of_length_le (by rw [List.length_drop]; omega)
      have hzs : z.size = r.length - c.toNat := by rw [Tx.size, hzl, List.length_drop]
      obtain ⟨y, hy⟩ : ∃ y, z.extract 4 z.size = y := ⟨_, rfl⟩
      have hyl : y.data.toList = r.drop (c.toNat + 4) := by
        rw [← hy, Tx.extract, hzl, List.drop_drop, hzs]
        exact List.take_of_length_le (by rw [List.length_drop]; omega)
      have hys : y.size = r.length - (c.toNat + 4) := by rw [Tx.size, hyl, List.length_drop]
      obtain ⟨n, hn⟩ : ∃ n, Dk.num ((r.drop c.toNat).take 4) = n := ⟨_, rfl⟩
      obtain ⟨q, hq⟩ : ∃ q, Dk.named (r.take c.toNat) = q := ⟨_, rfl⟩
      have hn4 : n < 4294967296 := by
        rw [← hn]
        have := Dk.num_lt ((r.drop c.toNat).take 4)
        rw [List.length_take] at this
        have h3 : min 4 (r.drop c.toNat).length = 4 := by rw [List.length_drop]; omega
        rw [h3] at this
        exact this
      have u1 : decide ((s.size : Int) < 1) = false := decide_eq_false (by omega)
      have v1 : IntKind.i64.wrap (c.toNat : Int) = (c.toNat : Int) := IntWalk.i64_in _ (by omega)
      have v2 : IntKind.i64.wrap (1 + (c.toNat : Int)) = (p : Int) := (IntWalk.i64_in _ (by omega)).trans (by omega)
      have v3 : IntKind.i64.wrap ((p : Int) + 4) = (p : Int) + 4 := IntWalk.i64_in _ (by omega)
      have u2 : decide ((s.size : Int) < (p : Int) + 4) = false := decide_eq_false (by omega)
      have w1 : (1 : Int) ≤ (p : Int) := by omega
      have w2 : (p : Int) ≤ (s.size : Int) := by omega
      have z4 : 4 ≤ z.size := by omega
      have zm : z.size ≤ 9223372036854775807 := by omega
      have nms : nm.size ≤ 9223372036854775807 := by rw [Tx.size, hnl, List.length_take]; omega
      have ym : y.size ≤ 9223372036854775807 := by omega
      have hspec : Hid (Dk.one (c :: r) = if q = true ∧ n ≤ 268435456 ∧ n ≤ y.size then some (r.take c.toNat, (r.drop (c.toNat + 4)).take n, (r.drop (c.toNat + 4)).drop n) else none) := by
        show _ = _
        rw [Dk.one_cons, if_neg h2, hn, hq, hys]
      obtain ⟨Z, hZv⟩ : ∃ Z, Dk.oneV (Dk.one (c :: r)) = Z := ⟨_, rfl⟩
      have HZV := Lib.hid hZv
      rw [hZv]
      clear hZv
      have HN := Lib.hid hn
      have HQ := Lib.hid hq
      have HNL := Lib.hid hnl
      have HZL := Lib.hid hzl
      have HYL := Lib.hid hyl
      have HY := Lib.hid hy
      have HNM := Lib.hid hnm
      have HZ := Lib.hid hz
      clear h1 hl hp h2 hn hq hnl hzl hyl hzs hys hy hnm hz
      go_enter Try.func38, Try.ntmps38
      go_wp2_with fail
      go_quiet (fail)
      rw [HNM.out, HZ.out]
      go_wp2_with fail
      go_loop [34, 7] (fun i v => ∃ k : Nat, k ≤ 4 ∧ i = .int .i64 k ∧ Hid (v = .int .i64 (Dk.num ((r.drop c.toNat).take k)))) (fun i v => 4 - (intOf i).toNat)
      case atStart => exact ⟨0, by omega, rfl, Lib.hid rfl⟩
      case round =>
        obtain ⟨k, hk, rfl, HV⟩ := hrel
        obtain rfl := HV.out
        by_cases hlt : k < 4
        · obtain ⟨b, hb⟩ : ∃ b, z[k] = b := ⟨_, rfl⟩
          obtain ⟨v, hv⟩ : ∃ v, Dk.num ((r.drop c.toNat).take k) = v := ⟨_, rfl⟩
          have hv4 : v < 16777216 := by
            rw [← hv]
            have h := Dk.num_lt ((r.drop c.toNat).take k)
            have h3 := List.length_take_le k (r.drop c.toNat)
            have h4 : 256 ^ ((r.drop c.toNat).take k).length ≤ 256 ^ 3 := Nat.pow_le_pow_right (by decide) (by omega)
            have h5 : (256 : Nat) ^ 3 = 16777216 := by decide
            omega
          have hstep : Hid (Dk.num ((r.drop c.toNat).take (k + 1)) = 256 * v + b.toNat) := by
            show _ = _
            rw [← HZL.out, Dk.take_snoc z k (by omega), Dk.num_snoc, HZL.out, hv, hb]
          have ho := Dk.or_snoc v b hv4
          have HO := Lib.hid ho
          have HB := Lib.hid hb
          rw [hv]
          clear HV hv ho
          go_wp2_with fail
          go_round
          case rel => exact ⟨k + 1, by omega, by go_num, Lib.hid (by rw [hstep.out, ← HO.out])⟩
          case measure => simp [intOf]; omega
        · obtain rfl : k = 4 := by omega
          rw [HN.out]
          clear HV
          have hc2 : ∀ W : World, Calls Try.prog 70 #[.string nm] W fun e W' => e = .returned (.bool q) ∧ W = W' := fun W => Dk.isName_any nm nms q (by rw [HNL.out]; exact HQ.out) W
          have hy := HY.out
          have z5 : (4 : Int) ≤ (z.size : Int) := by omega
          have hz := HZV.out
          rw [hspec.out] at hz
          clear HZV
          cases hq : q with
          | false =>
            rw [hq] at hc2
            rw [hq, if_neg (fun h => by cases h.1)] at hz
            subst hz
            clear HQ HNL HZL HYL HN HZ HNM H1 HL hspec
            go_wp2_with (go_at_call 70; refine (hc2 _).mono ?_; rintro e w' ⟨rfl, rfl⟩)
            refine bodyPost_ret (Dk.results4 rfl _ _ _) rfl ?_
            exact ⟨⟨_, rfl⟩, rfl⟩
          | true =>
            rw [hq] at hc2
            by_cases g1 : n ≤ 268435456
            · have t1 : decide ((268435456 : Int) < (n : Int)) = false := decide_eq_false (by omega)
              by_cases g2 : n ≤ y.size
              · have t2 : decide ((y.size : Int) < (n : Int)) = false := decide_eq_false (by omega)
                rw [if_pos ⟨hq, g1, g2⟩] at hz
                have HZZ := Lib.hid hz
                clear hz
                obtain ⟨d, hd⟩ : ∃ d, y.extract 0 n = d := ⟨_, rfl⟩
                obtain ⟨m, hm⟩ : ∃ m, y.extract n y.size = m := ⟨_, rfl⟩
                have hdl : d.data.toList = (r.drop (c.toNat + 4)).take n := by rw [← hd, Tx.extract, HYL.out]; rfl
                have hml : m.data.toList = (r.drop (c.toNat + 4)).drop n := by
                  rw [← hm, Tx.extract, HYL.out]
                  exact List.take_of_length_le (by rw [← HYL.out, List.length_drop, ← Tx.size]; omega)
                have g3 : (n : Int) ≤ (y.size : Int) := by omega
                have G := Lib.hid (show Value.tuple #[Tx.v (r.take c.toNat), Tx.v ((r.drop (c.toNat + 4)).take n), Tx.v ((r.drop (c.toNat + 4)).drop n), .bool true] = .tuple #[.string nm, .string d, .string m, .bool true] from by rw [Tx.v_eq HNL.out, Tx.v_eq hdl, Tx.v_eq hml])
                clear HQ HNL HZL HYL HN HZ HNM H1 HL hspec hdl hml
                go_wp2_with (go_at_call 70; refine (hc2 _).mono ?_; rintro e w' ⟨rfl, rfl⟩)
                go_quiet (fail)
                go_wp2_with fail
                refine bodyPost_ret (Dk.results4 rfl _ _ _) rfl ?_
                refine ⟨⟨_, by rw [World.drewN_drewN]⟩, ?_⟩
                rw [← HZZ.out]
                exact congrArg Ending.returned G.out.symm
              · have t2 : decide ((y.size : Int) < (n : Int)) = true := decide_eq_true (by omega)
                rw [if_neg (fun h => g2 h.2.2)] at hz
                subst hz
                clear HQ HNL HZL HYL HN HZ HNM H1 HL hspec
                go_wp2_with (go_at_call 70; refine (hc2 _).mono ?_; rintro e w' ⟨rfl, rfl⟩)
                refine bodyPost_ret (Dk.results4 rfl _ _ _) rfl ?_
                exact ⟨⟨_, rfl⟩, rfl⟩
            · have t1 : decide ((268435456 : Int) < (n : Int)) = true := decide_eq_true (by omega)
              rw [if_neg (fun h => g1 h.2.1)] at hz
              subst hz
              clear HQ HNL HZL HYL HN HZ HNM H1 HL hspec
              go_wp2_with (go_at_call 70; refine (hc2 _).mono ?_; rintro e w' ⟨rfl, rfl⟩)
              refine bodyPost_ret (Dk.results4 rfl _ _ _) rfl ?_
              exact ⟨⟨_, rfl⟩, rfl⟩
end Go.Proofs.Ytgbeeghdoilmkaa
