/- A manifest that was written is read back. No conditions but each theorem's own. -/
import Derived.Test.YtdhnkcfmjibibaaGreatDoorZMdD
import Derived.Test.YtdhnkcfmjibibaaGreatDoorMfG
import Derived.Test.YtdhnkcfmjibibaaGreatDoorPv
namespace Go.Proofs.YtdhnkcfmjibibaaGreatDoor
set_option linter.unusedVariables false

theorem Mf.take_enc_any {most a : Nat} (p : List UInt8) (hm : most ≤ 1152921504606846976) : ∀ (k : Nat) (zs : List Nat) (rest : List UInt8), zs.length = k → (∀ z ∈ zs, z ≤ most) → p.drop a = Mf.enc zs ++ rest → Mf.take p most 0 a k = ⟨0, zs, a + (Mf.enc zs).length⟩
  | 0, zs, rest, hk, hz, hp => by
    obtain rfl := List.eq_nil_of_length_eq_zero hk
    rfl
  | k + 1, zs, rest, hk, hz, hp => by
    obtain ⟨ys, z, rfl⟩ : ∃ ys z, zs = ys ++ [z] := ⟨zs.dropLast, zs.getLast (by intro e; rw [e] at hk; cases hk), (List.dropLast_concat_getLast _).symm⟩
    rw [List.length_append] at hk
    have hy : Mf.enc (ys ++ [z]) = Mf.enc ys ++ Sl.putVar z := by rw [Mf.enc_append]; simp [Mf.enc]
    have ih := Mf.take_enc_any (most := most) (a := a) p hm k ys (Sl.putVar z ++ rest) (by simpa using hk) (fun x hx => hz x (by simp [hx])) (by rw [hp, hy, List.append_assoc])
    have hzz := hz z (by simp)
    have hd : p.drop (a + (Mf.enc ys).length) = Sl.putVar z ++ rest := by
      rw [← List.drop_drop, hp, hy, List.append_assoc, List.drop_left]
    rw [Mf.take, ih]
    unfold Mf.tkStep
    simp only [not_true_eq_false, if_false]
    rw [hd, Sl.var_putVar z rest (by omega)]
    simp only [not_true_eq_false, if_false]
    rw [if_neg (by omega), hy, List.length_append, Nat.add_assoc]

theorem Mf.rows_of : ∀ rs : List Run, (∀ r ∈ rs, 0 ≤ r.num ∧ 0 ≤ r.lo ∧ 0 ≤ r.hi ∧ 0 ≤ r.cnt) → Mf.runsOf (rs.flatMap Mf.row) = rs
  | [], _ => rfl
  | r :: rs, h => by
    obtain ⟨h1, h2, h3, h4⟩ := h r (by simp)
    have ih := Mf.rows_of rs fun x hx => h x (by simp [hx])
    rw [List.flatMap_cons]
    show (⟨(r.num.toNat : Int), r.lo.toNat, r.hi.toNat, r.cnt.toNat⟩ : Run) :: Mf.runsOf (rs.flatMap Mf.row) = r :: rs
    rw [ih, Int.toNat_of_nonneg h1, Int.toNat_of_nonneg h2, Int.toNat_of_nonneg h3, Int.toNat_of_nonneg h4]
theorem Mf.rows_len : ∀ rs : List Run, (rs.flatMap Mf.row).length = 4 * rs.length
  | [] => rfl
  | r :: rs => by
    rw [List.flatMap_cons, List.length_append, Mf.rows_len rs, List.length_cons]
    show 4 + _ = _
    omega

/-- What was written is read. -/
theorem Mf.decP_body {M : Man} (h : Mf.check M = 0) : Mf.decP (Mf.body M) = ⟨0, M⟩ := by
  have hG := Mf.good h
  obtain ⟨six, hsix⟩ : ∃ six, six = [M.w.toNat, M.c.toNat, M.m.toNat, M.seq.toNat, M.next.toNat, M.jr.toNat] := ⟨_, rfl⟩
  obtain ⟨n, hn⟩ : ∃ n, n = M.runs.length := ⟨_, rfl⟩
  obtain ⟨vs, hvs⟩ : ∃ vs, vs = M.runs.flatMap Mf.row := ⟨_, rfl⟩
  have hvl : vs.length = 4 * n := by rw [hvs, hn]; exact Mf.rows_len _
  have hb : Mf.body M = Mf.enc six ++ (Mf.enc [n] ++ Mf.enc vs) := by
    unfold Mf.body Mf.nums
    rw [List.take_length, ← hvs, ← Mf.enc_append, ← Mf.enc_append, ← List.append_assoc]
    congr 1
    rw [hsix, hn]
    rfl
  have hs60 : ∀ z ∈ six, z ≤ 1152921504606846976 := fun z hz => Mf.heads_le hG z (by
    rw [hsix] at hz
    unfold Mf.heads
    exact List.mem_append_left [M.runs.length] hz)
  have hv60 : ∀ z ∈ vs, z ≤ 1152921504606846976 := fun z hz => by
    rw [hvs] at hz
    obtain ⟨r, hr, hz⟩ := List.mem_flatMap.1 hz
    exact Mf.row_le hG hr z hz
  have hl := hG.len
  have hnl : n ≤ 24 := by rw [hn]; exact hl
  have eH : Mf.rdH (Mf.body M) = ⟨0, six, (Mf.enc six).length⟩ := by
    unfold Mf.rdH
    rw [Mf.take_enc_any (Mf.body M) (Nat.le_refl _) 6 six (Mf.enc [n] ++ Mf.enc vs) (by rw [hsix]; rfl) hs60 (by rw [List.drop_zero, hb]), Nat.zero_add]
  have eN : Mf.rdN (Mf.body M) = ⟨0, [n], (Mf.enc six).length + (Mf.enc [n]).length⟩ := by
    unfold Mf.rdN
    rw [eH]
    exact Mf.take_enc_any (Mf.body M) (by omega) 1 [n] (Mf.enc vs) rfl (fun z hz => by simp at hz; omega) (by rw [hb, List.drop_left])
  have eV : Mf.rdV (Mf.body M) = ⟨0, vs, (Mf.enc six).length + (Mf.enc [n]).length + (Mf.enc vs).length⟩ := by
    unfold Mf.rdV
    rw [eN]
    exact Mf.take_enc_any (Mf.body M) (Nat.le_refl _) (4 * n) vs [] hvl hv60 (by rw [hb, ← List.append_assoc, ← List.length_append, List.drop_left, List.append_nil])
  have eM : Mf.manOf six vs = M := by
    have hr : Mf.runsOf vs = M.runs := by
      rw [hvs]
      exact Mf.rows_of _ fun r hr => by
        obtain ⟨a, b, c, d⟩ := hG.runs r hr
        exact ⟨a.1, b.1, c.1, d.1⟩
    unfold Mf.manOf
    rw [hr, hsix]
    have a1 := hG.w.1
    have a2 := hG.c.1
    have a3 := hG.m.1
    have a4 := hG.seq.1
    have a5 := hG.next.1
    have a6 := hG.jr.1
    obtain ⟨w, c, m, sq, nx, jr, rs⟩ := M
    simp only [List.getD_cons_zero, List.getD_cons_succ] at *
    rw [Int.toNat_of_nonneg a1, Int.toNat_of_nonneg a2, Int.toNat_of_nonneg a3, Int.toNat_of_nonneg a4, Int.toNat_of_nonneg a5, Int.toNat_of_nonneg a6]
  unfold Mf.decP
  rw [eN, eH, eV]
  simp only [not_true_eq_false, if_false]
  rw [if_neg (by rw [hb, List.length_append, List.length_append]; omega), eM, h]
  simp
theorem Mf.decode_frame {M : Man} (h : Mf.check M = 0) (hb : (Mf.body M).length ≤ 65536) : Mf.decode (Sl.frame 3 (Mf.body M)) = ⟨0, M⟩ := by
  have hp := Sl.parse_frame 3 (Mf.body M) [] (by decide) (by decide) hb
  rw [List.append_nil] at hp
  unfold Mf.decode
  rw [hp]
  simp only [not_true_eq_false, if_false]
  rw [if_neg (by rw [Sl.frame_len]; omega)]
  exact Mf.decP_body h
end Go.Proofs.YtdhnkcfmjibibaaGreatDoor
