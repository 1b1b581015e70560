/- Contracts of the document's begun and Parse. Conditions: each theorem's own hypotheses. -/
import Derived.Test.YtknemjnlcghafaaDoorSealH
import Derived.WalkSmall
import Derived.Lib.Strings
namespace Go.Proofs.YtknemjnlcghafaaDoor
open Go.RowKit

/-- Four bytes, the lowest first. -/
def leNum (l : List UInt8) : Nat := (l.getD 0 0).toNat + 256 * (l.getD 1 0).toNat + 65536 * (l.getD 2 0).toNat + 16777216 * (l.getD 3 0).toNat

/-- What the first bytes of a frame say: how long its payload is, or a refusal. -/
def begunP (l : List UInt8) : Nat × Nat :=
  if l.length = 0 then (0, 31)
  else if ¬ (l.getD 0 0).toNat = 167 then (0, 33)
  else if l.length < 10 then (0, 31)
  else if ¬ leNum ((l.drop 6).take 4) = Sl.crc (l.take 6) then (0, 34)
  else if (l.getD 1 0).toNat = 0 then (0, 35)
  else if 65536 < Sl.beNum ((l.drop 2).take 4) then (0, 36)
  else (Sl.beNum ((l.drop 2).take 4), 0)

theorem lenum_at (s : ByteArray) (k : Nat) (hk : k + 4 ≤ s.size) : leNum ((s.data.toList.drop k).take 4) = s[k].toNat + 256 * s[k + 1].toNat + 65536 * s[k + 2].toNat + 16777216 * s[k + 3].toNat := by
  have g : ∀ i (h : k + i < s.size), i < 4 → ((s.data.toList.drop k).take 4).getD i 0 = s[k + i] := by
    intro i h h4
    rw [List.getD_eq_getElem?_getD, List.getElem?_take_of_lt h4, List.getElem?_drop, List.getElem?_eq_getElem (by simpa using h)]
    rfl
  unfold leNum
  rw [g 0 (by omega) (by decide), g 1 (by omega) (by decide), g 2 (by omega) (by decide), g 3 (by omega) (by decide)]
  rfl

theorem empty_of (L : ByteArray) (h : L.size = 0) : L.data.toList.length = 0 := by rw [Array.length_toList]; exact h

end Go.Proofs.YtknemjnlcghafaaDoor
/- Contracts of seal.Parse and of the document's Parse, at every place of every text: what the plain function Sl.parse says. Conditions: each theorem's own hypotheses. -/
namespace Go.Proofs.YtknemjnlcghafaaDoor
open Go.RowKit

theorem le4_iff (t : List UInt8) (c : Nat) (ht : t.length = 4) (hc : c < 4294967296) : t = Sl.le4 c ↔ leNum t = c := by
  match t, ht with
  | [a, b, d, e], _ =>
    have ha := a.toNat_lt
    have hb := b.toNat_lt
    have hd := d.toNat_lt
    have he := e.toNat_lt
    constructor
    · intro h
      unfold Sl.le4 at h
      simp only [List.cons.injEq, and_true] at h
      obtain ⟨rfl, rfl, rfl, rfl⟩ := h
      unfold leNum
      simp only [List.getD_cons_zero, List.getD_cons_succ]
      rw [u8_ofNat _ (by omega), u8_ofNat _ (by omega), u8_ofNat _ (by omega), u8_ofNat _ (by omega)]
      omega
    · intro h
      unfold leNum at h
      simp only [List.getD_cons_zero, List.getD_cons_succ] at h
      unfold Sl.le4
      have e1 : c % 256 = a.toNat := by omega
      have e2 : c / 256 % 256 = b.toNat := by omega
      have e3 : c / 65536 % 256 = d.toNat := by omega
      have e4 : c / 16777216 % 256 = e.toNat := by omega
      rw [e1, e2, e3, e4]
      simp

theorem summed_iff (t x : List UInt8) (ht : t.length = 4) : t = Sl.summed x ↔ leNum t = Sl.crc x :=
  le4_iff t _ ht (Sl.crcOn_lt 0 _ (by decide))

theorem rest_data (s : ByteArray) (k : Nat) : (s.extract k s.size).data.toList = s.data.toList.drop k := by
  rw [Lib.extract_data, List.take_of_length_le]
  rw [List.length_drop]
  have : s.data.toList.length = s.size := Array.length_toList
  omega

theorem ext_data (s : ByteArray) (a b : Nat) : (s.extract a b).data.toList = (s.data.toList.drop a).take (b - a) := Lib.extract_data s a b

theorem size_data (s : ByteArray) : s.size = s.data.toList.length := Array.length_toList.symm

theorem beq_toList (a b : ByteArray) : (a.toList == b.toList) = decide (a.data.toList = b.data.toList) := by
  rw [ByteArray.toList_eq, ByteArray.toList_eq]
  by_cases h : a.data.toList = b.data.toList
  · rw [h]; simp
  · rw [decide_eq_false h]; simpa using h

theorem take_take' (l : List UInt8) (a b : Nat) (h : a ≤ b) : (l.take b).take a = l.take a := by rw [List.take_take, Nat.min_eq_left h]

set_option maxRecDepth 100000 in
/-- seal.Parse, from a place within the text. -/
theorem parse_any (s : ByteArray) (k : Nat) (R : Sl.Parsed) (w : World) (hs : s.size ≤ 9223372036854775807) (hk : k ≤ s.size) (hT : TabS w) (hR : Sl.parse (s.data.toList.drop k) = R) :
    Calls Tryd.prog 54 #[.string s, .int .i64 k] w fun e w' => e = .returned (parseV k R) ∧ Below w.heap.size w w' := by
  obtain ⟨L, hL⟩ : ∃ L, s.extract k s.size = L := ⟨_, rfl⟩
  have hLd : L.data.toList = s.data.toList.drop k := by rw [← hL]; exact rest_data s k
  have hLs : L.size = s.size - k := by rw [size_data L, hLd, List.length_drop, ← size_data]
  rw [← hLd] at hR
  have hll : L.data.toList.length = L.size := Array.length_toList
  unfold Sl.parse at hR
  rw [hll] at hR
  by_cases h0 : L.size = 0
  · rw [if_pos h0] at hR; subst hR
    exact parse_short s L k w hk hL h0
  rw [if_neg h0] at hR
  have hp : 0 < L.size := by omega
  rw [getD_byte L 0 hp] at hR
  by_cases h1 : L[0].toNat = 167
  rotate_left
  · rw [if_pos (by simpa using h1)] at hR; subst hR
    exact parse_magic s L k w hk hL hp h1
  rw [if_neg (by simpa using h1)] at hR
  by_cases h2 : L.size < 10
  · rw [if_pos h2] at hR; subst hR
    exact parse_ten s L k w hk hL hp h1 h2
  rw [if_neg h2] at hR
  obtain ⟨X, hX⟩ : ∃ X, L.extract 0 6 = X := ⟨_, rfl⟩
  obtain ⟨Z, hZ⟩ : ∃ Z, L.extract 6 L.size = Z := ⟨_, rfl⟩
  obtain ⟨Y, hY⟩ : ∃ Y, Z.extract 0 4 = Y := ⟨_, rfl⟩
  obtain ⟨W, hW⟩ : ∃ W, Z.extract 4 Z.size = W := ⟨_, rfl⟩
  obtain ⟨S, hS, hSd, _⟩ := str_of (Sl.summed X.data.toList)
  have hXd : X.data.toList = L.data.toList.take 6 := by rw [← hX, ext_data]; rfl
  have hXs : X.size = 6 := by rw [size_data X, hXd, List.length_take_of_le (by omega)]
  have hZd : Z.data.toList = L.data.toList.drop 6 := by rw [← hZ]; exact rest_data L 6
  have hZs : Z.size = L.size - 6 := by rw [size_data Z, hZd, List.length_drop, hll]
  have hYd : Y.data.toList = (L.data.toList.drop 6).take 4 := by rw [← hY, ext_data, hZd]; rfl
  have hWd : W.data.toList = L.data.toList.drop 10 := by rw [← hW, rest_data, hZd, List.drop_drop]
  have hWs : W.size = L.size - 10 := by rw [size_data W, hWd, List.length_drop, hll]
  rw [← hXd, ← hYd] at hR
  have hb : (Y.toList == S.toList) = decide (Y.data.toList = Sl.summed X.data.toList) := by rw [beq_toList, hSd]
  by_cases h3 : Y.data.toList = Sl.summed X.data.toList
  rotate_left
  · rw [if_pos h3] at hR; subst hR
    exact parse_sum s L X Y Z S k w hk hL (fun _ => h1) (by omega) hT hX hXs hZ hY (by omega) hS (by rw [hb]; exact decide_eq_false h3)
  rw [if_neg (by simpa using h3)] at hR
  have heq : (Y.toList == S.toList) = true := by rw [hb]; exact decide_eq_true h3
  have hx1 : ∀ h : 1 < X.size, X[1] = L[1] := by
    intro h
    rw [← getD_byte X 1 h, hXd, ← getD_byte L 1 (by omega)]
    rw [List.getD_eq_getElem?_getD, List.getD_eq_getElem?_getD, List.getElem?_take_of_lt (by decide)]
  rw [getD_byte L 1 (by omega)] at hR
  have hnn : Sl.beNum ((X.data.toList.drop 2).take 4) = Sl.beNum ((L.data.toList.drop 2).take 4) := by
    rw [hXd, List.drop_take, take_take' _ _ _ (by decide)]
  rw [← hnn] at hR
  obtain ⟨n, hn⟩ : ∃ n, Sl.beNum ((X.data.toList.drop 2).take 4) = n := ⟨_, rfl⟩
  rw [hn] at hR
  by_cases h4 : L[1].toNat = 0
  · rw [if_pos h4] at hR; subst hR
    exact parse_kind s L X Y Z W S k w hk hL (fun _ => h1) (by omega) hT hX hXs hZ hY hW (by omega) hS heq (fun h => by rw [hx1 h]; exact h4)
  rw [if_neg h4] at hR
  by_cases h5 : 65536 < n
  · rw [if_pos h5] at hR; subst hR
    exact parse_big s L X Y Z W S k w hk hL (fun _ => h1) (by omega) hT hX hXs hZ hY hW (by omega) hS heq (fun h => by rw [hx1 h]; exact h4) (by rw [hn]; exact h5)
  rw [if_neg h5] at hR
  by_cases h6 : L.size < n + 14
  · rw [if_pos h6] at hR; subst hR
    exact parse_long s L X Y Z W S k n w hk hL (fun _ => h1) (by omega) hT hX hXs hZ hY hW (by omega) hS heq hn (fun h => by rw [hx1 h]; exact h4) (by omega) (by omega)
  rw [if_neg h6] at hR
  obtain ⟨P, hP⟩ : ∃ P, W.extract 0 n = P := ⟨_, rfl⟩
  obtain ⟨V, hV⟩ : ∃ V, W.extract n W.size = V := ⟨_, rfl⟩
  obtain ⟨U, hU⟩ : ∃ U, V.extract 0 4 = U := ⟨_, rfl⟩
  obtain ⟨E, hE⟩ : ∃ E, V.extract 4 V.size = E := ⟨_, rfl⟩
  obtain ⟨S2, hS2, hS2d, _⟩ := str_of (Sl.summed (X ++ P).data.toList)
  have hPd : P.data.toList = (L.data.toList.drop 10).take n := by rw [← hP, ext_data, hWd]; rfl
  have hPs : P.size ≤ 65536 := by rw [size_data P, hPd, List.length_take]; omega
  have hVd : V.data.toList = L.data.toList.drop (10 + n) := by rw [← hV, rest_data, hWd, List.drop_drop]
  have hVs : V.size = L.size - (10 + n) := by rw [size_data V, hVd, List.length_drop, hll]
  have hUd : U.data.toList = (L.data.toList.drop (10 + n)).take 4 := by rw [← hU, ext_data, hVd]; rfl
  have hEd : E.data.toList = L.data.toList.drop (10 + n + 4) := by rw [← hE, rest_data, hVd, List.drop_drop]
  have hEs : E.size = L.size - (10 + n + 4) := by rw [size_data E, hEd, List.length_drop, hll]
  have hXP : (X ++ P).data.toList = X.data.toList ++ P.data.toList := data_append X P
  rw [← hPd, ← hUd, ← hXP] at hR
  have hb2 : (U.toList == S2.toList) = decide (U.data.toList = Sl.summed (X ++ P).data.toList) := by rw [beq_toList, hS2d]
  by_cases h7 : U.data.toList = Sl.summed (X ++ P).data.toList
  rotate_left
  · rw [if_pos h7] at hR; subst hR
    exact parse_tail s L X Y Z W S k n w hk hL (fun _ => h1) (by omega) hT hX hXs hZ hY hW (by omega) hS heq hn (fun h => by rw [hx1 h]; exact h4) (by omega) (by omega) P V U E S2 hP hPs hV (by omega) hU hE hS2 (by rw [hb2]; exact decide_eq_false h7)
  rw [if_neg (by simpa using h7)] at hR
  subst hR
  have r := parse_good s L X Y Z W S k n w hk hL (fun _ => h1) (by omega) hT hX hXs hZ hY hW (by omega) hS heq hn (fun h => by rw [hx1 h]; exact h4) (by omega) (by omega) P V U E S2 hP hPs hV (by omega) hU hE hS2 (by rw [hb2]; exact decide_eq_true h7)
    (by omega) hs L[1].toNat (k + (n + 14)) (fun h => by rw [hx1 h]) (by omega)
  refine r.mono fun e w' ⟨he, hB⟩ => ⟨?_, hB⟩
  rw [he]
  unfold parseV
  rw [str_eq (b := P) (l := P.data.toList) rfl]
  rfl
end Go.Proofs.YtknemjnlcghafaaDoor
/- Contract of the document's Parse, at every place of every text. Conditions: each theorem's own hypotheses. -/
namespace Go.Proofs.YtknemjnlcghafaaDoor
set_option linter.unusedVariables false
open Go.RowKit

theorem begun_parse (l : List UInt8) : (∃ c, c ≠ 0 ∧ c ≤ 36 ∧ begunP l = (0, c) ∧ Sl.parse l = ⟨c, 0, [], 0⟩) ∨
    (∃ n, Sl.beNum ((l.drop 2).take 4) = n ∧ begunP l = (n, 0) ∧ 10 ≤ l.length ∧ n ≤ 65536 ∧ Sl.parse l =
      if l.length < n + 14 then ⟨31, 0, [], 0⟩
      else if ¬ leNum ((l.drop (10 + n)).take 4) = Sl.crc (l.take 6 ++ (l.drop 10).take n) then ⟨34, 0, [], 0⟩
      else ⟨0, (l.getD 1 0).toNat, (l.drop 10).take n, n + 14⟩) := by
  unfold begunP Sl.parse
  by_cases h0 : l.length = 0
  · exact Or.inl ⟨31, by decide, by decide, by rw [if_pos h0], by rw [if_pos h0]⟩
  rw [if_neg h0, if_neg h0]
  by_cases h1 : (l.getD 0 0).toNat = 167
  rotate_left
  · exact Or.inl ⟨33, by decide, by decide, by rw [if_pos h1], by rw [if_pos h1]⟩
  rw [if_neg (not_not_intro h1), if_neg (not_not_intro h1)]
  by_cases h2 : l.length < 10
  · exact Or.inl ⟨31, by decide, by decide, by rw [if_pos h2], by rw [if_pos h2]⟩
  rw [if_neg h2, if_neg h2]
  have i3 := summed_iff ((l.drop 6).take 4) (l.take 6) (by rw [List.length_take_of_le (by rw [List.length_drop]; omega)])
  by_cases h3 : leNum ((l.drop 6).take 4) = Sl.crc (l.take 6)
  rotate_left
  · exact Or.inl ⟨34, by decide, by decide, by rw [if_pos h3], by rw [if_pos (fun h => h3 (i3.mp h))]⟩
  rw [if_neg (not_not_intro h3), if_neg (not_not_intro (i3.mpr h3))]
  by_cases h4 : (l.getD 1 0).toNat = 0
  · exact Or.inl ⟨35, by decide, by decide, by rw [if_pos h4], by rw [if_pos h4]⟩
  rw [if_neg h4, if_neg h4]
  obtain ⟨n, hn⟩ : ∃ n, Sl.beNum ((l.drop 2).take 4) = n := ⟨_, rfl⟩
  rw [hn]
  by_cases h5 : 65536 < n
  · exact Or.inl ⟨36, by decide, by decide, by rw [if_pos h5], by rw [if_pos h5]⟩
  rw [if_neg h5, if_neg h5]
  refine Or.inr ⟨n, rfl, rfl, by omega, by omega, ?_⟩
  by_cases h6 : l.length < n + 14
  · rw [if_pos h6, if_pos h6]
  rw [if_neg h6, if_neg h6]
  have i7 := summed_iff ((l.drop (10 + n)).take 4) (l.take 6 ++ (l.drop 10).take n) (by rw [List.length_take_of_le (by rw [List.length_drop]; omega)])
  by_cases h7 : leNum ((l.drop (10 + n)).take 4) = Sl.crc (l.take 6 ++ (l.drop 10).take n)
  · rw [if_neg (not_not_intro h7), if_neg (not_not_intro (i7.mpr h7))]
  · rw [if_pos h7, if_pos (fun h => h7 (i7.mp h))]

end Go.Proofs.YtknemjnlcghafaaDoor
