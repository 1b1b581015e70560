/- Disks: their images, as the program writes them. Conditions: each theorem's own hypotheses. -/
import Derived.Test.YtgbeeghdoilmkaaDkJ
import Derived.RegionTactic
import Derived.Deep.RegionHeld3
import Derived.Laws.BitsAllLaws
namespace Go.Proofs.Ytgbeeghdoilmkaa
open Go.RowKit Go.Maps Go.Sort
set_option linter.unusedVariables false

/-- A number as four bytes, the highest first. -/
def Dk.be4 (n : Nat) : List UInt8 := [UInt8.ofNat (n / 16777216 % 256), UInt8.ofNat (n / 65536 % 256), UInt8.ofNat (n / 256 % 256), UInt8.ofNat (n % 256)]
/-- A file in an image. -/
def Dk.img (f : Dk.F) : List UInt8 := UInt8.ofNat f.name.length :: (f.name ++ Dk.be4 f.sure ++ f.data.take f.sure)
def Dk.imgs : List Dk.F → List UInt8
  | [] => []
  | f :: r => Dk.img f ++ Dk.imgs r
/-- An image. -/
def Dk.image (m : Dk.M) : List UInt8 := 68 :: Dk.imgs m.files
theorem Dk.imgs_append (a b : List Dk.F) : Dk.imgs (a ++ b) = Dk.imgs a ++ Dk.imgs b := by
  induction a with
  | nil => rfl
  | cons f r ih => rw [List.cons_append, Dk.imgs, Dk.imgs, ih, List.append_assoc]
theorem Dk.img_len (f : Dk.F) (h : Dk.named f.name = true) : (Dk.img f).length ≤ 37 + f.data.length := by
  have h2 : f.name.length ≤ 32 := by
    unfold Dk.named at h
    rw [Bool.and_eq_true, decide_eq_true_iff] at h
    exact h.2.2
  unfold Dk.img Dk.be4
  simp only [List.length_cons, List.length_append, List.length_take, List.length_nil]
  omega
theorem Dk.used_cons (f : Dk.F) (r : List Dk.F) : Dk.used (f :: r) = f.data.length + Dk.used r := by unfold Dk.used; rw [List.map_cons, List.sum_cons]
theorem Dk.used_append (a b : List Dk.F) : Dk.used (a ++ b) = Dk.used a + Dk.used b := by
  unfold Dk.used
  rw [List.map_append, List.sum_append]
theorem Dk.imgs_len : ∀ l : List Dk.F, (∀ f ∈ l, Dk.named f.name = true) → (Dk.imgs l).length ≤ 37 * l.length + Dk.used l
  | [], _ => Nat.zero_le _
  | f :: r, h => by
    have h1 := Dk.img_len f (h f (List.mem_cons_self ..))
    have h2 := Dk.imgs_len r fun g hg => h g (List.mem_cons_of_mem _ hg)
    rw [Dk.imgs, List.length_append, Dk.used_cons, List.length_cons]
    omega
theorem Dk.imgs_take {m : Dk.M} (hG : Dk.Good m) (k : Nat) : (Dk.imgs (m.files.take k)).length ≤ 1074000000 := by
  have h1 := Dk.imgs_len (m.files.take k) fun f hf => (hG.file f (List.mem_of_mem_take hf)).1
  have h2 : Dk.used (m.files.take k) ≤ Dk.used m.files := by
    have := Dk.used_append (m.files.take k) (m.files.drop k)
    rw [List.take_append_drop] at this
    omega
  have h3 := List.length_take_le k m.files
  have h4 := List.length_take_le' k m.files
  have := hG.many
  have := hG.used
  have := hG.cap
  omega
/-- Rows of two types lie apart. -/
theorem Dk.own_ne {w : World} {b1 b2 : Nat} {e1 e2 : TypeId} {s1 s2 n1 n2 : Nat} {v1 v2 : Value} {x1 x2 : List Value} (h1 : w.ownsRow b1 e1 s1 v1 n1 x1) (h2 : w.ownsRow b2 e2 s2 v2 n2 x2) (he : e1 ≠ e2) : v1.ownBlock = none ∨ v1.ownBlock ≠ v2.ownBlock := by
  rcases h1.2 with ⟨rfl, _⟩ | ⟨g, cap, cur, rfl, _, hg, _⟩
  · exact .inl rfl
  · rcases h2.2 with ⟨rfl, _⟩ | ⟨g2, cap2, cur2, rfl, _, hg2, _⟩
    · exact .inr (fun h => by cases h)
    · refine .inr fun h => he ?_
      injection h with h
      subst h
      rw [hg] at hg2
      injection hg2 with hg2
      injection hg2
/-- A byte as a value. -/
def Dk.bv (c : UInt8) : Value := .int .u8 (c.toNat : Int)
theorem Dk.conv_own {w : World} {base n : Nat} {v : Value} {l : List UInt8} (h : w.ownsRow base 5 1 v n (l.map Dk.bv)) (hl : l.length = n) :
    (convert 81 9 v).run Try.prog w = .ok (Tx.v l) w := by
  subst hl
  rcases h.2 with ⟨rfl, h0⟩ | ⟨g, cap, cur, rfl, _⟩
  · rw [List.length_eq_zero_iff.1 h0]
    exact Dk.conv_nil w
  · refine run_convert_bytes_back w 81 9 5 ⟨g, 0, none⟩ cap l Try.underlying81 Try.underlying5 Try.underlying9 fun j hj => ?_
    have := h.cellAt j (by omega)
    rw [show (⟨g, 0, none⟩ : Addr).add j = ⟨g, j, none⟩ from by unfold Addr.add; split <;> simp_all, this]
    simp [Dk.bv, hj]
theorem Dk.strCells_bv (s : ByteArray) : Lib.strCells s = s.data.toList.map Dk.bv := rfl
end Go.Proofs.Ytgbeeghdoilmkaa
