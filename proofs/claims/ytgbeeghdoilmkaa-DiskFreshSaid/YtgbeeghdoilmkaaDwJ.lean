/- Disks, plain: an image opened is the durable part; disks that differ by age and counted writes alone do alike. Conditions: each theorem's own hypotheses. -/
import Derived.Test.YtgbeeghdoilmkaaDwG
namespace Go.Proofs.Ytgbeeghdoilmkaa
open Go.RowKit Go.Maps Go.Sort
set_option linter.unusedVariables false

theorem Dw.byte {n : Nat} (h : n < 256) : (UInt8.ofNat n).toNat = n := by rw [UInt8.toNat_ofNat']; omega
theorem Dw.num_be4 {n : Nat} (h : n < 4294967296) : Dk.num (Dk.be4 n) = n := by
  unfold Dk.num Dk.be4
  simp only [List.foldl_cons, List.foldl_nil]
  rw [Dw.byte (Nat.mod_lt _ (by decide)), Dw.byte (Nat.mod_lt _ (by decide)), Dw.byte (Nat.mod_lt _ (by decide)), Dw.byte (Nat.mod_lt _ (by decide))]
  omega
theorem Dw.named_len {nm : List UInt8} (h : Dk.named nm = true) : 1 ≤ nm.length ∧ nm.length ≤ 32 := by
  unfold Dk.named at h
  rw [Bool.and_eq_true, decide_eq_true_iff] at h
  exact h.2
theorem Dw.one_img {f : Dk.F} (hn : Dk.named f.name = true) (hs : f.sure ≤ f.data.length) (hd : f.data.length ≤ 268435456) (rest : List UInt8) : Dk.one (Dk.img f ++ rest) = some (f.name, f.data.take f.sure, rest) := by
  obtain ⟨n1, n2⟩ := Dw.named_len hn
  have hc : (UInt8.ofNat f.name.length).toNat = f.name.length := Dw.byte (by omega)
  have hb : (Dk.be4 f.sure).length = 4 := rfl
  have hl : (f.data.take f.sure).length = f.sure := by rw [List.length_take]; omega
  have e : Dk.img f ++ rest = UInt8.ofNat f.name.length :: (f.name ++ (Dk.be4 f.sure ++ (f.data.take f.sure ++ rest))) := by
    unfold Dk.img
    simp only [List.cons_append, List.append_assoc]
  have t1 : (f.name ++ (Dk.be4 f.sure ++ (f.data.take f.sure ++ rest))).take f.name.length = f.name := List.take_left' rfl
  have t2 : ((f.name ++ (Dk.be4 f.sure ++ (f.data.take f.sure ++ rest))).drop f.name.length).take 4 = Dk.be4 f.sure := by rw [List.drop_left' rfl]; exact List.take_left' hb
  have t3 : (f.name ++ (Dk.be4 f.sure ++ (f.data.take f.sure ++ rest))).drop (f.name.length + 4) = f.data.take f.sure ++ rest := by
    rw [← List.append_assoc]
    exact List.drop_left' (by rw [List.length_append, hb])
  have hnum : Dk.num (Dk.be4 f.sure) = f.sure := Dw.num_be4 (by omega)
  have hlen : (f.name ++ (Dk.be4 f.sure ++ (f.data.take f.sure ++ rest))).length = f.name.length + 4 + (f.sure + rest.length) := by
    rw [List.length_append, List.length_append, List.length_append, hb, hl]; omega
  rw [e, Dk.one_cons, hc, t1, t2, t3, hnum, hlen, if_neg (by omega), if_pos ⟨hn, by omega, by omega⟩, List.take_left' hl, List.drop_left' hl]
theorem Dw.img_ne (f : Dk.F) (r : List UInt8) : Dk.img f ++ r ≠ [] := by
  unfold Dk.img
  simp
theorem Dw.imgs_count : ∀ l : List Dk.F, l.length ≤ (Dk.imgs l).length
  | [] => Nat.le_refl _
  | f :: r => by
    have h1 := Dw.imgs_count r
    have h2 : 1 ≤ (Dk.img f).length := by unfold Dk.img; simp
    rw [Dk.imgs, List.length_append, List.length_cons]
    omega
theorem Dw.scan_imgs : ∀ (l acc : List Dk.F) (n : Nat), l.length < n → (∀ f ∈ l, Dk.named f.name = true ∧ f.data.length ≤ 268435456 ∧ f.sure ≤ f.data.length) → ((acc ++ l).map Dk.F.name).Pairwise (fun a b => bytesBefore a b = true) → (acc ++ l).length ≤ 4096 →
    Dk.scan n acc (Dk.imgs l) = some (acc ++ l.map (Dk.left []))
  | _, _, 0, hn, _, _, _ => absurd hn (Nat.not_lt_zero _)
  | [], acc, n + 1, hn, _, _, _ => by rw [Dk.imgs, Dk.scan_nil, List.map_nil, List.append_nil]
  | f :: r, acc, n + 1, hn, hf, hp, hm => by
    obtain ⟨f1, f2, f3⟩ := hf f (List.mem_cons_self ..)
    have hL : Dk.left [] f = ⟨f.name, f.data.take f.sure, (f.data.take f.sure).length⟩ := by
      rw [Dw.left_none f3, List.length_take, Nat.min_eq_left f3]
    have hb : bytesBefore (Dk.lastN acc) f.name = true := by
      rcases List.eq_nil_or_concat acc with rfl | ⟨a, z, rfl⟩
      · have := (Dw.named_len f1).1
        cases hnm : f.name with
        | nil => rw [hnm] at this; simp at this
        | cons c t => rfl
      · rw [List.concat_eq_append, Dk.lastN_snoc]
        rw [List.concat_eq_append, List.map_append] at hp
        exact (List.pairwise_append.1 hp).2.2 z.name (List.mem_map.2 ⟨z, by simp, rfl⟩) f.name (by simp)
    rw [List.length_append, List.length_cons] at hm
    rw [Dk.imgs, Dk.scan_some (Dw.img_ne _ _) (Dw.one_img f1 f3 f2 _), if_pos ⟨hb, by omega⟩, ← hL]
    rw [Dw.scan_imgs r (acc ++ [Dk.left [] f]) n (by rw [List.length_cons] at hn; omega) (fun g hg => hf g (List.mem_cons_of_mem _ hg)) ?_ (by simp only [List.length_append, List.length_cons, List.length_nil]; omega)]
    · rw [List.map_cons, List.append_assoc]; rfl
    · have : ((acc ++ [Dk.left [] f]) ++ r).map Dk.F.name = (acc ++ f :: r).map Dk.F.name := by
        simp only [List.map_append, List.map_cons, List.append_assoc, List.cons_append, List.nil_append]
        rfl
      rw [this]
      exact hp
/-- The durable part, as it is opened. -/
def Dw.again (m : Dk.M) : Dk.M := { Dk.fresh m.cap with files := m.files.map (Dk.left []) }
theorem Dw.opened_image {m : Dk.M} (hG : Dk.Good m) : Dk.opened (Dk.image m) m.cap = .ok (Dw.again m) := by
  have hcap := hG.cap
  have hs : Dk.scan ((Dk.imgs m.files).length + 1) [] (Dk.imgs m.files) = some ([] ++ m.files.map (Dk.left [])) :=
    Dw.scan_imgs m.files [] _ (Nat.lt_succ_of_le (Dw.imgs_count _)) hG.file (by rw [List.nil_append]; exact List.pairwise_map.2 hG.up) (by rw [List.nil_append]; exact hG.many)
  have hu := Dk.left_le [] m.files fun f hf => (hG.file f hf).2.2
  have := hG.used
  unfold Dk.opened
  rw [if_neg (by omega)]
  show (if (68 : UInt8) = 68 then Dk.verdict _ _ else _) = _
  rw [if_pos rfl, hs, List.nil_append]
  show (if _ then _ else _) = _
  rw [if_neg (by omega)]
  rfl
theorem Dw.imgs_left : ∀ l : List Dk.F, (∀ f ∈ l, f.sure ≤ f.data.length) → Dk.imgs (l.map (Dk.left [])) = Dk.imgs l
  | [], _ => rfl
  | f :: r, h => by
    rw [List.map_cons, Dk.imgs, Dk.imgs, Dw.imgs_left r fun g hg => h g (List.mem_cons_of_mem _ hg), Dw.left_none (h f (List.mem_cons_self ..))]
    unfold Dk.img
    show _ :: (_ ++ _ ++ List.take f.sure (List.take f.sure f.data)) ++ _ = _
    rw [List.take_take, Nat.min_self]
theorem Dw.image_again {m : Dk.M} (hG : Dk.Good m) : Dk.image (Dw.again m) = Dk.image m := by
  show 68 :: Dk.imgs (m.files.map (Dk.left [])) = _
  rw [Dw.imgs_left m.files fun f hf => (hG.file f hf).2.2]
  rfl
/-- Alike but for age and counted writes. -/
structure Dw.Sim (a b : Dk.M) : Prop where
  files : a.files = b.files
  cap : a.cap = b.cap
  off : a.off = b.off
  left : a.left = b.left
  done : a.done = b.done
def Dw.Sim2 (x y : Dk.M × Int) : Prop := Dw.Sim x.1 y.1 ∧ x.2 = y.2
theorem Dw.Sim.image {a b : Dk.M} (h : Dw.Sim a b) : Dk.image a = Dk.image b := by unfold Dk.image; rw [h.files]
theorem Dw.Sim.told {a b : Dk.M} (h : Dw.Sim a b) : Dk.told a = Dk.told b := by unfold Dk.told; rw [h.files, h.off]
theorem Dw.sim_again (m : Dk.M) : Dw.Sim (Dw.again m) (Dk.crash m []) := ⟨rfl, rfl, rfl, rfl, rfl⟩
theorem Dw.sim_crash {a b : Dk.M} (h : Dw.Sim a b) (l : List Dk.Cut) : Dw.Sim (Dk.crash a l) (Dk.crash b l) := by
  refine ⟨?_, h.cap, rfl, rfl, rfl⟩
  show a.files.map _ = b.files.map _
  rw [h.files]
theorem Dw.sim_ite {c : Prop} [Decidable c] {x y x' y' : Dk.M × Int} (h1 : Dw.Sim2 x x') (h2 : Dw.Sim2 y y') : Dw.Sim2 (if c then x else y) (if c then x' else y') := by
  split
  · exact h1
  · exact h2
theorem Dw.sim_play {a b : Dk.M} (h : Dw.Sim a b) (s : Dw.S) : Dw.Sim2 (Dw.play a s) (Dw.play b s) := by
  obtain ⟨fs, cap, ag, wr, off, lf, dn⟩ := a
  obtain ⟨fs2, cap2, ag2, wr2, off2, lf2, dn2⟩ := b
  obtain ⟨h1, h2, h3, h4, h5⟩ := h
  simp only at h1 h2 h3 h4 h5
  subst h1 h2 h3 h4 h5
  have S0 : Dw.Sim ⟨fs, cap, ag, wr, off, lf, dn⟩ ⟨fs, cap, ag2, wr2, off, lf, dn⟩ := ⟨rfl, rfl, rfl, rfl, rfl⟩
  have SS : ∀ e, Dw.Sim2 (⟨fs, cap, ag, wr, off, lf, dn⟩, e) (⟨fs, cap, ag2, wr2, off, lf, dn⟩, e) := fun e => ⟨S0, rfl⟩
  have SA : ∀ last fl, Dw.Sim2 (Dk.acc ⟨fs, cap, ag, wr, off, lf, dn⟩ last fl) (Dk.acc ⟨fs, cap, ag2, wr2, off, lf, dn⟩ last fl) := fun last fl =>
    Dw.sim_ite ⟨⟨rfl, rfl, rfl, rfl, rfl⟩, rfl⟩ (Dw.sim_ite ⟨⟨rfl, rfl, rfl, rfl, rfl⟩, rfl⟩ ⟨⟨rfl, rfl, rfl, rfl, rfl⟩, rfl⟩)
  have D1 : ∀ nm, Dw.Sim2 (Dk.create ⟨fs, cap, ag, wr, off, lf, dn⟩ nm) (Dk.create ⟨fs, cap, ag2, wr2, off, lf, dn⟩ nm) := fun nm => Dw.sim_ite (SS _) (Dw.sim_ite (SS _) (Dw.sim_ite (SS _) (SA _ _)))
  have D2 : ∀ nm s, Dw.Sim2 (Dk.append ⟨fs, cap, ag, wr, off, lf, dn⟩ nm s) (Dk.append ⟨fs, cap, ag2, wr2, off, lf, dn⟩ nm s) := fun nm s => Dw.sim_ite (SS _) (Dw.sim_ite (SS _) (Dw.sim_ite (SS _) (SA _ _)))
  have D3 : ∀ nm, Dw.Sim2 (Dk.sync ⟨fs, cap, ag, wr, off, lf, dn⟩ nm) (Dk.sync ⟨fs, cap, ag2, wr2, off, lf, dn⟩ nm) := fun nm => Dw.sim_ite (SS _) (SA _ _)
  have D4 : ∀ nm n, Dw.Sim2 (Dk.cut ⟨fs, cap, ag, wr, off, lf, dn⟩ nm n) (Dk.cut ⟨fs, cap, ag2, wr2, off, lf, dn⟩ nm n) := fun nm n => Dw.sim_ite (SS _) (Dw.sim_ite (SS _) (SA _ _))
  have D5 : ∀ nm to, Dw.Sim2 (Dk.rename ⟨fs, cap, ag, wr, off, lf, dn⟩ nm to) (Dk.rename ⟨fs, cap, ag2, wr2, off, lf, dn⟩ nm to) := fun nm to => Dw.sim_ite (SS _) (Dw.sim_ite (SS _) (Dw.sim_ite (SS _) (SA _ _)))
  have D6 : ∀ nm, Dw.Sim2 (Dk.delete ⟨fs, cap, ag, wr, off, lf, dn⟩ nm) (Dk.delete ⟨fs, cap, ag2, wr2, off, lf, dn⟩ nm) := fun nm => Dw.sim_ite (SS _) (SA _ _)
  have DD : Dw.Sim2 (Dw.done ⟨fs, cap, ag, wr, off, lf, dn⟩ s) (Dw.done ⟨fs, cap, ag2, wr2, off, lf, dn⟩ s) :=
    Dw.sim_ite (D1 _) (Dw.sim_ite (D2 _ _) (Dw.sim_ite (D3 _) (Dw.sim_ite (D4 _ _) (Dw.sim_ite (D5 _ _) (D6 _)))))
  have DR : Dw.Sim2 (⟨fs, cap, ag, wr, off, lf, dn⟩, Dw.readE ⟨fs, cap, ag, wr, off, lf, dn⟩ s.name s.at_ s.n) (⟨fs, cap, ag2, wr2, off, lf, dn⟩, Dw.readE ⟨fs, cap, ag2, wr2, off, lf, dn⟩ s.name s.at_ s.n) := ⟨S0, rfl⟩
  have DM : Dw.Sim2 (Dk.arm ⟨fs, cap, ag, wr, off, lf, dn⟩ s.n s.done, 0) (Dk.arm ⟨fs, cap, ag2, wr2, off, lf, dn⟩ s.n s.done, 0) := by
    unfold Dk.arm
    refine ⟨?_, rfl⟩
    simp only
    split
    · exact S0
    · exact ⟨rfl, rfl, rfl, rfl, rfl⟩
  exact Dw.sim_ite DR (Dw.sim_ite DM (Dw.sim_ite ⟨Dw.sim_crash S0 _, rfl⟩ (Dw.sim_ite DD (SS _))))
/-- The capacity stays. -/
theorem Dw.acc_cap (m : Dk.M) (last : Bool) (fs : List Dk.F) : (Dk.acc m last fs).1.cap = m.cap := by
  unfold Dk.acc
  split
  · rfl
  split <;> rfl
theorem Dw.cap_ite {c : Prop} [Decidable c] {x y : Dk.M × Int} {n : Nat} (h1 : x.1.cap = n) (h2 : y.1.cap = n) : (if c then x else y).1.cap = n := by split <;> assumption
theorem Dw.play_cap (m : Dk.M) (s : Dw.S) : (Dw.play m s).1.cap = m.cap := by
  have hA := Dw.acc_cap m
  have hM : (Dk.arm m s.n s.done, (0 : Int)).1.cap = m.cap := by unfold Dk.arm; simp only; split <;> rfl
  have D1 : ∀ nm, (Dk.create m nm).1.cap = m.cap := fun nm => Dw.cap_ite rfl (Dw.cap_ite rfl (Dw.cap_ite rfl (hA _ _)))
  have D2 : ∀ nm s, (Dk.append m nm s).1.cap = m.cap := fun nm s => Dw.cap_ite rfl (Dw.cap_ite rfl (Dw.cap_ite rfl (hA _ _)))
  have D3 : ∀ nm, (Dk.sync m nm).1.cap = m.cap := fun nm => Dw.cap_ite rfl (hA _ _)
  have D4 : ∀ nm n, (Dk.cut m nm n).1.cap = m.cap := fun nm n => Dw.cap_ite rfl (Dw.cap_ite rfl (hA _ _))
  have D5 : ∀ nm to, (Dk.rename m nm to).1.cap = m.cap := fun nm to => Dw.cap_ite rfl (Dw.cap_ite rfl (Dw.cap_ite rfl (hA _ _)))
  have D6 : ∀ nm, (Dk.delete m nm).1.cap = m.cap := fun nm => Dw.cap_ite rfl (hA _ _)
  exact Dw.cap_ite rfl (Dw.cap_ite hM (Dw.cap_ite rfl (Dw.cap_ite (Dw.cap_ite (D1 _) (Dw.cap_ite (D2 _ _) (Dw.cap_ite (D3 _) (Dw.cap_ite (D4 _ _) (Dw.cap_ite (D5 _ _) (D6 _)))))) rfl)))
#print axioms Dw.opened_image
#print axioms Dw.sim_play
#print axioms Dw.play_cap
end Go.Proofs.Ytgbeeghdoilmkaa
