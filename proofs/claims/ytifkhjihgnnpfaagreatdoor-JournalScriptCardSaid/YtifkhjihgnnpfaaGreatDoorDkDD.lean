/- Disks: Crash. Conditions: each theorem's own hypotheses. -/
import Derived.Test.YtifkhjihgnnpfaaGreatDoorDkBB
namespace Go.Proofs.YtifkhjihgnnpfaaGreatDoor
open Go.RowKit Go.Maps Go.Sort
set_option linter.unusedVariables false

def Dk.o68 : Op := Op.load 84 (Operand.tmp 67)
attribute [go_sem] Dk.o68
def Dk.o91 : Op := Op.load 5 (Operand.tmp 90)
attribute [go_sem] Dk.o91
def Dk.o107 : Op := Op.load 3 (Operand.tmp 106)
attribute [go_sem] Dk.o107
def Dk.cellsU (b : Nat) (m : Dk.M) (u : Nat) : Array Value := #[.map (some b), .int .i64 m.cap, .int .i64 u, .int .i64 m.age, .int .i64 m.writes, .bool m.off, .int .i64 m.left, .bool m.done]
/-- Amid a crash: some files are done. -/
structure Dk.CrSt (W wr : World) (d b bl r n : Nat) (m : Dk.M) (L : List Dk.X) (cs : List Dk.Cut) (D : DataW Unit) (lf : Lit → Bool) (cnt : Nat) : Prop where
  rg : wr.ranges Tryz.prog 9 Dk.R b r L.length (Dk.dat L) lf cnt
  left : Dk.Left wr bl n cs D
  disk : Blk wr d 44 (Dk.cellsU b m (Dk.sumOf cs lf L))
  body : Dk.Body wr b (L.map (Dk.amid cs lf))
  only : Dk.Only (Dk.foot d b L) W wr
  bl1 : W.heap.size ≤ bl
  bl2 : bl < wr.heap.size
  r1 : W.heap.size ≤ r
  r2 : r < wr.heap.size
  ne : bl ≠ r
/-- The entry that has come. -/
theorem Dk.entry {L : List Dk.X} {nm : List UInt8} {c : Option Addr} {y : DataW Unit × List MemPlace} (hv : Dk.R (.pointer c) = some y) (hat : ∀ zd, (Dk.dat L).atKey (.string nm) zd = y.1) : ∃ x ∈ L, x.nm = nm ∧ c = some ⟨x.blk, 0, none⟩ := by
  cases hg : Dk.get Dk.X.nm nm L with
  | none =>
    have h1 := hat (.lit (.bool true))
    have h2 := hat (.lit (.bool false))
    rw [Dk.dat_at, hg] at h1 h2
    rw [← h1] at h2
    cases h2
  | some x =>
    obtain ⟨hx, hn⟩ := Dk.get_mem hg
    have h1 := hat .nil
    rw [Dk.dat_at, hg] at h1
    have h3 : Dk.R (.pointer c) = some (.lit (.int .i64 x.blk), y.2) := by rw [hv, ← Prod.eta y, ← h1]
    have := Dk.R_lit h3
    injection this with this
    exact ⟨x, hx, hn, this⟩
theorem Dk.ranges_keep {w w' : World} {b r n : Nat} {D : DataW Unit} {lf : Lit → Bool} {cnt : Nat} (h : w.ranges Tryz.prog 9 Dk.R b r n D lf cnt) (hb : w'.heap[b]? = w.heap[b]?) (hr : w'.heap[r]? = w.heap[r]?) : w'.ranges Tryz.prog 9 Dk.R b r n D lf cnt := by
  obtain ⟨es, clock, since, seen, c0, h1, h2, h3, h4, h5, h6⟩ := h
  exact ⟨es, clock, since, seen, c0, hb.trans h1, h2, h3, h4, hr.trans h5, h6⟩
/-- One file is done. -/
theorem Dk.CrSt.step {W wr w3 w4 : World} {d b bl r n : Nat} {m : Dk.M} {L : List Dk.X} {cs : List Dk.Cut} {D : DataW Unit} {lf : Lit → Bool} {cnt cnt2 : Nat} (h : Dk.CrSt W wr d b bl r n m L cs D lf cnt)
    (hU : Dk.Up Dk.X.nm L) {x : Dk.X} (hx : x ∈ L) (hlk : lf (.string x.nm) = true) (hft : ∀ k, Dk.foot d b L k → k < W.heap.size) (hlone : ∀ k, (k = b ∨ ∃ x ∈ L, x.blk = k ∨ x.v.ownBlock = some k) → k ≠ d)
    (hg3 : wr.grownBy w3 (some r)) (hs3 : w3.heap.size = wr.heap.size)
    (hrg : w3.ranges Tryz.prog 9 Dk.R b r L.length (Dk.dat L) (fun z => lf z && !z.sameKey (.string x.nm)) cnt2)
    (hD : Blk w4 d 44 (Dk.cellsU b m (Dk.sumOf cs lf L + (Dk.left cs x.f).data.length))) (h1 : Blk w4 x.blk 89 #[(Dk.cr cs x).v, .int .i64 (Dk.left cs x.f).sure]) (h2 : Dk.Row w4 (Dk.cr cs x).v (Dk.left cs x.f).data)
    (hv : (Dk.cr cs x).v.ownBlock = x.v.ownBlock) (ho : Dk.Only (fun k => k = d ∨ k = x.blk ∨ x.v.ownBlock = some k) w3 w4) :
    Dk.CrSt W w4 d b bl r n m L cs D (fun z => lf z && !z.sameKey (.string x.nm)) cnt2 := by
  have o3 : ∀ g, g ≠ r → g < wr.heap.size → w3.heap[g]? = wr.heap[g]? := fun g hg hl => hg3.block g hl (fun e => hg (Option.some.inj e))
  have hsW := h.only.size
  have hxf : ∀ k, (k = d ∨ k = x.blk ∨ x.v.ownBlock = some k) → Dk.foot d b L k := fun k hk => by
    rcases hk with e | e | e
    · exact .inl e
    · exact .inr (.inr ⟨x, hx, .inl e.symm⟩)
    · exact .inr (.inr ⟨x, hx, .inr e⟩)
  have hnx : ∀ k, W.heap.size ≤ k → k < w3.heap.size → w4.heap[k]? = w3.heap[k]? := fun k hk hl => ho.block k hl fun e => by
    have := hft k (hxf k e); omega
  have hbx : ¬ (b = d ∨ b = x.blk ∨ x.v.ownBlock = some b) := by
    have hbd := hlone b (.inl rfl)
    rintro (e | e | e)
    · exact hbd e
    · have hm := h.body.map
      obtain ⟨es, clock, hmb, _⟩ := hm
      have hxx : Dk.amid cs lf x = x := by unfold Dk.amid; rw [if_pos hlk]
      have h5 := (h.body.file x (by rw [← hxx]; exact List.mem_map_of_mem hx)).1
      unfold Blk at h5
      rw [← e, hmb] at h5; cases h5
    · have hm := h.body.map
      obtain ⟨es, clock, hmb, _⟩ := hm
      have hxx : Dk.amid cs lf x = x := by unfold Dk.amid; rw [if_pos hlk]
      obtain ⟨cur, fz, h5⟩ := (h.body.file x (by rw [← hxx]; exact List.mem_map_of_mem hx)).2.type e
      rw [hmb] at h5; cases h5
  have hbl : b < W.heap.size := hft b (.inr (.inl rfl))
  have h42 := ho.size
  have hU2 : Dk.Up Dk.X.nm (L.map (Dk.amid cs lf)) := by
    unfold Dk.Up at hU ⊢
    refine List.pairwise_map.2 (hU.imp fun {a c} hac => ?_)
    rw [Dk.amid_nm, Dk.amid_nm]
    exact hac
  have hxx : Dk.amid cs lf x = x := by unfold Dk.amid; rw [if_pos hlk]
  have hx2 : x ∈ L.map (Dk.amid cs lf) := by rw [← hxx]; exact List.mem_map_of_mem hx
  have hbr : ∀ k, (k = b ∨ ∃ y ∈ L.map (Dk.amid cs lf), y.blk = k ∨ y.v.ownBlock = some k) → k < W.heap.size ∧ k ≠ d := by
    have hgo : ∀ k, (k = b ∨ ∃ y ∈ L, y.blk = k ∨ y.v.ownBlock = some k) → k < W.heap.size ∧ k ≠ d := fun k hk => ⟨hft k (.inr hk), hlone k hk⟩
    rintro k (rfl | ⟨y, hy, hk⟩)
    · exact hgo k (.inl rfl)
    · obtain ⟨z, hz, rfl⟩ := List.mem_map.1 hy
      refine hgo k (.inr ⟨z, hz, ?_⟩)
      unfold Dk.amid at hk
      split at hk
      · exact hk
      · rcases hk with e | e
        · exact .inl e
        · refine .inr ?_
          have : (Dk.cr cs z).v.ownBlock = z.v.ownBlock := by
            unfold Dk.cr Dk.short
            cases hv : z.v <;> try rfl
            rename_i a _ _
            cases a <;> rfl
          rw [← this]; exact e
  have hb3 : Dk.Body w3 b (L.map (Dk.amid cs lf)) := h.body.keep fun k hk => o3 k (by have := (hbr k hk).1; have := h.r1; omega) (by have := (hbr k hk).1; omega)
  refine ⟨Dk.ranges_keep hrg (ho.block b (by omega) hbx) (hnx r h.r1 (by have := h.r2; omega)), ?_, ?_, ?_, ?_, h.bl1, by have := h.bl2; omega, h.r1, by have := h.r2; omega, h.ne⟩
  · exact h.left.keep ((hnx bl h.bl1 (by have := h.bl2; omega)).trans (o3 bl h.ne h.bl2))
  · rw [Dk.sumOf_step hU hx hlk]
    exact hD
  · rw [← Dk.amid_step (l := cs) hU hx hlk]
    refine hb3.alter hU2 hx2 _ _ rfl h1 h2 (fun k e => .inl (by rw [← hv]; exact e)) fun k hk h5 h6 h7 => ho.block k hk ?_
    rintro (e | e | e)
    · exact (hbr k h7).2 e
    · exact h5 e
    · exact h6 e
  · have a1 : Dk.Only (Dk.foot d b L) W w3 := h.only.grown hg3 fun k hk => .inr (by cases hk; exact h.r1)
    exact a1.trans (ho.wide fun k _ hk => hxf k hk)
theorem Dk.CrSt.drew {W wr : World} {d b bl r n : Nat} {m : Dk.M} {L : List Dk.X} {cs : List Dk.Cut} {D : DataW Unit} {lf : Lit → Bool} {cnt : Nat} (h : Dk.CrSt W wr d b bl r n m L cs D lf cnt) : Dk.CrSt W wr.drew d b bl r n m L cs D lf cnt :=
  ⟨Dk.ranges_keep h.rg rfl rfl, h.left.keep rfl, h.disk, h.body.keep fun _ _ => rfl, h.only.drew, h.bl1, h.bl2, h.r1, h.r2, h.ne⟩
theorem Dk.cr_own (cs : List Dk.Cut) (z : Dk.X) : (Dk.cr cs z).v.ownBlock = z.v.ownBlock := by
  unfold Dk.cr Dk.short
  cases hv : z.v <;> try rfl
  rename_i a _ _
  cases a <;> rfl
theorem Dk.Row.turn {W : World} {g n c : Nat} {l : List UInt8} (h : Dk.Row W (.slice (some ⟨g, 0, none⟩) n c) l) (hn : 0 < n) (y : UInt8) :
    W.frozen? ⟨g, n - 1, none⟩ = false ∧ Dk.Row (W.setCell ⟨g, n - 1, none⟩ (.int .u8 y.toNat)) (.slice (some ⟨g, 0, none⟩) n c) (l.set (l.length - 1) y) := by
  rcases h with ⟨h1, _⟩ | ⟨g', cap, cur, fz, h1, hg, hf, h2, h3, h4, h5⟩
  · cases h1
  · injection h1 with e1 e2 e3
    injection e1 with e1
    injection e1 with e1
    subst e1 e3
    have hll : (l.set (l.length - 1) y).length = l.length := List.length_set ..
    refine ⟨?_, .inr ⟨g, c, cur.setIfInBounds (n - 1) (.int .u8 y.toNat), fz, by rw [hll, e2], ?_, ?_, by rw [hll]; exact h2, h3, by rw [Array.size_setIfInBounds]; exact h4, ?_⟩⟩
    · simp only [World.frozen?, hg, Bool.and_eq_false_iff, decide_eq_false_iff_not]
      omega
    · simp [World.setCell, Array.getElem?_modify, hg]
    · rw [Array.size_setIfInBounds]; exact hf
    · rw [hll, Array.toList_setIfInBounds]
      rw [List.take_set, h5, e2]
      unfold Lib.byteCells
      rw [List.map_set]
set_option maxRecDepth 100000 in
set_option maxHeartbeats 8000000 in
theorem Dk.crash_any {W : World} {d : Nat} {m : Dk.M} {F : Nat → Prop} (h : Dk.At W d m F) (hG : Dk.Good m) {cv : Value} {cs : List Dk.Cut} (hc : Dk.Cts W cv cs) (hcl : cs.length ≤ 140737488355328) (hcn : ∀ c ∈ cs, c.name.length ≤ 9223372036854775807) :
    Calls Tryz.prog 33 #[.pointer (some ⟨d, 0, none⟩), cv] W fun e W' => e = .returned (.tuple #[]) ∧ Dk.Moved W W' d F (Dk.crash m cs) := by
  obtain ⟨b, L, hS, rfl⟩ := h
  obtain ⟨a, c, rfl⟩ := hc.form
  have hmm := @run_makeMap Tryz.prog
  go_enter Tryz.func33, Tryz.ntmps33
  go_wp2_with fail
  go_loopw [16] (fun i wr => ∃ k n D, k ≤ cs.length ∧ n ≤ k ∧ i = .int .i64 (k : Nat) ∧ Dk.Left wr W.heap.size n (cs.take k) D ∧ Below W.heap.size W wr ∧ W.heap.size < wr.heap.size) (fun i _ => cs.length - (intOf i).toNat)
  case atStart => exact ⟨0, 0, _, Nat.zero_le _, Nat.le_refl _, rfl, Dk.Left.start W, (Below.refl _ _).alloc (Nat.le_refl _) _, by simp⟩
  case round =>
    obtain ⟨k, n, D, hk, hn, rfl, hL, hB, hsz⟩ := hrel
    by_cases hlt : k < cs.length
    · obtain ⟨x, hx⟩ : ∃ x, cs[k]? = some x := ⟨_, List.getElem?_eq_getElem hlt⟩
      have hcr := hc.keep hB.size fun g hg => hB.block g hg
      obtain ⟨nb, hnb, hnbs⟩ := Tx.of x.name
      have hnm := hcn x (List.mem_of_getElem? hx)
      have hmore := Lib.hid (Dk.take_more hx)
      rcases hcr with ⟨_, h2⟩ | ⟨g, off, c2, h1, h2, h3⟩
      · rw [h2] at hlt; exact absurd hlt (Nat.not_lt_zero _)
      · injection h1 with h1 _ hcc
        subst h1
        clear hcc
        obtain ⟨q0, q1, q2⟩ := h3 k x hx
        rw [Tx.v_eq hnb] at q0
        have hlb : W.heap.size < wr.heap.size := hsz
        have hXY : ∃ X, wr.alloc (.cells #[.string nb, .int .i64 x.keep, .int .u8 x.spoil.toNat] 113) = X ∧ Dk.Left X W.heap.size n (cs.take k) D ∧ Below W.heap.size W X ∧ W.heap.size < X.heap.size ∧ wr.heap.size < X.heap.size ∧
            X.cell? ⟨wr.heap.size, 0, none⟩ = some (.string nb) ∧ X.cell? ⟨wr.heap.size, 1, none⟩ = some (.int .i64 x.keep) ∧ X.cell? ⟨wr.heap.size, 2, none⟩ = some (.int .u8 x.spoil.toNat) := by
          have hb := Blk.new wr 113 #[.string nb, .int .i64 x.keep, .int .u8 x.spoil.toNat]
          exact ⟨_, rfl, hL.keep (Below.heap_alloc _ _ _ hlb), hB.alloc hB.size _, by simp; omega, by simp, hb.cell 0, hb.cell 1, hb.cell 2⟩
        obtain ⟨X, hXe, hLX, hBX, hszX, hwX, x0, x1, x2⟩ := hXY
        obtain ⟨va, vk, vq, hrun⟩ := hLX.run_ok nb (by unfold maxLen; omega)
        rw [hnb] at hrun
        obtain ⟨w0, hw0⟩ : ∃ w0, wr.heap.size = w0 := ⟨_, rfl⟩
        rw [hw0] at hwX x0 x1 x2
        have hkey : keyOf Tryz.prog 9 (.string nb) = some (.string x.name) := by
          have : nb.size ≤ maxLen := by unfold maxLen; omega
          simp [keyOf, Tryz.underlying9, mapKey, this, hnb]
        have HN := Lib.hid (And.intro hnb hnbs)
        have hYb : ∀ o : Obj, (X.alloc o).cell? ⟨w0, 0, none⟩ = some (.string nb) ∧ (X.alloc o).cell? ⟨w0, 1, none⟩ = some (.int .i64 x.keep) ∧ (X.alloc o).cell? ⟨w0, 2, none⟩ = some (.int .u8 x.spoil.toNat) := fun o =>
          ⟨(World.cell?_of_block (Below.heap_alloc X o w0 hwX)).trans x0, (World.cell?_of_block (Below.heap_alloc X o w0 hwX)).trans x1, (World.cell?_of_block (Below.heap_alloc X o w0 hwX)).trans x2⟩
        obtain ⟨y0, y1, y2⟩ := hYb (.cells #[.string va, .int .i64 vk, .int .u8 vq] 113)
        cases hq : Dk.cutAny (cs.take k) x.name with
        | true =>
          rw [hq] at hrun
          clear hnb hnbs hx h3 hYb hnm
          go_wp2_with fail
          go_roundw
          case rel =>
            refine ⟨k + 1, n, D, hlt, by omega, by go_num, ?_, hBX.alloc hBX.size _, by simp; omega⟩
            rw [hmore.out]
            exact (hLX.keep (Below.heap_alloc _ _ _ hszX)).skip hq
          case measure => simp [intOf]; omega
        | false =>
          rw [hq] at hrun
          clear hnb hnbs hx h3 hYb hnm
          go_wp2_with (at_mapUpdate; refine wpList_mapUpdate_own _ rfl _ _ _ 111 rfl 9 113 Dk.strKeyed Tryz.underlying111 Dk.Rc W.heap.size n D rfl (hLX.keep (Below.heap_alloc _ _ _ hszX)).own (by unfold maxLen; omega) (.string nb) (.agg #[.string nb, .int .i64 x.keep, .int .u8 x.spoil.toNat]) (.string x.name) rfl rfl hkey (Dk.cutD x) [] (by rw [Dk.Rc_mk, HN.out.1]; rfl) ?_; intro w5 hown5 hg5)
          go_roundw
          case rel =>
            have h1 := hg5.size
            refine ⟨k + 1, n + 1, D.put (.string x.name) (Dk.cutD x), hlt, by omega, by go_num, ?_, (hBX.alloc hBX.size _).grown hg5 (by simp; omega) (fun g hg => by cases hg; exact Nat.le_refl _), by simp at h1; omega⟩
            rw [hmore.out]
            exact hLX.more hq hown5
          case measure => simp [intOf]; omega
    · obtain rfl : k = cs.length := by omega
      rw [List.take_length] at hL
      have hSr := hS.later hB (Nat.le_refl _)
      have c0 := hSr.eight.1
      have f2 := hSr.disk.frozen 2
      have c2 := hSr.eight.2.2.1
      have hdw := hS.disk.lt
      have hbw := hS.map.lt
      have hbd := hS.lone b (.inl rfl)
      have hxd : ∀ x ∈ L, x.blk ≠ d ∧ ∀ k, x.v.ownBlock = some k → k ≠ d := fun x hx => ⟨hS.lone _ (.inr ⟨x, hx, .inl rfl⟩), fun k e => hS.lone k (.inr ⟨x, hx, .inr e⟩)⟩
      obtain ⟨w1, hw1⟩ : ∃ w1, wr.setCell ⟨d, 2, none⟩ (.int .i64 0) = w1 := ⟨_, rfl⟩
      have o1 : ∀ g, g ≠ d → w1.heap[g]? = wr.heap[g]? := fun g hg => by rw [← hw1]; exact Below.heap_setCell wr ⟨d, 2, none⟩ _ g hg
      have hs1 : w1.heap.size = wr.heap.size := by rw [← hw1]; simp [World.setCell]
      have hD1 : Blk w1 d 44 (Dk.cellsU b m 0) := by
        rw [← hw1]
        exact hSr.disk.set_ 2 (.int .i64 0)
      have hO1 : Dk.Only (Dk.foot d b L) W w1 := by rw [← hw1]; exact (Dk.Only.of hB).setCell (.inl (.inl rfl)) _
      have hB1 : Dk.Body w1 b L := hSr.body.keep fun k hk => o1 k (hS.lone k hk)
      have hL1 : Dk.Left w1 W.heap.size n cs D := hL.keep (o1 _ (by omega))
      have d0 : w1.cell? ⟨d, 0, none⟩ = some (.map (some b)) := hD1.cell 0
      clear hSr hL hB
      go_wp2_with (at_range; refine wpList_range_own _ rfl _ 42 rfl 9 87 Dk.strKeyed Tryz.underlying42 Dk.R b L.length (Dk.dat L) rfl hB1.map ?_; intro w2 hrg2 hg2 hs2)
      have o2 : ∀ g, g < w1.heap.size → w2.heap[g]? = w1.heap[g]? := fun g hg => hg2.block g hg (fun e => by cases e)
      have hst : Dk.CrSt W w2 d b W.heap.size w1.heap.size n m L cs D (Maps.has (Dk.dat L)) (Maps.size (Dk.dat L)) := by
        have hall : ∀ x ∈ L, Maps.has (Dk.dat L) (.string x.nm) = true := fun x hx => by
          rw [Dk.dat_has]
          cases hg : Dk.get Dk.X.nm x.nm L with
          | some _ => rfl
          | none => exact absurd rfl (Dk.get_none hg x hx)
        have hmap : L.map (Dk.amid cs (Maps.has (Dk.dat L))) = L := by
          have : ∀ x ∈ L, Dk.amid cs (Maps.has (Dk.dat L)) x = x := fun x hx => by unfold Dk.amid; rw [if_pos (hall x hx)]
          rw [List.map_congr_left this, List.map_id']
        refine ⟨hrg2, hL1.keep (o2 _ (by omega)), ?_, ?_, hO1.grown hg2 (fun k hk => by cases hk), Nat.le_refl _, by omega, by omega, by omega, by omega⟩
        · rw [Dk.sumOf_all cs hall]
          exact (o2 d (by omega)).trans hD1
        · rw [hmap]
          refine hB1.keep fun k hk => o2 k ?_
          rw [hs1]
          exact Nat.lt_of_lt_of_le (hS.lt (.inr (hk.imp id id))) (by omega)
      obtain ⟨r, hr⟩ : ∃ r, w1.heap.size = r := ⟨_, rfl⟩
      obtain ⟨bl, hbl⟩ : ∃ bl, W.heap.size = bl := ⟨_, rfl⟩
      rw [show Dk.CrSt W w2 d b W.heap.size w1.heap.size n m L cs D (Maps.has (Dk.dat L)) (Maps.size (Dk.dat L)) = Dk.CrSt W w2 d b bl r n m L cs D (Maps.has (Dk.dat L)) (Maps.size (Dk.dat L)) from by rw [hr, hbl]] at hst
      rw [hr, hbl]
      have HRB := Lib.hid (And.intro hr hbl)
      have HW1 := Lib.hid hw1
      have hUL := hS.up hG.up
      clear hr hbl hw1 o1 hs1 hD1 hO1 hB1 hL1 d0 hrg2 hg2 hs2 o2 c0 f2 c2 hsz hmm
      go_frame
      go_loopw [12] (fun _ wr => ∃ lf cnt, Dk.CrSt W wr d b bl r n m L cs D lf cnt) (fun _ wr => wr.rangeLeft b r)
      case atStart => exact ⟨_, _, hst⟩
      case round =>
        clear hst
        obtain ⟨lf, cnt, hC⟩ := hrel
        go_wp2_with (at_next; refine wpList_next_ranges _ rfl _ rfl 9 Dk.strKeyed Dk.R encStr Value.pointer (fun key kl hk => by obtain ⟨x, hx, _⟩ := Maps.keyOf_str Tryz.underlying9 hk; exact ⟨x, hx⟩) (fun v y hv => Dk.R_inv hv) b r L.length _ _ _ rfl hC.rg ?_ ?_)
        · intro hc0 hl0
          have hD := hC.disk
          rw [Dk.sumOf_none cs hl0, hS.fs] at hD
          have hbody := hC.body
          have hcr : L.map (Dk.amid cs lf) = L.map (Dk.cr cs) := List.map_congr_left fun x _ => by unfold Dk.amid; rw [hl0]; rfl
          rw [hcr] at hbody
          have hO := hC.only
          have e5 := hD.frozen 5
          have e6 := hD.frozen 6
          have e7 := hD.frozen 7
          have e3 := hD.frozen 3
          have g3 : wr.cell? ⟨d, 3, none⟩ = some (.int .i64 m.age) := hD.cell 3
          have g5 : wr.cell? ⟨d, 5, none⟩ = some (.bool m.off) := hD.cell 5
          have g6 : wr.cell? ⟨d, 6, none⟩ = some (.int .i64 m.left) := hD.cell 6
          have g7 : wr.cell? ⟨d, 7, none⟩ = some (.bool m.done) := hD.cell 7
          obtain ⟨ag, hag⟩ : ∃ ag, IntKind.i64.wrap (m.age + 1) = ag := ⟨_, rfl⟩
          have hfr : ∀ k, (k = b ∨ ∃ x ∈ L.map (Dk.cr cs), x.blk = k ∨ x.v.ownBlock = some k) → k ≠ d := by
            rintro k (rfl | ⟨y, hy, hk⟩)
            · exact hbd
            · obtain ⟨z, hz, rfl⟩ := List.mem_map.1 hy
              rcases hk with e | e
              · exact e ▸ (hxd z hz).1
              · exact (hxd z hz).2 k (by rw [← Dk.cr_own cs z]; exact e)
          have hfin : ∀ w9 : World, Blk w9 d 44 (Dk.cells b (Dk.crash m cs)) → (∀ g, g ≠ d → w9.heap[g]? = wr.heap[g]?) → Dk.Only (Dk.foot d b L) W w9 → Dk.Moved W w9 d (Dk.foot d b L) (Dk.crash m cs) := by
            intro w9 h1 h2 h3
            have hb9 := hbody.keep fun k hk => h2 k (hfr k hk)
            refine ⟨_, ⟨b, L.map (Dk.cr cs), ⟨h1, ?_, ?_, hb9.file, hb9.apart⟩, rfl⟩, h3, ?_⟩
            · exact hb9.map
            · rw [List.map_map]
              show L.map (fun x => Dk.left cs x.f) = m.files.map (Dk.left cs)
              rw [← hS.fs, List.map_map]; rfl
            · rintro k (rfl | rfl | ⟨y, hy, hk⟩)
              · exact .inl (.inl rfl)
              · exact .inl (.inr (.inl rfl))
              · obtain ⟨z, hz, rfl⟩ := List.mem_map.1 hy
                refine .inl (.inr (.inr ⟨z, hz, hk.imp id fun e => ?_⟩))
                rw [← Dk.cr_own cs z]; exact e
          clear hbody hcr hC hk hlt
          go_wp2_with fail
          go_end0
          refine ⟨rfl, hfin _ ?_ (fun g hg => ?_) ?_⟩
          · have h9 := (((hD.set_ 5 (.bool false)).set_ 6 (.int .i64 0)).set_ 7 (.bool false)).set_ 3 (.int .i64 ag)
            subst hag
            exact h9
          · exact (Below.heap_setCell _ ⟨d, _, none⟩ _ g hg).trans ((Below.heap_setCell _ ⟨d, _, none⟩ _ g hg).trans ((Below.heap_setCell _ ⟨d, _, none⟩ _ g hg).trans (Below.heap_setCell _ ⟨d, _, none⟩ _ g hg)))
          · exact (((hO.setCell (.inl (.inl rfl)) _).setCell (.inl (.inl rfl)) _).setCell (.inl (.inl rfl)) _).setCell (.inl (.inl rfl)) _
        · intro nm p kl yd yp w3 cnt2 hkey hlk hv hat hrg3 hlt3 hg3 hs3 hen
          obtain ⟨x', ex, rfl, hx'⟩ := Maps.keyOf_str Tryz.underlying9 hkey
          obtain rfl : nm = x' := encStr_inj ex
          obtain ⟨x, hx, rfl, rfl⟩ := Dk.entry (y := (yd, yp)) hv hat
          obtain ⟨f1, f2, f3⟩ := hG.file x.f (by rw [← hS.fs]; exact List.mem_map_of_mem hx)
          have hxx : Dk.amid cs lf x = x := by unfold Dk.amid; rw [if_pos hlk]
          obtain ⟨nb, hnb, hnbs⟩ := Tx.of x.nm
          have hnl : nb.size ≤ 32 := by
            have h := f1
            unfold Dk.named at h
            rw [Bool.and_eq_true, decide_eq_true_iff] at h
            rw [hnbs]
            exact h.2.2
          have o3 : ∀ g, g ≠ r → g < wr.heap.size → w3.heap[g]? = wr.heap[g]? := fun g hg hl => hg3.block g hl (fun e => hg (Option.some.inj e))
          have hL3 : Dk.Left w3 bl n cs D := hC.left.keep (o3 bl hC.ne hC.bl2)
          obtain ⟨ca, hrunc⟩ := hL3.run_at nb (by unfold maxLen; omega)
          rw [hnb] at hrunc
          obtain ⟨ct, hct⟩ : ∃ ct, Dk.cutOf cs x.nm = ct := ⟨_, rfl⟩
          rw [hct] at hrunc
          rw [show encStr x.nm = .string nb from Tx.v_eq hnb] at hen ⊢
          have hlow : ∀ k, Dk.foot d b L k → k < W.heap.size := fun k hk => hS.lt hk
          have hrW := hC.r1
          have hsW := hC.only.size
          have hblk := (hC.body.file x (by rw [← hxx]; exact List.mem_map_of_mem hx))
          have hX3 : Blk w3 x.blk 89 #[x.v, .int .i64 x.f.sure] := (o3 _ (by have := hlow x.blk (.inr (.inr ⟨x, hx, .inl rfl⟩)); omega) (by have := hlow x.blk (.inr (.inr ⟨x, hx, .inl rfl⟩)); omega)).trans hblk.1
          have hR3 : Dk.Row w3 x.v x.f.data := hblk.2.keep fun k e => o3 k (by have := hlow k (.inr (.inr ⟨x, hx, .inr e⟩)); omega) (by have := hlow k (.inr (.inr ⟨x, hx, .inr e⟩)); omega)
          have hD3 : Blk w3 d 44 (Dk.cellsU b m (Dk.sumOf cs lf L)) := (o3 d (by omega) (by omega)).trans hC.disk
          have hstep : ∀ w4 : World, _ := fun w4 => hC.step (w3 := w3) (w4 := w4) hUL hx hlk hlow hS.lone hg3 hs3 hrg3
          obtain ⟨xa, xc, hxv⟩ := hR3.slice
          obtain ⟨k0, hk0⟩ : ∃ k0, x.f.data.length = k0 := ⟨_, rfl⟩
          obtain ⟨su, hsu⟩ : ∃ su, x.f.sure = su := ⟨_, rfl⟩
          rw [hk0] at hxv f2 f3
          rw [hsu] at f3 hX3
          rw [hxv] at hX3 hR3
          obtain ⟨q, hq⟩ : ∃ q, (max ct.keep 0).toNat = q := ⟨_, rfl⟩
          obtain ⟨r0, hr0⟩ : ∃ r0, k0 - su = r0 := ⟨_, rfl⟩
          obtain ⟨kk, hkk⟩ : ∃ kk, min q r0 = kk := ⟨_, rfl⟩
          have hkept : Dk.kept ct x.f = kk := by unfold Dk.kept; rw [hq, hk0, hsu, hr0, hkk]
          have hmx : ∀ ts t (w : World), (Builtin.max_ ts t #[.int .i64 ct.keep, .int .i64 0]).run Tryz.prog w = .ok (.int .i64 (q : Int)) w := by
            intro ts t w
            rw [run_max_int2]
            congr 2
            split <;> omega
          have hmn : ∀ ts t (w : World), (Builtin.min_ ts t #[.int .i64 (q : Int), .int .i64 (r0 : Int)]).run Tryz.prog w = .ok (.int .i64 (kk : Int)) w := by
            intro ts t w
            rw [run_min_int2]
            congr 2
            split <;> omega
          have hw0 : IntKind.i64.wrap ((k0 : Int) - (su : Int)) = (r0 : Int) := (IntWalk.i64_in _ (by omega)).trans (by omega)
          obtain ⟨nn, hnn⟩ : ∃ nn, su + kk = nn := ⟨_, rfl⟩
          have hw1 : IntKind.i64.wrap ((su : Int) + (kk : Int)) = (nn : Int) := (IntWalk.i64_in _ (by omega)).trans (by omega)
          have hnk : nn ≤ k0 := by omega
          obtain ⟨X, hXe, hXb, hXo, hXs⟩ : ∃ X, w3.alloc (.cells #[.string ca, .int .i64 ct.keep, .int .u8 ct.spoil.toNat] 113) = X ∧ Blk X w3.heap.size 113 #[.string ca, .int .i64 ct.keep, .int .u8 ct.spoil.toNat] ∧ (∀ g, g < w3.heap.size → X.heap[g]? = w3.heap[g]?) ∧ Dk.Only (fun k => k = d ∨ k = x.blk ∨ x.v.ownBlock = some k) w3 X :=
            ⟨_, rfl, Blk.new w3 _ _, fun g hg => Below.heap_alloc w3 _ g hg, (Dk.Only.refl _ _).alloc _⟩
          obtain ⟨t, ht⟩ : ∃ t, w3.heap.size = t := ⟨_, rfl⟩
          rw [ht] at hXb
          have hxl := hX3.lt
          have hdl3 := hD3.lt
          have hXX : Blk X x.blk 89 #[.slice xa k0 xc, .int .i64 su] := (hXo _ hxl).trans hX3
          have hXD : Blk X d 44 (Dk.cellsU b m (Dk.sumOf cs lf L)) := (hXo _ hdl3).trans hD3
          have hXR : Dk.Row X (.slice xa k0 xc) x.f.data := hR3.keep fun k e => hXo k (hR3.lt k e)
          have t1 : X.cell? ⟨t, 1, none⟩ = some (.int .i64 ct.keep) := hXb.cell 1
          have b0 : X.cell? ⟨x.blk, 0, none⟩ = some (.slice xa k0 xc) := hXX.cell 0
          have b1 : X.cell? ⟨x.blk, 1, none⟩ = some (.int .i64 su) := hXX.cell 1
          have hne1 : t ≠ x.blk := by omega
          have hne2 : t ≠ d := by omega
          have hrow : ∀ k, (Value.slice xa k0 xc).ownBlock = some k → k ≠ x.blk ∧ k ≠ d ∧ k ≠ t := fun k e => by
            have h1 := hR3.lt k e
            obtain ⟨cur, fz, h2⟩ := hR3.type e
            refine ⟨fun e2 => ?_, fun e2 => ?_, by omega⟩
            · have h4 := hX3
              unfold Blk at h4
              rw [e2, h4] at h2
              injection h2 with h2
              injection h2 with _ h2 _
              cases h2
            · have h4 := hD3
              unfold Blk at h4
              rw [e2, h4] at h2
              injection h2 with h2
              injection h2 with _ h2 _
              cases h2
          have HX := Lib.hid (And.intro hk0 (And.intro hsu (And.intro hxv (And.intro hkept (And.intro hct (And.intro hnn hr0))))))
          have hrl := hC.rg.left_eq
          have hlt4 := hlt3
          clear hC hX3 hR3 hD3 hL3 hblk hxx hk hlt hk0 hsu hxv hkept hct hq hkk hnn hr0 hs3 hg3 hrg3 hat hv hlk hkey hnb hnbs hXo o3
          go_upto_region 13 with fail
          go_quiet (fail)
          go_upto_region 14 with fail
          obtain ⟨V0, hV0, v0o, v0O⟩ : ∃ V0, X.drewN nq = V0 ∧ (∀ g : Nat, V0.heap[g]? = X.heap[g]?) ∧ Dk.Only (fun k => k = d ∨ k = x.blk ∨ x.v.ownBlock = some k) w3 V0 := ⟨_, rfl, fun _ => rfl, hXs.trans (.of (below_dn (Below.refl _ _) nq))⟩
          have hxnc : nn ≤ xc := by
            rcases hXR.form with ⟨h1, h2⟩ | ⟨g, cap, h1, h2, _⟩
            · injection h1 with _ e2 e3
              have := HX.out.1
              rw [h2] at this
              have h5 : k0 = 0 := this.symm
              omega
            · injection h1 with _ e2 e3
              omega
          have hxnc2 : (nn : Int) ≤ (xc : Int) := by omega
          have hxdd : x.blk ≠ d := (hxd x hx).1
          obtain ⟨V1, hV1⟩ : ∃ V1, V0.setCell ⟨x.blk, 0, none⟩ (.slice xa nn xc) = V1 := ⟨_, rfl⟩
          have h0x : Blk V0 x.blk 89 #[.slice xa k0 xc, .int .i64 su] := (v0o _).trans hXX
          have h1o : ∀ g, g ≠ x.blk → V1.heap[g]? = X.heap[g]? := fun g hg => by rw [← hV1]; exact (Below.heap_setCell V0 ⟨x.blk, 0, none⟩ _ g hg).trans (v0o g)
          have h1x : Blk V1 x.blk 89 #[.slice xa nn xc, .int .i64 su] := by rw [← hV1]; exact h0x.set_ 0 _
          have h1d : Blk V1 d 44 (Dk.cellsU b m (Dk.sumOf cs lf L)) := (h1o d hxdd.symm).trans hXD
          have h1r : Dk.Row V1 (.slice xa nn xc) (x.f.data.take nn) := (hXR.cut nn (by have := HX.out.1; omega)).keep fun k e => h1o k (hrow k (by rw [Dk.own_len xa k0 nn]; exact e)).1
          have h1t : V1.cell? ⟨t, 2, none⟩ = some (.int .u8 ct.spoil.toNat) := (World.cell?_of_block (h1o t hne1)).trans (hXb.cell 2)
          have h1O : Dk.Only (fun k => k = d ∨ k = x.blk ∨ x.v.ownBlock = some k) w3 V1 := by rw [← hV1]; exact v0O.setCell (.inl (.inr (.inl rfl))) _
          obtain ⟨us, hus⟩ : ∃ us, Dk.sumOf cs lf L = us := ⟨_, rfl⟩
          have hsum := Dk.sumOf_le cs lf L fun y hy => (hG.file y.f (by rw [← hS.fs]; exact List.mem_map_of_mem hy)).2.2
          rw [hus, hS.fs] at hsum
          have hGu := hG.used
          have hGc := hG.cap
          have hwu : IntKind.i64.wrap ((us : Int) + (nn : Int)) = ((us + nn : Nat) : Int) := (IntWalk.i64_in _ (by omega)).trans (by omega)
          have hdn : Dk.left cs x.f = Dk.leave ct x.f := by unfold Dk.left; rw [show x.f.name = x.nm from rfl, HX.out.2.2.2.2.1]
          have hsure : (Dk.left cs x.f).sure = nn := by rw [hdn]; show x.f.sure + Dk.kept ct x.f = nn; rw [HX.out.2.1, HX.out.2.2.2.1, HX.out.2.2.2.2.2.1]
          have hleft : (Dk.left cs x.f).data.length = nn := by
            rw [hdn, Dk.leave_len _ _ (by rw [HX.out.1, HX.out.2.1]; omega), HX.out.2.1, HX.out.2.2.2.1, HX.out.2.2.2.2.2.1]
          have hcrv : (Dk.cr cs x).v = .slice xa nn xc := by
            unfold Dk.cr
            show Dk.short x.v _ = _
            rw [HX.out.2.2.1, HX.out.2.2.2.2.1, HX.out.2.1, HX.out.2.2.2.1, HX.out.2.2.2.2.2.1]
            rfl
          have S0 : V0.frozen? ⟨x.blk, 0, none⟩ = false ∧ V0.cell? ⟨x.blk, 1, none⟩ = some (.int .i64 su) := ⟨h0x.frozen 0, h0x.cell 1⟩
          have S9 : V1.frozen? ⟨x.blk, 0, none⟩ = false ∧ V1.cell? ⟨x.blk, 1, none⟩ = some (.int .i64 su) := ⟨h1x.frozen 0, h1x.cell 1⟩
          have z0 : V0.cell? ⟨x.blk, 0, none⟩ = some (.slice xa k0 xc) := h0x.cell 0
          rw [hV0]
          clear hXX hXD hXR t1 b0 b1 hV0 hsum hGu hGc hmx hmn hw0
          rw [show Op.load 84 (Operand.tmp 67) = Dk.o68 from rfl]
          go_region_held_law (fun W' => W'.frozen? ⟨x.blk, 0, none⟩ = false ∧ W'.cell? ⟨x.blk, 1, none⟩ = some (.int .i64 su))
            (first
              | with_reducible assumption
              | exact S0
              | exact S9)
            (fail)
          all_goals
            obtain ⟨U1, hU1, u1o, u1O⟩ : ∃ U1, V1.drew = U1 ∧ (∀ g : Nat, U1.heap[g]? = V1.heap[g]?) ∧ Dk.Only (fun k => k = d ∨ k = x.blk ∨ x.v.ownBlock = some k) w3 U1 := ⟨_, rfl, fun _ => rfl, h1O.drew⟩
            rw [hU1]
            have g1x : Blk U1 x.blk 89 #[.slice xa nn xc, .int .i64 su] := (u1o _).trans h1x
            have g1d : Blk U1 d 44 (Dk.cellsU b m (Dk.sumOf cs lf L)) := (u1o _).trans h1d
            have g1r : Dk.Row U1 (.slice xa nn xc) (x.f.data.take nn) := h1r.keep fun k _ => u1o k
            have g1t : U1.cell? ⟨t, 2, none⟩ = some (.int .u8 ct.spoil.toNat) := (World.cell?_of_block (u1o t)).trans h1t
            clear S0 S9 z0 h1x h1d h1r h1t h1O h1o h0x hV1 v0o v0O hU1
            by_cases hk0 : 0 < kk
            · have hp : decide (0 < kk) = true := decide_eq_true hk0
              have hnn' := HX.out.2.2.2.2.2.1
              have hnn0 : 0 < nn := by omega
              obtain ⟨g, rfl⟩ : ∃ g, xa = some ⟨g, 0, none⟩ := by
                rcases g1r.form with ⟨h1, h2⟩ | ⟨g, cap, h1, h2, _⟩
                · exfalso
                  have := congrArg List.length h2
                  rw [List.length_take, HX.out.1, List.length_nil] at this
                  omega
                · injection h1 with e1 _ _
                  exact ⟨g, e1⟩
              have hw9 : IntKind.i64.wrap ((nn : Int) - 1) = ((nn - 1 : Nat) : Int) := (IntWalk.i64_in _ (by omega)).trans (by omega)
              obtain ⟨n9, hn9⟩ : ∃ n9, nn - 1 = n9 := ⟨_, rfl⟩
              have hlt9 : n9 < nn := by omega
              obtain ⟨bt, hbt⟩ : ∃ bt, (x.f.data.take nn).getD n9 0 = bt := ⟨_, rfl⟩
              have hlen9 : (x.f.data.take nn).length = nn := by rw [List.length_take, HX.out.1]; omega
              have hbt2 : (x.f.data.take nn)[n9]? = some bt := by
                rw [← hbt, List.getD_eq_getElem?_getD, List.getElem?_eq_getElem (by omega)]
                rfl
              obtain ⟨yy, hyy⟩ : ∃ yy, bt ^^^ ct.spoil = yy := ⟨_, rfl⟩
              have hxor : bits .xor .u8 (bt.toNat : Int) (ct.spoil.toNat : Int) = (yy.toNat : Int) := by rw [Dk.xor_u8, hyy]
              obtain ⟨q1, q2⟩ := g1r.turn hnn0 yy
              have q3 := (g1r.cells).2 n9 bt hbt2
              have q4 : (Dk.left cs x.f).data = (x.f.data.take nn).set ((x.f.data.take nn).length - 1) yy := by
                rw [hdn]
                unfold Dk.leave
                rw [HX.out.2.2.2.1, if_pos hk0, HX.out.2.1, hnn']
                unfold Dk.turn
                rw [hlen9, hn9, hbt, hyy]
              rw [hn9] at hw9 q1 q2
              rw [← q4] at q2
              obtain ⟨hgx, hgd, hgt⟩ := hrow g rfl
              have m0 : U1.cell? ⟨x.blk, 0, none⟩ = some (.slice (some ⟨g, 0, none⟩) nn xc) := g1x.cell 0
              have S0 : U1.frozen? ⟨g, n9, none⟩ = false ∧ U1.cell? ⟨x.blk, 0, none⟩ = some (.slice (some ⟨g, 0, none⟩) nn xc) ∧ U1.cell? ⟨t, 2, none⟩ = some (.int .u8 ct.spoil.toNat) := ⟨q1, m0, g1t⟩
              obtain ⟨Y1, hY1, y1o, y1r, y1f, y1O⟩ : ∃ Y1, U1.setCell ⟨g, n9, none⟩ (.int .u8 yy.toNat) = Y1 ∧ (∀ k, k ≠ g → Y1.heap[k]? = U1.heap[k]?) ∧ Dk.Row Y1 (.slice (some ⟨g, 0, none⟩) nn xc) (Dk.left cs x.f).data ∧ Y1.frozen? ⟨g, n9, none⟩ = false ∧ Dk.Only (fun k => k = d ∨ k = x.blk ∨ x.v.ownBlock = some k) w3 Y1 :=
                ⟨_, rfl, fun k hk => Below.heap_setCell U1 ⟨g, n9, none⟩ _ k hk, q2, by rw [World.frozen?_setCell]; exact q1, u1O.setCell (.inl (.inr (.inr (by rw [HX.out.2.2.1]; rfl)))) _⟩
              have S9 : Y1.frozen? ⟨g, n9, none⟩ = false ∧ Y1.cell? ⟨x.blk, 0, none⟩ = some (.slice (some ⟨g, 0, none⟩) nn xc) ∧ Y1.cell? ⟨t, 2, none⟩ = some (.int .u8 ct.spoil.toNat) :=
                ⟨y1f, (World.cell?_of_block (y1o x.blk hgx.symm)).trans m0, (World.cell?_of_block (y1o t hgt.symm)).trans g1t⟩
              obtain ⟨V2, hV2, g2x, g2d, g2r, g2O⟩ : ∃ V2, Y1.drew = V2 ∧ Blk V2 x.blk 89 #[.slice (some ⟨g, 0, none⟩) nn xc, .int .i64 su] ∧ Blk V2 d 44 (Dk.cellsU b m (Dk.sumOf cs lf L)) ∧ Dk.Row V2 (.slice (some ⟨g, 0, none⟩) nn xc) (Dk.left cs x.f).data ∧ Dk.Only (fun k => k = d ∨ k = x.blk ∨ x.v.ownBlock = some k) w3 V2 :=
                ⟨_, rfl, (y1o x.blk hgx.symm).trans g1x, (y1o d hgd.symm).trans g1d, y1r, y1O.drew⟩
              have HV2 := Lib.hid hV2
              clear hV2
              clear hbt hbt2 hyy q2 q4 hnn' hlen9 g1x g1d g1r u1O u1o y1o y1r y1f y1O
              go_upto_region 16 with fail
              rw [show Op.load 5 (Operand.tmp 90) = Dk.o91 from rfl]
              go_region_held_law (fun W' => W'.frozen? ⟨g, n9, none⟩ = false ∧ W'.cell? ⟨x.blk, 0, none⟩ = some (.slice (some ⟨g, 0, none⟩) nn xc) ∧ W'.cell? ⟨t, 2, none⟩ = some (.int .u8 ct.spoil.toNat))
                (first
                  | with_reducible assumption
                  | exact S0
                  | exact S9)
                (fail)
              all_goals
                rw [HV2.out]
                clear HV2 hY1 S0 S9 m0 g1t q1 q3
                rw [hus] at g2d
                clear hk0 hp
                -- region 17 and 18
                obtain ⟨V3, hV3⟩ : ∃ V3, V2.setCell ⟨x.blk, 1, none⟩ (.int .i64 (nn : Int)) = V3 := ⟨_, rfl⟩
                have h3x : Blk V3 x.blk 89 #[.slice (some ⟨g, 0, none⟩) nn xc, .int .i64 (nn : Int)] := by rw [← hV3]; exact g2x.set_ 1 _
                have h3o : ∀ g, g ≠ x.blk → V3.heap[g]? = V2.heap[g]? := fun g hg => by rw [← hV3]; exact Below.heap_setCell V2 ⟨x.blk, 1, none⟩ _ g hg
                have h3d : Blk V3 d 44 (Dk.cellsU b m us) := (h3o d hxdd.symm).trans g2d
                have h3r : Dk.Row V3 (.slice (some ⟨g, 0, none⟩) nn xc) (Dk.left cs x.f).data := g2r.keep fun k e => h3o k (hrow k (by rw [Dk.own_len _ k0 nn]; exact e)).1
                have h3O : Dk.Only (fun k => k = d ∨ k = x.blk ∨ x.v.ownBlock = some k) w3 V3 := by rw [← hV3]; exact g2O.setCell (.inl (.inr (.inl rfl))) _
                have m0 : V2.cell? ⟨x.blk, 0, none⟩ = some (.slice (some ⟨g, 0, none⟩) nn xc) := g2x.cell 0
                have m1 : V2.frozen? ⟨x.blk, 1, none⟩ = false := g2x.frozen 1
                have m2 : V2.cell? ⟨x.blk, 1, none⟩ = some (.int .i64 su) := g2x.cell 1
                have n0 : V3.cell? ⟨x.blk, 0, none⟩ = some (.slice (some ⟨g, 0, none⟩) nn xc) := h3x.cell 0
                have n2 : V3.cell? ⟨d, 2, none⟩ = some (.int .i64 (us : Nat)) := h3d.cell 2
                have nf : V3.frozen? ⟨d, 2, none⟩ = false := h3d.frozen 2
                have R0 : V3.frozen? ⟨d, 2, none⟩ = false ∧ V3.cell? ⟨x.blk, 0, none⟩ = some (.slice (some ⟨g, 0, none⟩) nn xc) := ⟨nf, n0⟩
                have R9 : ∀ v : Value, (V3.setCell ⟨d, 2, none⟩ v).frozen? ⟨d, 2, none⟩ = false ∧ (V3.setCell ⟨d, 2, none⟩ v).cell? ⟨x.blk, 0, none⟩ = some (.slice (some ⟨g, 0, none⟩) nn xc) := fun v =>
                  ⟨by rw [World.frozen?_setCell]; exact nf, (World.cell?_of_block (Below.heap_setCell V3 ⟨d, 2, none⟩ v x.blk hxdd)).trans n0⟩
                have hnew : Dk.CrSt W (V3.setCell ⟨d, 2, none⟩ (.int .i64 ((us + nn : Nat) : Int))) d b bl r n m L cs D (fun z => lf z && !z.sameKey (.string x.nm)) cnt2 := by
                  refine hstep _ ?_ ?_ ?_ (Dk.cr_own cs x) (h3O.setCell (.inl (.inl rfl)) _)
                  · have h9 := h3d.set_ 2 (.int .i64 ((us + nn : Nat) : Int))
                    rw [hleft, hus]
                    exact h9
                  · rw [hcrv, hsure]
                    exact h3x.far (p := ⟨d, 2, none⟩) hxdd _
                  · rw [hcrv]
                    exact h3r.keep fun k e => Below.heap_setCell V3 ⟨d, 2, none⟩ _ k (hrow k (by rw [Dk.own_len _ k0 nn]; exact e)).2.1
                have hnew2 := Dk.CrSt.drew hnew
                clear hstep
                go_upto_region 18 with fail
                try rw [hV3]
                rw [show Op.load 3 (Operand.tmp 106) = Dk.o107 from rfl]
                go_region_held_law (fun W' => W'.frozen? ⟨d, 2, none⟩ = false ∧ W'.cell? ⟨x.blk, 0, none⟩ = some (.slice (some ⟨g, 0, none⟩) nn xc))
                  (first
                    | with_reducible assumption
                    | exact R0
                    | exact R9 _)
                  (fail)
                all_goals (try go_wp2_with fail)
                all_goals
                  rw [Int.natCast_add] at hnew2
                  refine ⟨⟨_, _, hnew2⟩, ?_⟩
                  rw [hnew2.rg.left_eq, hrl]
                  exact hlt4
            · have hp : decide (0 < kk) = false := decide_eq_false hk0
              obtain ⟨V2, hV2, g2x, g2d, g2r, g2O⟩ : ∃ V2, V2 = U1 ∧ Blk V2 x.blk 89 #[.slice xa nn xc, .int .i64 su] ∧ Blk V2 d 44 (Dk.cellsU b m (Dk.sumOf cs lf L)) ∧ Dk.Row V2 (.slice xa nn xc) (Dk.left cs x.f).data ∧ Dk.Only (fun k => k = d ∨ k = x.blk ∨ x.v.ownBlock = some k) w3 V2 := by
                refine ⟨U1, rfl, g1x, g1d, ?_, u1O⟩
                rw [hdn]
                unfold Dk.leave
                rw [HX.out.2.2.2.1, if_neg hk0, HX.out.2.1, HX.out.2.2.2.2.2.1]
                exact g1r
              subst hV2
              rw [hus] at g2d
              clear hk0 g1t g1x g1d g1r
              -- region 17 and 18
              obtain ⟨V3, hV3⟩ : ∃ V3, V2.setCell ⟨x.blk, 1, none⟩ (.int .i64 (nn : Int)) = V3 := ⟨_, rfl⟩
              have h3x : Blk V3 x.blk 89 #[.slice xa nn xc, .int .i64 (nn : Int)] := by rw [← hV3]; exact g2x.set_ 1 _
              have h3o : ∀ g, g ≠ x.blk → V3.heap[g]? = V2.heap[g]? := fun g hg => by rw [← hV3]; exact Below.heap_setCell V2 ⟨x.blk, 1, none⟩ _ g hg
              have h3d : Blk V3 d 44 (Dk.cellsU b m us) := (h3o d hxdd.symm).trans g2d
              have h3r : Dk.Row V3 (.slice xa nn xc) (Dk.left cs x.f).data := g2r.keep fun k e => h3o k (hrow k (by rw [Dk.own_len xa k0 nn]; exact e)).1
              have h3O : Dk.Only (fun k => k = d ∨ k = x.blk ∨ x.v.ownBlock = some k) w3 V3 := by rw [← hV3]; exact g2O.setCell (.inl (.inr (.inl rfl))) _
              have m0 : V2.cell? ⟨x.blk, 0, none⟩ = some (.slice xa nn xc) := g2x.cell 0
              have m1 : V2.frozen? ⟨x.blk, 1, none⟩ = false := g2x.frozen 1
              have m2 : V2.cell? ⟨x.blk, 1, none⟩ = some (.int .i64 su) := g2x.cell 1
              have n0 : V3.cell? ⟨x.blk, 0, none⟩ = some (.slice xa nn xc) := h3x.cell 0
              have n2 : V3.cell? ⟨d, 2, none⟩ = some (.int .i64 (us : Nat)) := h3d.cell 2
              have nf : V3.frozen? ⟨d, 2, none⟩ = false := h3d.frozen 2
              have R0 : V3.frozen? ⟨d, 2, none⟩ = false ∧ V3.cell? ⟨x.blk, 0, none⟩ = some (.slice xa nn xc) := ⟨nf, n0⟩
              have R9 : ∀ v : Value, (V3.setCell ⟨d, 2, none⟩ v).frozen? ⟨d, 2, none⟩ = false ∧ (V3.setCell ⟨d, 2, none⟩ v).cell? ⟨x.blk, 0, none⟩ = some (.slice xa nn xc) := fun v =>
                ⟨by rw [World.frozen?_setCell]; exact nf, (World.cell?_of_block (Below.heap_setCell V3 ⟨d, 2, none⟩ v x.blk hxdd)).trans n0⟩
              have hnew : Dk.CrSt W (V3.setCell ⟨d, 2, none⟩ (.int .i64 ((us + nn : Nat) : Int))) d b bl r n m L cs D (fun z => lf z && !z.sameKey (.string x.nm)) cnt2 := by
                refine hstep _ ?_ ?_ ?_ (Dk.cr_own cs x) (h3O.setCell (.inl (.inl rfl)) _)
                · have h9 := h3d.set_ 2 (.int .i64 ((us + nn : Nat) : Int))
                  rw [hleft, hus]
                  exact h9
                · rw [hcrv, hsure]
                  exact h3x.far (p := ⟨d, 2, none⟩) hxdd _
                · rw [hcrv]
                  exact h3r.keep fun k e => Below.heap_setCell V3 ⟨d, 2, none⟩ _ k (hrow k (by rw [Dk.own_len xa k0 nn]; exact e)).2.1
              have hnew2 := Dk.CrSt.drew hnew
              clear hstep
              go_upto_region 18 with fail
              try rw [hV3]
              rw [show Op.load 3 (Operand.tmp 106) = Dk.o107 from rfl]
              go_region_held_law (fun W' => W'.frozen? ⟨d, 2, none⟩ = false ∧ W'.cell? ⟨x.blk, 0, none⟩ = some (.slice xa nn xc))
                (first
                  | with_reducible assumption
                  | exact R0
                  | exact R9 _)
                (fail)
              all_goals (try go_wp2_with fail)
              all_goals
                rw [Int.natCast_add] at hnew2
                refine ⟨⟨_, _, hnew2⟩, ?_⟩
                rw [hnew2.rg.left_eq, hrl]
                exact hlt4
end Go.Proofs.YtifkhjihgnnpfaaGreatDoor
