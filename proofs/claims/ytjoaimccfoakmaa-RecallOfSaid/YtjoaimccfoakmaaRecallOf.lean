/- The law RecallOf: of all hits the share that was found is the document's, and the lists are as they were. Conditions: none but the form's own reach. -/
import Derived.Test.YtjoaimccfoakmaaRows
import Derived.Test.YtjoaimccfoakmaaRcOpen
import Derived.WalkKit
import Derived.ProofKit
import Derived.OpenShut
import Derived.SizedLaws
import Derived.WideKeyArgs
namespace Go.Proofs.Ytjoaimccfoakmaa.recallOf
open Go.ChangeShapes Go.WideShapes Go.RowKit
set_option linter.unusedVariables false

theorem own : ownKnob Try.prog.godebug = none := by kernel_rfl
theorem laidOut : laidOutB Try.prog = true := by kernel_rfl

theorem length_reach {H : Type} {F : List Hit} {d : DataW H} {ts : List TypeId} {ds : List (DataW H)} {j : Nat} (hz : (DataW.weightsEach Try.prog ts ds).all (· ≤ reachBytes) = true) (ht : ts[j]? = some 22) (hd : ds[j]? = some d)
    (h : F = [] ∨ ∃ el sp, d = .slice el sp ∧ el.length = F.length) : (F.length + 1) * 32 ≤ 140737488355328 := by
  rcases h with rfl | ⟨el, sp, rfl, he⟩
  · simp
  · have hq := sized_slice hz ht hd Try.underlying22
    rw [show Try.prog.bytesOf 29 = 32 by kernel_rfl, he] at hq
    have hr : reachBytes ≤ 140737488351232 := by decide
    have : F.length * 32 ≤ (F.length + sp.length) * 32 := Nat.mul_le_mul_right _ (Nat.le_add_right _ _)
    omega

set_option maxRecDepth 100000 in
theorem contract (H : Type) (enc : TypeId × Value → H) (W : World) (base : Nat) (args : Array Value) (ds gs : List (DataW H)) (before : List MemPlace)
    (hval : ∀ (j : Nat) t v, Try.f3.params[j]? = some t → args[j]? = some v → Value.okWide Try.prog W .any base t v)
    (hW : DataW.Whole enc Try.prog Try.f3.params.toList Rows.recallOfSpec.vars false W args.toList ds gs before)
    (hz : (DataW.weightsEach Try.prog (Try.f3.params.toList ++ Rows.recallOfSpec.plain.varTypes Try.prog) (ds ++ gs)).all (· ≤ reachBytes) = true) :
    Calls Try.prog 3 args W fun e W' => ∃ v, e = .returned v ∧ Rows.recallOfSpec.post enc Try.prog Try.f3 false true false false W args v W' := by
  have hW' := hW
  have hlt := hW.lt
  obtain ⟨p, q, hA0, hV, rfl, hfz, hnd⟩ := hW
  have hA : DataW.TrodAll enc Try.prog W 0 (fun _ => true) true Try.f3.params.toList args.toList ds p := hA0
  rw [Try.params3] at hA hval hz
  obtain ⟨v0, vs0, d0, ds0, p0, q0, hargs, rfl, rfl, h0, r0⟩ := trodAll_cons hA
  obtain ⟨v1, vs1, d1, ds1, p1, q1, rfl, rfl, rfl, h1, r1⟩ := trodAll_cons r0
  obtain ⟨rfl, rfl, rfl⟩ := trodAll_nil r1
  obtain rfl : args = #[v0, v1] := by cases args; simp_all
  obtain ⟨rfl, rfl⟩ := trodVars_none hV
  obtain ⟨A, c, F, rfl, HF, hA1, hFw, hFd⟩ := open_hits (hval 0 22 v0 rfl rfl) h0
  obtain ⟨C, d, G, rfl, HG, hC1, hGw, hGd⟩ := open_hits (hval 1 22 v1 rfl rfl) h1
  have lf := length_reach (j := 0) hz rfl rfl hFd
  have lg := length_reach (j := 1) hz rfl rfl hGd
  clear hA0
  refine (recallOf_walk F G A C c d W HF HG hA1 hC1 lf lg hFw hGw).mono fun e W' ⟨he, hg⟩ => ?_
  subst he
  have same : ∀ x ∈ p0 ++ (p1 ++ []) ++ [], W.sameAt W' x := fun x hx => hg.same (hlt x hx)
  have sp : ∀ x ∈ p0 ++ (p1 ++ []) ++ [], (fun b => decide (b < W.heap.size)) x.block = true := fun x hx => by simpa using hlt x hx
  have k0 := WideElems.Trod_stays (sp' := fun b => decide (b < W.heap.size)) laidOut (by kernel_rfl) (of_decide_eq_true (by kernel_rfl)) h0 (fun x hx => same x (by simp [hx])) (fun x hx => sp x (by simp [hx]))
  have k1 := WideElems.Trod_stays (sp' := fun b => decide (b < W.heap.size)) laidOut (by kernel_rfl) (of_decide_eq_true (by kernel_rfl)) h1 (fun x hx => same x (by simp [hx])) (fun x hx => sp x (by simp [hx]))
  exact ⟨_, rfl, _, _, _, [], _, [], hW', (trodAll_cons_mk (shut_bool Try.underlying4 _) trodAll_mk0), trodAll_cons_mk k0 (trodAll_cons_mk k1 trodAll_mk0), rfl, hg.frame _, fun h => by cases h⟩

set_option maxRecDepth 100000 in
theorem lifted (os : Os) (started : os.Started) (H : Type) (enc : TypeId × Value → H) :
    ReturnsInHanded {} Try.checked os 3 .any (Rows.recallOfSpec.pre6 enc Try.prog Try.f3 Rows.recallOfRow.domain false) (Rows.recallOfSpec.post enc Try.prog Try.f3 false true false false) := by
  refine returnsInHanded_of_change_sized (C := Try.checked) own started (by kernel_rfl) Try.func3
    (ChangeSpec.witness6 (enc := enc) (C := Try.checked) false ⟨#[], #[.slice none 0 0, .slice none 0 0], []⟩ 8 (by kernel_rfl) (by kernel_rfl) (by kernel_rfl) (by kernel_rfl)) ?_
  intro W base args ds gs before hval hW _ hz _
  exact contract H enc W base args ds gs before hval hW hz

theorem proved : Rows.RecallOfSaid :=
  OpenClaim.holds_of_wide 3 Try.f3 rfl rfl rfl rfl rfl rfl rfl ⟨rfl, rfl, rfl, rfl, rfl⟩ rfl rfl rfl rfl rfl (by kernel_rfl) Try.func3 (by kernel_rfl)
    (of_decide_eq_true (by kernel_rfl)) (by unfold Func.isWrapper; first | (rw [if_pos (by decide +kernel)]; kernel_rfl) | (rw [if_neg (by decide +kernel)]; exact ⟨rfl, rfl⟩))
    (fun os started H enc _ => lifted os started H enc)
#print axioms proved
end Go.Proofs.Ytjoaimccfoakmaa.recallOf
