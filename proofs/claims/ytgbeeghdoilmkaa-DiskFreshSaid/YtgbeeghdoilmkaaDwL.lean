/- The law DiskQuiet as the statement's arguments come. Conditions: each theorem's own hypotheses. -/
import Derived.Test.YtgbeeghdoilmkaaDwI
namespace Go.Proofs.Ytgbeeghdoilmkaa
open Go.RowKit Go.Maps Go.Sort
set_option linter.unusedVariables false

theorem Dw.each_of {H : Type} {P : Program} {ts : List TypeId} {ds : List (DataW H)} (h : (DataW.weightsEach P ts ds).all (· ≤ reachBytes) = true) {j : Nat} {t : TypeId} {d : DataW H} (ht : ts[j]? = some t) (hd : ds[j]? = some d) : ∀ k ∈ d.weights P t, k ≤ reachBytes := fun k hk => by
  simpa using List.all_eq_true.1 h k (DataW.weights_mem_each ht hd k hk)
theorem Dw.quiet_bare {W : World} (c : Int) (A : Option Addr) (cp : Nat) (F : List Dw.S) (wc : (Lit.int .i64 c).wf = true) (hF : Dw.Steps W A F) (hl : F.length ≤ 1400000000000) :
    Calls Try.prog 5 #[.int .i64 c, .slice A F.length cp] W fun e W' => e = .returned (.bool true) ∧ Below W.heap.size W W' :=
  Dw.quiet W c (bounds_i64 wc) A cp F hF hl
end Go.Proofs.Ytgbeeghdoilmkaa
