/- The law DiskSurvives as the statement's arguments come. Conditions: each theorem's own hypotheses. -/
import Derived.Test.YtgbeeghdoilmkaaDsG
import Derived.Test.YtgbeeghdoilmkaaDwL
namespace Go.Proofs.Ytgbeeghdoilmkaa
open Go.RowKit Go.Maps Go.Sort
set_option linter.unusedVariables false

theorem Ds.survives_bare {W : World} (c : Int) (A : Option Addr) (cp : Nat) (F : List Dw.S) (wc : (Lit.int .i64 c).wf = true) (hF : Dw.Steps W A F) (hl : F.length ≤ 1400000000000) :
    Calls Try.prog 4 #[.int .i64 c, .slice A F.length cp] W fun e W' => e = .returned (.bool true) ∧ Below W.heap.size W W' :=
  Ds.survives W c (bounds_i64 wc) A cp F hF hl
end Go.Proofs.Ytgbeeghdoilmkaa
