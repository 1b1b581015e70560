/- The law DiskImage as the statement's arguments come. Conditions: each theorem's own hypotheses. -/
import Derived.Test.YtgbeeghdoilmkaaDwM
import Derived.Test.YtgbeeghdoilmkaaDwL
namespace Go.Proofs.Ytgbeeghdoilmkaa
open Go.RowKit Go.Maps Go.Sort
set_option linter.unusedVariables false

theorem Dw.image_bare {W : World} (c : Int) (A : Option Addr) (cp : Nat) (F : List Dw.S) (A2 : Option Addr) (cp2 : Nat) (G : List Dw.S) (wc : (Lit.int .i64 c).wf = true) (hF : Dw.Steps W A F) (hl : F.length ≤ 1400000000000) (hG : Dw.Steps W A2 G) (hl2 : G.length ≤ 1400000000000) :
    Calls Try.prog 6 #[.int .i64 c, .slice A F.length cp, .slice A2 G.length cp2] W fun e W' => e = .returned (.bool true) ∧ Below W.heap.size W W' :=
  Dw.diskImage W c (bounds_i64 wc) A cp F hF hl A2 cp2 G hG hl2
end Go.Proofs.Ytgbeeghdoilmkaa
