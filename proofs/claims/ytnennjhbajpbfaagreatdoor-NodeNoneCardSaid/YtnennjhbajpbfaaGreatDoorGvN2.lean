/- The law's own question: the run, reckoned. -/
import Derived.Test.YtnennjhbajpbfaaGreatDoorGvN
namespace Go.Gv
set_option linter.unusedVariables false
set_option linter.unusedSimpArgs false
set_option linter.unusedSectionVars false
open Go.Proofs
set_option maxRecDepth 100000
theorem awake_run : isT (evF TY ETab GTab FTab XTab 60 23 [] .lf 0) = true := by kernel_rfl
theorem awake_spec {W : World} (h : laidMet Tryz.prog YtnennjhbajpbfaaGreatDoor.Rows.nodeNoneRow.laid W) : Spec Tryz.prog (hp W) 23 [] [] fun r _ => r = .bool true := by
  obtain ⟨h', nx', e⟩ := isT_spec awake_run
  exact Spec.of_ev (args := []) ETab_ok (GTab_ok h) mo FTab_ok XTab_ok Tryz.call23 e
end Go.Gv
