/- The closed facts of NodeNone's row, together. -/
import Derived.Test.YtnennjhbajpbfaaGreatDoorFactsNone
namespace Go.Proofs.YtnennjhbajpbfaaGreatDoor
open Go
namespace FactsNone
theorem andT {a b : Bool} (h : a = true) (k : b = true) : (a && b) = true := by rw [h, k]; rfl
set_option maxRecDepth 100000 in
theorem closed : joinedFacts Tryz.pinned.checked.prog 3 Tryz.f3 Rows.nodeNoneSpec Rows.nodeNoneRow = true := by
  unfold joinedFacts
  exact andT (andT (andT (andT (andT (andT (andT (andT (andT (andT (andT (andT (andT (andT (andT (andT (andT (andT (andT (andT (andT (andT (andT (andT (andT (andT (andT (andT (andT (andT (andT k0 k1) k2) k3) k4) k5) k6) k7) k8) k9) k10) k11) k12) k13) k14) k15) k16) k17) k18) k19) k20) k21) k22) k23) k24) k25) k26) k27) (by kernel_rfl)) k29) k30) k31
end FactsNone
end Go.Proofs.YtnennjhbajpbfaaGreatDoor
