/- NodeNone: the law. -/
import Derived.Test.YtnennjhbajpbfaaGreatDoorGvN2
namespace Go.Gv
set_option linter.unusedVariables false
set_option linter.unusedSimpArgs false
set_option linter.unusedSectionVars false
open Go.Proofs
set_option maxRecDepth 100000
/-- Asked, it has nothing to do with the heap. -/
def spTrue : Sp := fun l h nx => match l with
  | [] => some (.v (.bool true), h, nx)
  | _ => none
theorem spTrue_ok {P : Program} {M : Heap} {k : Nat} (hen : Enters P k) (S : Spec P M k [] [] fun r _ => r = .bool true) : XOk1 P M k spTrue := by
  intro args h nx x h' nx' e ok hk ρ
  unfold spTrue at e
  split at e
  · cases e
    refine opT.enter (R := []) hen (Pick.whole _) (args := []) (((S.beside (X := objs ρ h)).post fun v L k => ?_) : Spec P M k [] (objs ρ h) (KO h ρ (.v (.bool true)) h)) fun v L1 k => ?_
    · obtain ⟨L1, rfl, rfl⟩ := k
      exact ⟨objs ρ h, Ent.right, ρ, rfl, rfl, .refl ok, trivial⟩
    · rw [List.append_nil]; exact k
  · cases e
def XTab2 : XT := consX 23 spTrue XTab
theorem none_run (n : Int) : isT (evF TY ETab GTab FTab XTab2 60 3 [.v (.int .i64 n)] .lf 0) = true := by kernel_rfl
theorem none_law (W : World) (n : Int) (h : laidMet Tryz.prog YtnennjhbajpbfaaGreatDoor.Rows.nodeNoneRow.laid W) : Spec Tryz.prog (hp W) 3 [.int .i64 n] [] fun r _ => r = .bool true := by
  obtain ⟨h', nx', e⟩ := isT_spec (none_run n)
  exact Spec.of_ev (args := [.int .i64 n]) ETab_ok (GTab_ok h) mo FTab_ok (XOk.cons (spTrue_ok Tryz.call23 (awake_spec h)) XTab_ok) Tryz.call3 e
end Go.Gv
