/- What NodeNone's card asks beside the row: closed facts. -/
import Derived.Test.YtnennjhbajpbfaaGreatDoorCards
import Derived.SevenTiedAt
namespace Go.Proofs.YtnennjhbajpbfaaGreatDoor
open Go
namespace FactsNone
theorem kw : Rows.nodeNoneRow.wfByText (OpenSpec.ofChange Rows.nodeNoneSpec) = true := by kernel_rfl
theorem km : Tryz.pinned.checked.prog.mainIs = some (Rows.nodeNoneCard.stood.harness.1, Rows.nodeNoneCard.stood.harness.2.toList) := by kernel_rfl
theorem noneGoes : Tryz.pinned.checked.prog.funcs.any Func.goes = false := by kernel_rfl
theorem goes_false {P : Program} (h : P.funcs.any Func.goes = false) (f : FuncId) : P.goes f = false := by
  have h1 : ∀ g : Nat, (P.funcs[g]?).any Func.goes = false := fun g => by
    cases hg : P.funcs[g]? with
    | none => rfl
    | some fn =>
      rw [Array.any_eq_false] at h
      obtain ⟨hlt, e⟩ := Array.getElem?_eq_some_iff.1 hg
      have := h g hlt
      rw [e] at this
      simpa using this
  unfold Program.goes
  rw [h, Bool.and_false, Bool.or_false, List.any_eq_false]
  intro g _
  rw [h1 g]; simp
theorem goesBy_false {P : Program} {c : OpenClaim} (h : P.funcs.any Func.goes = false) (hs : c.start = .entering) : false = c.goesBy P := by
  have e : ∀ o : Option FuncId, o.any P.goes = false := fun o => by
    cases o with
    | none => rfl
    | some f => exact goes_false h f
  unfold OpenClaim.goesBy Program.goesAt Program.goesFrom
  rw [e, hs]; rfl
theorem kg : false = Rows.nodeNoneRow.goesBy Tryz.pinned.checked.prog := goesBy_false noneGoes rfl
end FactsNone
end Go.Proofs.YtnennjhbajpbfaaGreatDoor
