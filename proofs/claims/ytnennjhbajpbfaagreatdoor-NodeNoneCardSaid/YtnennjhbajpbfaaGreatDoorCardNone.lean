/- Proved: NodeNone's card: for every integer n, on every world in which the eleven listed package-level variables hold what the program's text lays, the law grapevinelaw21.NodeNone comes back with true, and n reads as it did. Conditions: those that the row and the card bear (the listed variables are tied to the pruned copy of the program). The run is reckoned by a machine whose soundness against the model is proved in the texts Gv*, and is checked by the kernel. -/
import Derived.Test.YtnennjhbajpbfaaGreatDoorShell
import Derived.Test.YtnennjhbajpbfaaGreatDoorOwnTie
import Derived.Test.YtnennjhbajpbfaaGreatDoorFactsNone3
import Derived.Test.YtnennjhbajpbfaaGreatDoorGvN3
namespace Go.Proofs.YtnennjhbajpbfaaGreatDoor
open Go
namespace ShellNone
theorem card (S : Law) : Rows.NodeNoneCardSaid :=
  Claim7.holds_tied_plain_at .later [] _ _ _ _ (said S) (fun _ h => by cases h) FactsNone.kw (fun _ h => by cases h) OwnTie.nodeNone_row_tie rfl ⟨rfl, rfl⟩ FactsNone.km rfl plain FactsNone.kg
end ShellNone
theorem nodeNone_holds : Rows.NodeNoneCardSaid := ShellNone.card fun W n h _ => Gv.none_law W n h
end Go.Proofs.YtnennjhbajpbfaaGreatDoor
