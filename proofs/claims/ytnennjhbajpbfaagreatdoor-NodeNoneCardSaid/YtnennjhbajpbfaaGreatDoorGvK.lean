/- From a contract to what a row asks: all that was there stays. -/
import Derived.Test.YtnennjhbajpbfaaGreatDoorGvJ
import Derived.RowKit3
namespace Go.Gv
set_option linter.unusedVariables false
set_option linter.unusedSimpArgs false
set_option linter.unusedSectionVars false
open Go.RowKit

def Kept (W w' : World) : Prop := W.keptBut w' (fun _ => False) ∧ W.heap.size ≤ w'.heap.size
theorem Kept.frame {W w' : World} (h : Kept W w') (may : MemPlace → Prop) : W.keptBut w' may := World.keptBut_mono (fun _ f => f.elim) h.1
theorem kept_of {W w' : World} (v : Env W w') (h : Hsub (hp W) (hp w')) : Kept W w' := by
  refine ⟨⟨v.os, v.output, fun i hi => ?_⟩, v.size⟩
  have e1 : W.heap[i]? = some W.heap[i] := Array.getElem?_eq_getElem hi
  have e2 : w'.heap[i]? = some W.heap[i] := h i _ e1
  rw [e1, e2]
  cases W.heap[i] with
  | cells c t z => exact ⟨rfl, rfl, rfl, fun _ _ => rfl⟩
  | map es clock => exact .inr ⟨rfl, rfl⟩
  | _ => rfl

/-- **A contract that owns nothing, over the whole of what is there.** -/
theorem calls_of {P : Program} {f : FuncId} {args : List Value} {W : World} {K : Value → List HP → Prop} (S : Spec P (hp W) f args [] K) :
    Calls P f args.toArray W fun e W' => ∃ v, e = .returned v ∧ (∃ L, K v L) ∧ Kept W W' := by
  have s0 : Sat (hp W) ([] ++ []) W := ⟨.refl _, fun _ => none, (fun _ _ e => by cases e), fun _ => .inr rfl, trivial⟩
  exact (S [] W s0).mono fun e w' ⟨v, L, e1, e2, e3, e4⟩ => ⟨v, e1, ⟨L, e4⟩, kept_of e2 e3.imm⟩
end Go.Gv
