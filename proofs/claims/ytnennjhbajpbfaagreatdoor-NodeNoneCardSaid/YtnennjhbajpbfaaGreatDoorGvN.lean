/- NodeNone: the run, reckoned; the law. -/
import Derived.Test.YtnennjhbajpbfaaGreatDoorGvKs
import Derived.Test.YtnennjhbajpbfaaGreatDoorGvEF
import Derived.Test.YtnennjhbajpbfaaGreatDoorRows
import Derived.Lib.LaidU8
namespace Go.Gv
set_option linter.unusedVariables false
set_option linter.unusedSimpArgs false
set_option linter.unusedSectionVars false
open Go.Proofs
set_option maxRecDepth 100000
def consE (t : Nat) (fs : List (Nat × Nat)) (E : EqT) : EqT := fun k => bif Nat.beq k t then some fs else E k
theorem EOk.cons {P : Program} {t : Nat} {fs : List (Nat × Nat)} {E : EqT} (h0 : P.underlying t = some (.struct (P.fieldsOf t))) (h1 : P.stoodInHeld t = false) (h2 : P.eqGuardType P.depth t = false) (h3 : (P.fieldsOf t).toList.map (fun f => (f.type, f.offset)) = fs)
    (h4 : (P.fieldsOf t).toList.all (fun f => f.name != "_") = true) (hE : EOk P E) : EOk P (consE t fs E) := by
  intro k gs e
  unfold consE at e
  cases hb : Nat.beq k t with
  | true =>
    rw [hb] at e
    obtain rfl := Nat.eq_of_beq_eq_true hb
    cases e
    exact ⟨h0, h1, h2, h3, fun f hf q => by have := List.all_eq_true.1 h4 f hf; rw [q] at this; simp at this⟩
  | false => rw [hb] at e; exact hE k gs e
def ETab : EqT := consE 24 [(3, 0), (3, 1)] (consE 68 [(3, 0), (3, 1)] (consE 70 [(24, 0), (68, 2), (9, 4)] (consE 258 [(9, 0), (3, 1)] (consE 266 [(3, 0), (3, 1), (3, 2)] E0))))
theorem ETab_ok : EOk Tryz.prog ETab :=
  EOk.cons (by kernel_rfl) (by kernel_rfl) (by kernel_rfl) (by kernel_rfl) (by kernel_rfl) (EOk.cons (by kernel_rfl) (by kernel_rfl) (by kernel_rfl) (by kernel_rfl) (by kernel_rfl) (EOk.cons (by kernel_rfl) (by kernel_rfl) (by kernel_rfl) (by kernel_rfl) (by kernel_rfl)
    (EOk.cons (by kernel_rfl) (by kernel_rfl) (by kernel_rfl) (by kernel_rfl) (by kernel_rfl) (EOk.cons (by kernel_rfl) (by kernel_rfl) (by kernel_rfl) (by kernel_rfl) (by kernel_rfl) E0_ok))))
def propsT : List Int := [1, 1, 1, 1, 1, 1, 1, 1, 1, 1, 1, 1, 1, 1, 1, 1, 1, 1, 1, 1, 1, 1, 1, 1, 1, 1, 1, 1, 1, 1, 1, 1, 144, 130, 130, 130, 136, 130, 130, 130, 130, 130, 130, 136, 130, 130, 130, 130, 132, 132, 132, 132, 132, 132, 132, 132, 132, 132, 130, 130, 136, 136, 136, 130, 130, 160, 160, 160, 160, 160, 160, 160, 160, 160, 160, 160, 160, 160, 160, 160, 160, 160, 160, 160, 160, 160, 160, 160, 160, 160, 160, 130, 130, 130, 136, 130, 136, 192, 192, 192, 192, 192, 192, 192, 192, 192, 192, 192, 192, 192, 192, 192, 192, 192, 192, 192, 192, 192, 192, 192, 192, 192, 192, 130, 136, 130, 136, 1, 1, 1, 1, 1, 1, 1, 1, 1, 1, 1, 1, 1, 1, 1, 1, 1, 1, 1, 1, 1, 1, 1, 1, 1, 1, 1, 1, 1, 1, 1, 1, 1, 16, 130, 136, 136, 136, 136, 136, 130, 136, 136, 224, 130, 136, 0, 136, 136, 136, 136, 132, 132, 136, 192, 130, 130, 136, 132, 224, 130, 132, 132, 132, 130, 160, 160, 160, 160, 160, 160, 160, 160, 160, 160, 160, 160, 160, 160, 160, 160, 160, 160, 160, 160, 160, 160, 160, 136, 160, 160, 160, 160, 160, 160, 160, 192, 192, 192, 192, 192, 192, 192, 192, 192, 192, 192, 192, 192, 192, 192, 192, 192, 192, 192, 192, 192, 192, 192, 192, 136, 192, 192, 192, 192, 192, 192, 192, 192]
def props : List Value := propsT.map fun z => .int .u8 z
def GTab : GT := fun g => bif Nat.beq g 6 then some props else none
theorem GTab_ok {W : World} (h : laidMet Tryz.prog YtnennjhbajpbfaaGreatDoor.Rows.nodeNoneRow.laid W) : GOk (hp W) GTab := by
  intro g l e
  unfold GTab at e
  cases hb : Nat.beq g 6 with
  | false => rw [hb] at e; cases e
  | true =>
    rw [hb] at e
    obtain rfl := Nat.eq_of_beq_eq_true hb
    cases e
    have hr := Lib.laidMet.reads h (n := "unicode.properties") (d := YtnennjhbajpbfaaGreatDoor.Rows.laid_unicode_properties) (.tail _ (.tail _ (.tail _ (.tail _ (.tail _ (.head _))))))
    obtain ⟨g, t, cs, fuel, p, hg, hty, hvar, hd⟩ := hr
    have n6 : Tryz.prog.globalNamed "unicode.properties" = some 6 := by kernel_rfl
    have y6 : (Tryz.prog.globals[6]?).map (·.type) = some 171 := by kernel_rfl
    obtain rfl := Option.some.inj (n6.symm.trans hg)
    obtain rfl := Option.some.inj (y6.symm.trans hty)
    have el : (YtnennjhbajpbfaaGreatDoor.Rows.laid_unicode_properties : DataW Unit) = Lib.tabData .u8 propsT := by kernel_rfl
    rw [el] at hd
    have hcs := Lib.cells_of_tab (n := 256) (k := .u8) (zs := propsT) Tryz.underlying171 Tryz.underlying5 (by kernel_rfl) (by kernel_rfl) hd
    have hv : (Tryz.prog.globalNamed "unicode.properties").bind (fun g => match W.heap[g]? with | some (.cells cs _ _) => some cs | _ => none) = some cs := hvar
    rw [n6] at hv
    simp only [Option.bind_some] at hv
    split at hv
    · rename_i cs' t z hW
      cases hv
      refine ⟨t, z, ?_⟩
      show W.heap[6]? = _
      rw [hW]
      congr 2
      apply Array.ext'
      exact hcs
    · cases hv
def isS (n : Nat) : Bool := Nat.beq n 169 || Nat.beq n 217
def isC (n : Nat) : Bool := Nat.beq n 153
def XTab : XT := consX 227 (spKeys 9 1 isS) (consX 201 (spKeys 24 2 isC) (consX 373 spIdx (consX 358 (spMake 5) (consX 357 spNoEsc nilX))))
theorem x373 {M : Heap} : XOk1 Tryz.prog M 373 spIdx := by
  refine @spIdx_ok Tryz.prog M 373 Tryz.f373 Tryz.func373 ?_ ?_ ?_ ?_
  · kernel_rfl
  · kernel_rfl
  · kernel_rfl
  · kernel_rfl
theorem x358 {M : Heap} : XOk1 Tryz.prog M 358 (spMake 5) := by
  refine @spMake_ok Tryz.prog M 358 133 5 Tryz.f358 Tryz.func358 ?_ ?_ ?_ #[3] ?_ Tryz.underlying133
  · kernel_rfl
  · kernel_rfl
  · kernel_rfl
  · kernel_rfl
theorem x357 {M : Heap} : XOk1 Tryz.prog M 357 spNoEsc := by
  refine @spNoEsc_ok Tryz.prog M 357 Tryz.f357 Tryz.func357 ?_ ?_ ?_ ?_
  · kernel_rfl
  · kernel_rfl
  · kernel_rfl
  · kernel_rfl
theorem XTab_ok {M : Heap} : XOk Tryz.prog M XTab := by
  unfold XTab
  refine XOk.cons (spKeys_ok Tryz.call227 ?_) (XOk.cons (spKeys_ok Tryz.call201 ?_) (XOk.cons x373 (XOk.cons x358 (XOk.cons x357 XOk.nil))))
  · intro kc h
    unfold isS at h
    rw [Bool.or_eq_true] at h
    rcases h with h | h
    · obtain rfl := Nat.eq_of_beq_eq_true h; exact ⟨keys0_227_169, keys1_227_169⟩
    · obtain rfl := Nat.eq_of_beq_eq_true h; exact ⟨keys0_227_217, keys1_227_217⟩
  · intro kc h
    obtain rfl := Nat.eq_of_beq_eq_true h
    exact ⟨keys0_201_153, keys1_201_153⟩
def isT : Option (SV × Hp × Nat) → Bool
  | some (.v (.bool true), _, _) => true
  | _ => false
theorem isT_spec {o : Option (SV × Hp × Nat)} (h : isT o = true) : ∃ h' nx', o = some (.v (.bool true), h', nx') := by
  unfold isT at h
  split at h
  · exact ⟨_, _, rfl⟩
  · cases h
end Go.Gv
