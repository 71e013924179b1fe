/- The machine's reads are the model's: comparisons and sums. -/
import Derived.Test.YtnennjhbajpbfaaGreatDoorGvY
namespace Go.Gv
set_option linter.unusedVariables false
set_option linter.unusedSimpArgs false
set_option linter.unusedSectionVars false

theorem ltB_eq : ∀ {l k : List UInt8}, ltB l k = Op.bytesLess l k
  | [], [] => rfl
  | [], _ :: _ => rfl
  | _ :: _, [] => rfl
  | a :: l, b :: k => by
    simp only [ltB, Op.bytesLess]
    cases h : Nat.beq a.toNat b.toNat with
    | true =>
      have : a = b := UInt8.toNat_inj.1 (Nat.eq_of_beq_eq_true h)
      subst this
      have : ¬ a < a := UInt8.lt_irrefl a
      simp [this, ltB_eq (l := l) (k := k)]
    | false =>
      have hne : a ≠ b := fun e => by subst e; simp at h
      simp only [cond_false]
      rw [Bool.eq_iff_iff]
      simp [hne, UInt8.lt_iff_toNat_lt]
theorem mkS_app {a b : ByteArray} : mkS (bsOf a ++ bsOf b) = .string (a ++ b) := by
  have : (⟨⟨bsOf a ++ bsOf b⟩⟩ : ByteArray) = a ++ b := by
    apply ByteArray.ext
    apply Array.ext'
    simp [bsOf]
  unfold mkS
  rw [this]

section
variable {P : Program} {T : TT P} {E : EqT} {G : GT} {M : Heap} {ρ : Rho} {h : Hp} {F : List HP} {w : World}

theorem nil_eqIn (d : Nat) {t : Nat} {ti : TI P} {x y : SV} {a b : Bool} (ht : T.get t = some ti) (hx : nilK ti.desc x = some a) (hy : nilK ti.desc y = some b) (hab : (a || b) = true) (w : World) :
    (Op.equalIn (d + 1) t (den ρ x) (den ρ y)).run P w = .ok (a && b) w := by
  have hu := run_und ht w
  unfold nilK at hx hy
  split at hx <;> cases hx <;> (rename_i hd) <;> rw [hd] at hy hu <;> simp only at hy <;> (split at hy) <;> first
    | contradiction
    | (cases hy; done)
    | (cases hy; first
        | (simp at hab; done)
        | (simp only [den, Op.equalIn, Sem.run_bind, hu, Result.andThen_ok, Sem.run_pure]; rfl))
theorem nil_guard {t : Nat} {d : TypeDesc} {x y : SV} {a b : Bool} (hx : nilK d x = some a) (hy : nilK d y = some b) (hab : (a || b) = true) (op : BinOp) (xo yo : Operand) (w : World) (hl : (a && b) = true → (isLit xo || isLit yo) = true) :
    (eqGuard op t xo yo (den ρ x) (den ρ y)).run P w = .ok () w := by
  unfold nilK at hx hy
  split at hx <;> cases hx <;> simp only at hy <;> (split at hy) <;> first
    | contradiction
    | (cases hy; done)
    | (cases hy; first
        | (simp at hab; done)
        | (cases op <;> simp only [den, eqGuard] <;> rfl)
        | (have := hl rfl
           unfold isLit at this
           cases xo <;> cases yo <;> first
             | (simp at this; done)
             | (cases op <;> simp [den, eqGuard])))
theorem nil_ne {d : TypeDesc} {x : SV} {a : Bool} (hx : nilK d x = some a) : (∀ k n, den ρ x ≠ .int k n) ∧ (∀ k n, den ρ x ≠ .float k n) ∧ (∀ k n m, den ρ x ≠ .complex k n m) ∧ (∀ s, den ρ x ≠ .string s) := by
  unfold nilK at hx
  split at hx <;> first | (cases hx; done) | (cases hx; exact ⟨by simp [den], by simp [den], by simp [den], by simp [den]⟩)

end
end Go.Gv
