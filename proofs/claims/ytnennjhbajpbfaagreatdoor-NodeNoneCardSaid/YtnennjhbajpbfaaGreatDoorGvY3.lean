/- The machine's reads are the model's: operators, structs written out, conversions, places. -/
import Derived.Test.YtnennjhbajpbfaaGreatDoorGvY2
namespace Go.Gv
set_option linter.unusedVariables false
set_option linter.unusedSimpArgs false
set_option linter.unusedSectionVars false

section
variable {P : Program} {T : TT P} {E : EqT} {G : GT} {M : Heap} {ρ : Rho} {h : Hp} {F : List HP} {w : World}

theorem dens_v (ρ : Rho) : ∀ l : List Value, dens ρ (l.map .v) = l
  | [] => rfl
  | x :: l => by simp [dens, den, dens_v ρ l]
def EqRun (P : Program) (ρ : Rho) (t : Nat) (x y : SV) (b : Bool) (xo yo : Operand) (w : World) : Prop :=
  (binOp .eql t (den ρ x) (den ρ y)).run P w = .ok (.bool b) w ∧ (binOp .neq t (den ρ x) (den ρ y)).run P w = .ok (.bool (!b)) w ∧ ∀ op, (eqGuard op t xo yo (den ρ x) (den ρ y)).run P w = .ok () w
theorem eqS_sound (hE : EOk P E) {t : Nat} {lit b : Bool} {x y : SV} {xo yo : Operand} (hl : lit = true → (isLit xo || isLit yo) = true) (e : eqS T E t lit x y = some b) (w : World) : EqRun P ρ t x y b xo yo w := by
  unfold eqS at e
  split at e
  · rename_i ti ht
    split at e
    · rename_i a hx
      split at e
      · rename_i b' hy
        obtain ⟨n1, n2, n3, n4⟩ := nil_ne (ρ := ρ) hx
        have fin : (a || b') = true → (a && b') = b → ((a && b') = true → lit = true) → EqRun P ρ t x y b xo yo w := fun hab hb hlit => by
          have h1 := nil_eqIn (ρ := ρ) 9999 ht hx hy hab w
          rw [hb] at h1
          obtain ⟨r1, r2⟩ := binOp_eql h1 n1 n2 n3 n4
          exact ⟨r1, r2, fun op => nil_guard hx hy hab op xo yo w fun q => hl (hlit q)⟩
        cases a <;> cases b' <;> simp at e
        · exact fin rfl (by simpa using e) (by simp)
        · exact fin rfl (by simpa using e) (by simp)
        · cases lit <;> simp at e
          exact fin rfl (by simpa using e) (fun _ => rfl)
      · cases e
    · cases hEt : E t with
      | some fs =>
        rw [hEt] at e
        simp only [Option.isSome_some, cond_true] at e
        obtain ⟨_, hp, hg, _, _⟩ := hE t fs hEt
        have fin : ∀ (xs ys : List SV) (Y : Value), den ρ x = .agg (dens ρ xs).toArray → den ρ y = .agg (dens ρ ys).toArray → eqT T E 8 t xs ys = some b → EqRun P ρ t x y b xo yo w := fun xs ys Y hX hY he => by
          have h1 := (eqT_sound (ρ := ρ) hE 8).1 t xs ys b he (9999 + 1) (by omega) w
          simp only [mkv, hEt] at h1
          have h2 : (Op.equal t (den ρ x) (den ρ y)).run P w = .ok b w := by rw [hX, hY]; exact h1
          obtain ⟨r1, r2⟩ := binOp_eql h2 (by rw [hX]; simp) (by rw [hX]; simp) (by rw [hX]; simp) (by rw [hX]; simp)
          exact ⟨r1, r2, fun op => by rw [hX, hY]; exact run_eqGuard_agg w op t xo yo _ _ hg⟩
        split at e
        · exact fin _ _ undef rfl rfl e
        · rename_i xs cs _
          exact fin xs (cs.toList.map .v) undef rfl (by rw [dens_v]; rfl) e
        · cases e
      | none =>
        rw [hEt] at e
        simp only [Option.isSome_none, cond_false] at e
        split at e
        · rename_i a b' hd _
          cases e
          have h2 : (Op.equal t (.bool a) (.bool b')).run P w = .ok (a == b') w := equal_bool ht hd w
          obtain ⟨r1, r2⟩ := binOp_eql h2 (by simp) (by simp) (by simp) (by simp)
          exact ⟨r1, r2, fun op => by cases op <;> rfl⟩
        · cases e
  · cases e

variable {r : Operand → SV} (hr : ∀ y, okV (dom h) (r y))
include hr

theorem bin_run {op : BinOp} {t t2 : Nat} {x y : Operand} {v : Value} (h1 : ∀ w, (binOp op t (den ρ (r x)) (den ρ (r y))).run P w = .ok v w) (h2 : ∀ w, (eqGuard op t x y (den ρ (r x)) (den ρ (r y))).run P w = .ok () w) : PuOk P M ρ h r (.binOp op t x y t2) (.v v) := by
  refine ⟨fun F w s dst ty pos aft gd => ?_, trivial⟩
  simp only [execOp, Sem.run_bind, h2 w, h1 w, Result.andThen_ok, den]
  rfl
theorem evP_bin (hE : EOk P E) {op : BinOp} {t t2 : Nat} {x y : Operand} {z : SV} (e : evP T E G h r (.binOp op t x y t2) = some z) : PuOk P M ρ h r (.binOp op t x y t2) z := by
  simp only [evP] at e
  have hl : (isLit x || isLit y) = true → (isLit x || isLit y) = true := fun q => q
  unfold binS at e
  split at e
  · -- ==
    split at e
    · rename_i k a k' b hx hy
      cases hk : (k == k') with
      | false => rw [hk] at e; cases e
      | true =>
        rw [hk] at e
        cases e
        obtain rfl := beq_iff_eq.1 hk
        exact bin_run hr (fun w => by rw [hx, hy]; simp [den, binOp, Op.intCmp, i0_eq]) (fun w => by rw [hx]; rfl)
    · rename_i a b hx hy
      cases e
      exact bin_run hr (fun w => by rw [hx, hy]; simp [den, binOp, Op.stringOp, u8l_eq, ba_list]) (fun w => by rw [hx]; rfl)
    · split at e
      · rename_i b hb
        cases e
        exact bin_run hr (fun w => (eqS_sound hE hl hb w).1) (fun w => (eqS_sound hE hl hb w).2.2 _)
      · cases e
  · -- !=
    split at e
    · rename_i k a k' b hx hy
      cases hk : (k == k') with
      | false => rw [hk] at e; cases e
      | true =>
        rw [hk] at e
        cases e
        obtain rfl := beq_iff_eq.1 hk
        exact bin_run hr (fun w => by rw [hx, hy]; simp [den, binOp, Op.intCmp, i0_eq, bne]) (fun w => by rw [hx]; rfl)
    · rename_i a b hx hy
      cases e
      exact bin_run hr (fun w => by rw [hx, hy]; simp [den, binOp, Op.stringOp, u8l_eq, ba_list]) (fun w => by rw [hx]; rfl)
    · split at e
      · rename_i b hb
        cases e
        exact bin_run hr (fun w => (eqS_sound hE hl hb w).2.1) (fun w => (eqS_sound hE hl hb w).2.2 _)
      · cases e
  · rename_i hne1 hne2
    have hg : ∀ w, (eqGuard op t x y (den ρ (r x)) (den ρ (r y))).run P w = .ok () w := fun w => by
      cases op <;> first | rfl | (exact absurd rfl hne1) | (exact absurd rfl hne2)
    split at e
    · rename_i k a k' b hx hy
      cases hk : sameKind op (.int k a) (.int k' b) with
      | false => rw [hk] at e; cases e
      | true =>
        rw [hk] at e
        simp only [cond_true] at e
        split at e
        · cases e
          have hkk : k = k' := by simpa [sameKind, isSh] using hk
          subst hkk
          exact bin_run hr (fun w => by rw [hx, hy]; simp [den, binOp, Op.intBits]) hg
        · split at e
          · rename_i v hv
            cases e
            exact bin_run hr (fun w => by rw [hx, hy]; exact binOp_val hk hv w) hg
          · cases e
    · rename_i a b hx hy
      split at e
      · cases hb : Nat.ble ((bsOf a).length + (bsOf b).length) 1000000 with
        | false => rw [hb] at e; cases e
        | true =>
          rw [hb] at e
          cases e
          have hle := Nat.le_of_ble_eq_true hb
          refine bin_run hr (fun w => ?_) hg
          rw [hx, hy]
          have h1 : ¬ (((a.size + b.size : Nat) : Int) > IntKind.i64.max) := by
            have e1 : (bsOf a).length = a.size := by simp [bsOf]
            have e2 : (bsOf b).length = b.size := by simp [bsOf]
            simp [IntKind.max, IntKind.signed, IntKind.bits]; omega
          simp only [den, binOp, Op.stringOp, mkS_app]
          rw [if_neg h1]; rfl
      all_goals first
        | (cases e; exact bin_run hr (fun w => by rw [hx, hy]; simp [den, binOp, Op.stringOp, u8l_eq, ba_list, ltB_eq]) hg)
        | (cases e; done)
    · cases e
end
end Go.Gv
