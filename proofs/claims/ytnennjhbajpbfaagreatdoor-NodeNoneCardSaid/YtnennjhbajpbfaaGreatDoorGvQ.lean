/- The machine's regions, code and calls are the model's. -/
import Derived.Test.YtnennjhbajpbfaaGreatDoorGvZ4
namespace Go.Gv
set_option linter.unusedVariables false
set_option linter.unusedSimpArgs false
set_option linter.unusedSectionVars false

def denT (ρ : Rho) (tm : Tm) : TEnv := fun t => match tm.get t with
  | some x => den ρ x
  | none => undef
def okTm (D : Nat → Prop) (N : Nat) (tm : Tm) : Prop := ∀ t x, tm.get t = some x → okV D x ∧ t < N
def KO (h : Hp) (ρ : Rho) (x : SV) (h' : Hp) : Value → List HP → Prop := fun v L => ∃ ρ', v = den ρ' x ∧ L = objs ρ' h' ∧ Grew h h' ρ ρ' ∧ okV (dom h') x
def CallOk (P : Program) (M : Heap) (call : CallF) : Prop := ∀ k args h nx x h' nx', call k args h nx = some (x, h', nx') → okHp h → okVs (dom h) args → ∀ ρ, opT P M (callFunc k (dens ρ args).toArray) (objs ρ h) (KO h ρ x h')

section
variable {P : Program} {T : TT P} {E : EqT} {G : GT} {M : Heap} {ρ ρ' : Rho} {h h' : Hp} {F : List HP} {w w' : World} {N : Nat} {tm tm' : Tm} {arr : Array Oper} {call : CallF}

theorem rd_ev {D : Nat → Prop} (ok : okTm D N tm) (x : Operand) : ev N (denT ρ tm) x = den ρ (rd tm x) := by
  cases x with
  | tmp t =>
    simp only [ev, denT, rd]
    cases hg : tm.get t with
    | some x =>
      have : Nat.ble (t + 1) N = true := Nat.ble_eq_true_of_le (ok t x hg).2
      rw [this]; rfl
    | none => cases Nat.ble (t + 1) N <;> rfl
  | _ => rfl
theorem rd_fun {D : Nat → Prop} (ok : okTm D N tm) : ev N (denT ρ tm) = fun y => den ρ (rd tm y) := funext (rd_ev ok)
theorem rd_ok {D : Nat → Prop} (ok : okTm D N tm) (x : Operand) : okV D (rd tm x) := by
  cases x with
  | tmp t =>
    simp only [rd]
    cases hg : tm.get t with
    | some x => exact (ok t x hg).1
    | none => trivial
  | _ => trivial
theorem denT_congr {D : Nat → Prop} (ok : okTm D N tm) (e : ∀ c, D c → ρ c = ρ' c) : denT ρ tm = denT ρ' tm := by
  funext t
  simp only [denT]
  cases hg : tm.get t with
  | some x => exact den_congr e x (ok t x hg).1
  | none => rfl
theorem okTm_up {D D' : Nat → Prop} (ok : okTm D N tm) (e : ∀ c, D c → D' c) : okTm D' N tm := fun t x hg => ⟨okV_up e x (ok t x hg).1, (ok t x hg).2⟩
theorem p10 {d : Nat} (h : d < 1001) : d + 2 ≤ 2 ^ 10 := by
  have : (2 : Nat) ^ 10 = 1024 := by decide
  omega
theorem put_spec {D : Nat → Prop} (hN : N ≤ 1000) {d : Option Nat} {x : SV} (e : put N tm d x = some tm') (ok : okTm D N tm) (hx : okV D x) : denT ρ tm' = upd (denT ρ tm) d (den ρ x) ∧ okTm D N tm' := by
  unfold put at e
  split at e
  · cases e; exact ⟨rfl, ok⟩
  · rename_i d
    cases hb : Nat.blt d N with
    | false => rw [hb] at e; cases e
    | true =>
      rw [hb] at e
      cases e
      have hlt : d < N := by simpa using hb
      refine ⟨?_, fun t y hy => ?_⟩
      · funext t
        simp only [denT, upd]
        by_cases ht : t = d
        · subst ht
          rw [Tri.get_set_eq _ _ _ _ (p10 (by omega))]
          simp
        · have : Nat.beq t d = false := by
            cases q : Nat.beq t d with
            | false => rfl
            | true => exact absurd (Nat.eq_of_beq_eq_true q) ht
          rw [Tri.get_set_ne _ _ _ _ _ ht, this]; rfl
      · by_cases ht : t = d
        · subst ht
          rw [Tri.get_set_eq _ _ _ _ (p10 (by omega))] at hy
          cases hy; exact ⟨hx, hlt⟩
        · rw [Tri.get_set_ne _ _ _ _ _ ht] at hy; exact ok t y hy
theorem den_bool {x : SV} {b : Bool} (e : den ρ x = .bool b) : x = .v (.bool b) := by
  cases x with
  | v x => simp only [den] at e; rw [e]
  | _ => simp [den] at e
theorem gbS_eq {D : Nat → Prop} (ok : okTm D N tm) (j : Nat) : gb arr N (denT ρ tm) j = gbS arr tm j := by
  unfold gb gbS
  cases arr[j]? with
  | none => rfl
  | some o =>
    simp only [Option.bind_some]
    cases o.dst with
    | none => rfl
    | some d =>
      simp only
      rw [rd_ev ok]
      simp only [rd]
      cases hg : tm.get d with
      | none => rfl
      | some x =>
        simp only
        cases x with
        | v x => simp only [den]; cases x <;> rfl
        | _ => simp [den]
theorem on_wanted {D : Nat → Prop} (ok : okTm D N tm) {o : Oper} {b : Bool} (e : onS arr tm o.guard = some b) : wantedE arr N (denT ρ tm) o = b := by
  unfold onS at e
  unfold wantedE Region.wanted
  cases hg : o.guard with
  | none => rw [hg] at e; cases e; rfl
  | some p =>
    obtain ⟨j, want⟩ := p
    rw [hg] at e
    simp only at e ⊢
    rw [gbS_eq ok]
    cases hq : gbS arr tm j with
    | none => rw [hq] at e; cases e; rfl
    | some t =>
      rw [hq] at e
      cases e
      simp

theorem ev1_sound (hE : EOk P E) (hG : GOk M G) (hC : CallOk P M call) (ok : okHp h) (okt : okTm (dom h) N tm) {id nx nx' : Nat} {op : Op} {x : SV} (e : ev1 T E G call tm h id nx op = some (x, h', nx')) (ρ : Rho) {dst : Option Tmp} {ty : TypeId} {pos : String} {aft : Array Edge} {gd : Option (Nat × Bool)} :
    opT P M (execOp (ev N (denT ρ tm)) ⟨dst, op, ty, pos, aft, gd⟩) (objs ρ h) (KO h ρ x h') := by
  rw [rd_fun okt]
  unfold ev1 at e
  split at e
  · rename_i y hy
    cases e
    obtain ⟨h1, h2⟩ := evP_sound (P := P) (M := M) (ρ := ρ) (rd_ok okt) hE hG ok hy
    intro F w s
    rw [h1 F w s]
    exact ⟨.refl w, _, s, ρ, rfl, rfl, .refl ok, h2⟩
  · split at e
    · rename_i y h2 hy
      cases e
      have hs := evE_sound (P := P) (M := M) (ρ := ρ) hE ok (rd_ok okt) hy
      intro F w s
      obtain ⟨n, w', ρ', r1, r2, r3, r4, r5, r6⟩ := hs F w s dst ty pos aft gd
      rw [r1]
      rcases r2 with rfl | ⟨rfl, rfl⟩
      · exact ⟨r3, _, r4, ρ', rfl, rfl, r5, r6⟩
      · exact ⟨r3, _, r4, ρ', rfl, rfl, r5, r6⟩
    · rename_i hp1 _ hp2
      clear hp1 hp2
      cases op <;> first
        | (cases e; done)
        | skip
      rename_i c
      obtain ⟨callee, args, ats⟩ := c
      simp only at e
      cases callee <;> first
        | (cases e; done)
        | skip
      rename_i f
      simp only at e
      split at e
      · rename_i k a b hf
        cases hb : (a.toList.isEmpty && b.toList.isEmpty) with
        | false => rw [hb] at e; cases e
        | true =>
          rw [hb] at e
          simp only [cond_true] at e
          rw [Bool.and_eq_true] at hb
          have ha : a = #[] := by apply Array.ext'; simpa using hb.1
          have hb' : b = #[] := by apply Array.ext'; simpa using hb.2
          have hex : execOp (fun y => den ρ (rd tm y)) ⟨dst, .call ⟨.value f, args, ats⟩, ty, pos, aft, gd⟩ = callFunc k (dens ρ (args.toList.map (rd tm))).toArray := by
            have : (dens ρ (args.toList.map (rd tm))).toArray = args.map (fun y => den ρ (rd tm y)) := by
              apply Array.ext'; simp [dens_map, Function.comp_def]
            rw [this]
            simp [execOp, resolve, hf, den, ha, hb', Deferred.ofValue, invoke]
          rw [hex]
          exact hC _ _ _ _ _ _ _ e ok (okVs_iff.2 fun y hy => by obtain ⟨z, _, rfl⟩ := List.mem_map.1 hy; exact rd_ok okt z) ρ
      · rename_i k a b hf
        have kf := rd_ok okt f
        rw [hf] at kf
        have hex : execOp (fun y => den ρ (rd tm y)) ⟨dst, .call ⟨.value f, args, ats⟩, ty, pos, aft, gd⟩ = callFunc k (dens ρ (a ++ args.toList.map (rd tm) ++ b)).toArray := by
          have : (dens ρ (a ++ args.toList.map (rd tm) ++ b)).toArray = (dens ρ a).toArray ++ args.map (fun y => den ρ (rd tm y)) ++ (dens ρ b).toArray := by
            apply Array.ext'; simp [dens_map, Function.comp_def]
          rw [this]
          simp [execOp, resolve, hf, den, Deferred.ofValue, invoke]
        rw [hex]
        exact hC _ _ _ _ _ _ _ e ok (okVs_app (okVs_app kf.1 (okVs_iff.2 fun y hy => by obtain ⟨z, _, rfl⟩ := List.mem_map.1 hy; exact rd_ok okt z)) kf.2) ρ
      · cases e

theorem RunOps.mono_ : ∀ {l : List Oper} {e : TEnv} {L : List HP} {K K' : TEnv → List HP → Prop}, RunOps P M N arr l e L K → (∀ e L, K e L → K' e L) → RunOps P M N arr l e L K'
  | [], e, L, K, K', h, k => k _ _ h
  | o :: l, e, L, K, K', h, k => by
    simp only [RunOps, stepL] at h ⊢
    split
    · rename_i hw; rw [if_pos hw] at h; exact h.mono fun _ _ q => RunOps.mono_ q k
    · rename_i hw; rw [if_neg hw] at h; exact RunOps.mono_ h k
/-- What stands behind a piece. -/
def KT (N : Nat) (h : Hp) (ρ : Rho) (tm' : Tm) (h' : Hp) : TEnv → List HP → Prop := fun e L => ∃ ρ', e = denT ρ' tm' ∧ L = objs ρ' h' ∧ Grew h h' ρ ρ' ∧ okTm (dom h') N tm'
theorem evOps_sound (hE : EOk P E) (hG : GOk M G) (hC : CallOk P M call) (hN : N ≤ 1000) : ∀ {l : List Oper} {tm : Tm} {h : Hp} {nx : Nat} {tm' : Tm} {h' : Hp} {nx' : Nat} {ρ : Rho}, okHp h → okTm (dom h) N tm →
    evOps T E G call N arr l tm h nx = some (tm', h', nx') → RunOps P M N arr l (denT ρ tm) (objs ρ h) (KT N h ρ tm' h')
  | [], tm, h, nx, tm', h', nx', ρ, ok, okt, e => by
    simp only [evOps] at e; cases e
    exact ⟨ρ, rfl, rfl, .refl ok, okt⟩
  | o :: l, tm, h, nx, tm', h', nx', ρ, ok, okt, e => by
    simp only [evOps] at e
    simp only [RunOps, stepL]
    split at e
    · rename_i hon
      rw [if_pos (on_wanted okt hon)]
      split at e
      · rename_i x h1 nx1 h1e
        split at e
        · rename_i tm1 hp
          have hs := ev1_sound (P := P) (M := M) hE hG hC ok okt h1e ρ (dst := o.dst) (ty := o.type) (pos := o.pos) (aft := o.after) (gd := o.guard)
          refine hs.mono ?_
          rintro v L' ⟨ρ1, rfl, rfl, g, kx⟩
          have okt1 := okTm_up okt g.dom
          have hd := denT_congr okt g.ext
          obtain ⟨p1, p2⟩ := put_spec (ρ := ρ1) hN hp okt1 kx
          rw [hd, ← p1]
          have ih := evOps_sound (ρ := ρ1) hE hG hC hN g.ok p2 e
          exact RunOps.mono_ ih fun e' L' ⟨ρ2, a, b, c, d⟩ => ⟨ρ2, a, b, g.trans c, d⟩
        · cases e
      · cases e
    · rename_i hon
      rw [if_neg (by rw [on_wanted okt hon]; simp)]
      split at e
      · rename_i tm1 hp
        obtain ⟨p1, p2⟩ := put_spec (ρ := ρ) hN hp okt trivial
        have : den ρ dv = undef := rfl
        rw [← this, ← p1]
        exact evOps_sound hE hG hC hN ok p2 e
      · cases e
    · cases e
end
end Go.Gv
