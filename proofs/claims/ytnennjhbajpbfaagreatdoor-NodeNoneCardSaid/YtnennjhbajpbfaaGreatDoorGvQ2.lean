/- The machine's drawn regions, code and calls are the model's. -/
import Derived.Test.YtnennjhbajpbfaaGreatDoorGvQ
namespace Go.Gv
set_option linter.unusedVariables false
set_option linter.unusedSimpArgs false
set_option linter.unusedSectionVars false

theorem ba_ext {a b : ByteArray} (h : bsOf a = bsOf b) : a = b := by
  apply ByteArray.ext; apply Array.ext'; exact h
theorem arr_nil {α : Type} {a : Array α} (h : a.toList.isEmpty = true) : a = #[] := by apply Array.ext'; simpa using h
mutual
theorem eqSV_eq : ∀ {x y : SV}, eqSV x y = true → x = y
  | .v x, y, e => by
    cases y with
    | v y =>
      simp only [eqSV] at e
      split at e
      · simp only [Bool.and_eq_true, beq_iff_eq] at e
        obtain ⟨rfl, h2⟩ := e
        rw [of_decide_eq_true h2]
      · rw [beq_iff_eq.1 e]
      · rw [ba_ext (u8l_iff.1 e)]
      · rfl
      · rfl
      · rfl
      · rfl
      · rfl
      · simp only [Bool.and_eq_true] at e
        obtain ⟨⟨⟨⟨h1, h2⟩, h3⟩, h4⟩, h5⟩ := e
        rw [Nat.eq_of_beq_eq_true h1, arr_nil h2, arr_nil h3, arr_nil h4, arr_nil h5]
      · simp only [Bool.and_eq_true] at e
        rw [arr_nil e.1, arr_nil e.2]
      · cases e
    | _ => simp [eqSV] at e
  | .p c o, y, e => by
    cases y with
    | p c' o' => simp only [eqSV, Bool.and_eq_true] at e; rw [Nat.eq_of_beq_eq_true e.1, Nat.eq_of_beq_eq_true e.2]
    | _ => simp [eqSV] at e
  | .g c o, y, e => by
    cases y with
    | g c' o' => simp only [eqSV, Bool.and_eq_true] at e; rw [Nat.eq_of_beq_eq_true e.1, Nat.eq_of_beq_eq_true e.2]
    | _ => simp [eqSV] at e
  | .s c o sz n cap lw bk, y, e => by
    cases y with
    | s c' o' sz' n' cap' lw' bk' =>
      simp only [eqSV, Bool.and_eq_true] at e
      obtain ⟨⟨⟨⟨⟨⟨h1, h2⟩, h3⟩, h4⟩, h5⟩, h6⟩, h7⟩ := e
      rw [Nat.eq_of_beq_eq_true h1, Nat.eq_of_beq_eq_true h2, Nat.eq_of_beq_eq_true h3, Nat.eq_of_beq_eq_true h4, beq_iff_eq.1 h5, Nat.eq_of_beq_eq_true h6, Nat.eq_of_beq_eq_true h7]
    | _ => simp [eqSV] at e
  | .m c, y, e => by
    cases y with
    | m c' => simp only [eqSV] at e; rw [Nat.eq_of_beq_eq_true e]
    | _ => simp [eqSV] at e
  | .f fn a b, y, e => by
    cases y with
    | f fn' a' b' =>
      cases fn <;> cases fn' <;> simp only [eqSV] at e <;> first
        | (cases e; done)
        | (simp only [Bool.and_eq_true] at e
           rw [Nat.eq_of_beq_eq_true e.1.1, eqSVs_eq e.1.2, eqSVs_eq e.2])
    | _ => cases fn <;> simp [eqSV] at e
  | .a l, y, e => by
    cases y with
    | a k => simp only [eqSV] at e; rw [eqSVs_eq e]
    | _ => simp [eqSV] at e
  | .t l, y, e => by
    cases y with
    | t k => simp only [eqSV] at e; rw [eqSVs_eq e]
    | _ => simp [eqSV] at e
  | .i t x, y, e => by
    cases y with
    | i t' x' => simp only [eqSV, Bool.and_eq_true] at e; rw [Nat.eq_of_beq_eq_true e.1, eqSV_eq e.2]
    | _ => simp [eqSV] at e
theorem eqSVs_eq : ∀ {l k : List SV}, eqSVs l k = true → l = k
  | [], [], _ => rfl
  | [], _ :: _, e => by simp [eqSVs] at e
  | _ :: _, [], e => by simp [eqSVs] at e
  | x :: l, y :: k, e => by
    simp only [eqSVs, Bool.and_eq_true] at e
    rw [eqSV_eq e.1, eqSVs_eq e.2]
end
theorem eqEs_eq : ∀ {l k : List (SV × SV × Nat)}, eqEs l k = true → l = k
  | [], [], _ => rfl
  | [], _ :: _, e => by simp [eqEs] at e
  | _ :: _, [], e => by simp [eqEs] at e
  | (a, b, c) :: l, (a', b', c') :: k, e => by
    simp only [eqEs, Bool.and_eq_true] at e
    rw [eqSV_eq e.1.1.1, eqSV_eq e.1.1.2, Nat.eq_of_beq_eq_true e.1.2, eqEs_eq e.2]
theorem eqSO_eq {x y : SO} (e : eqSO x y = true) : x = y := by
  cases x <;> cases y <;> simp only [eqSO] at e <;> first
    | (cases e; done)
    | rfl
    | (simp only [Bool.and_eq_true] at e
       rw [Nat.eq_of_beq_eq_true e.1.1.1, eqSVs_eq e.1.1.2, beq_iff_eq.1 e.1.2, Nat.eq_of_beq_eq_true e.2])
    | (simp only [Bool.and_eq_true] at e
       rw [eqEs_eq e.1, Nat.eq_of_beq_eq_true e.2])
    | (simp only [Bool.and_eq_true] at e
       rw [beq_iff_eq.1 e.1.1.1, Nat.eq_of_beq_eq_true e.1.1.2, beq_iff_eq.1 e.1.2, Nat.eq_of_beq_eq_true e.2])
    | (simp only [Bool.and_eq_true] at e
       rw [u8l_iff.1 e.1, Nat.eq_of_beq_eq_true e.2])
theorem eqTri_eq {α : Type} {f : α → α → Bool} (hf : ∀ x y, f x y = true → x = y) : ∀ {s t : Tri α}, eqTri f s t = true → s = t
  | .lf, .lf, _ => rfl
  | .lf, .nd _ _ _, e => by simp [eqTri] at e
  | .nd _ _ _, .lf, e => by simp [eqTri] at e
  | .nd l v r, .nd l' v' r', e => by
    simp only [eqTri, Bool.and_eq_true] at e
    rw [eqTri_eq hf e.1.1, eqTri_eq hf e.1.2]
    have := e.2
    cases v <;> cases v' <;> simp only at this <;> first
      | rfl
      | (cases this; done)
      | (rw [hf _ _ this])
theorem eqSt_eq {a b : Tm × Hp × Nat} (e : eqSt a b = true) : a = b := by
  obtain ⟨a1, a2, a3⟩ := a
  obtain ⟨b1, b2, b3⟩ := b
  simp only [eqSt, Bool.and_eq_true] at e
  rw [eqTri_eq (fun _ _ => eqSV_eq) e.1.2, eqTri_eq (fun x y h => by
    simp only [Bool.and_eq_true] at h
    exact Prod.ext (Nat.eq_of_beq_eq_true h.1) (eqSO_eq h.2)) e.2, Nat.eq_of_beq_eq_true e.1.1]

section
variable {P : Program} {T : TT P} {E : EqT} {G : GT} {M : Heap} {ρ ρ' : Rho} {h h' : Hp} {F : List HP} {w w' : World} {N : Nat} {tm tm' : Tm} {arr : Array Oper} {call : CallF}

theorem put_dst {D : Nat → Prop} {tm1 : Tm} {o : Oper} {v : Value} (hp : denT ρ tm1 = upd (denT ρ tm) o.dst v) : True := trivial
theorem again_sound (hE : EOk P E) (hG : GOk M G) (ok : okHp h) (okt : okTm (dom h) N tm) : ∀ {xs : List Nat}, againS T E G arr tm h xs = true → ∀ x, x ∈ xs → ∀ ox, arr[x]? = some ox → Still P M N arr ox (dstV N (denT ρ tm) ox) (denT ρ tm) (objs ρ h)
  | [], _, x, hx, _, _ => by cases hx
  | y :: xs, e, x, hx, ox, ho => by
    simp only [againS, Bool.and_eq_true] at e
    rcases List.mem_cons.1 hx with rfl | hx
    · have e1 := e.1
      rw [ho] at e1
      simp only at e1
      split at e1
      · rename_i d hon hd
        split at e1
        · rename_i v v' hv hg
          obtain rfl := eqSV_eq e1
          have hdv : dstV N (denT ρ tm) ox = den ρ v := by simp only [dstV, hd, denT, hg]
          rw [hdv]
          refine .inl ⟨on_wanted okt hon, fun F w s => ⟨w, ?_, rfl, .refl w⟩⟩
          rw [rd_fun okt]
          exact (evP_sound (P := P) (M := M) (ρ := ρ) (rd_ok okt) hE hG ok hv).1 F w s _ _ _ _ _
        · cases e1
      · rename_i d hon hd
        split at e1
        · rename_i v' hg
          have hv := eqSV_eq e1
          have hdv : dstV N (denT ρ tm) ox = undef := by simp only [dstV, hd, denT, hg, ← hv]; rfl
          exact .inr ⟨on_wanted okt hon, hdv⟩
        · cases e1
      · cases e1
    · exact again_sound hE hG ok okt e.2 x hx ox ho
theorem RunD.mono' : ∀ {l : Tr} {e : TEnv} {L : List HP} {K K' : TEnv → List HP → Prop}, RunD P M N arr l e L K → (∀ e L, K e L → K' e L) → RunD P M N arr l e L K'
  | .nil, e, L, K, K', h, k => k _ _ h
  | .cons (.rd i) l, e, L, K, K', h, k => let ⟨o, v, a, b, c⟩ := h; ⟨o, v, a, b, RunD.mono' c k⟩
  | .cons (.pu i) l, e, L, K, K', h, k => let ⟨o, v, a, b, c⟩ := h; ⟨o, v, a, b, RunD.mono' c k⟩
  | .cons (.ef i xs) l, e, L, K, K', h, k => by
    obtain ⟨o, a, b⟩ := h
    refine ⟨o, a, ?_⟩
    unfold stepL at b ⊢
    split
    · rename_i hw; rw [if_pos hw] at b; exact b.mono fun _ _ q => ⟨q.1, RunD.mono' q.2 k⟩
    · rename_i hw; rw [if_neg hw] at b; exact ⟨b.1, RunD.mono' b.2 k⟩
  | .alt i xs r1 r2, e, L, K, K', h, k => by
    obtain ⟨⟨o, a, b⟩, c⟩ := h
    refine ⟨⟨o, a, ?_⟩, RunD.mono' c k⟩
    unfold stepL at b ⊢
    split
    · rename_i hw; rw [if_pos hw] at b; exact b.mono fun _ _ q => ⟨q.1, RunD.mono' q.2 k⟩
    · rename_i hw; rw [if_neg hw] at b; exact ⟨b.1, RunD.mono' b.2 k⟩
theorem evTr_sound (hE : EOk P E) (hG : GOk M G) (hC : CallOk P M call) (hN : N ≤ 1000) {base : Option Nat} : ∀ {l : Tr} {tm : Tm} {h : Hp} {nx : Nat} {tm' : Tm} {h' : Hp} {nx' : Nat} {ρ : Rho}, okHp h → okTm (dom h) N tm →
    evTr T E G call N arr base l tm h nx = some (tm', h', nx') → RunD P M N arr l (denT ρ tm) (objs ρ h) (KT N h ρ tm' h')
  | .nil, tm, h, nx, tm', h', nx', ρ, ok, okt, e => by
    simp only [evTr] at e; cases e
    exact ⟨ρ, rfl, rfl, .refl ok, okt⟩
  | .cons (.rd i) l, tm, h, nx, tm', h', nx', ρ, ok, okt, e => by
    simp only [evTr] at e
    split at e
    · rename_i o ho
      split at e
      · rename_i hon
        split at e
        · rename_i x hx
          split at e
          · rename_i tm1 hp
            obtain ⟨s1, s2⟩ := evP_sound (P := P) (M := M) (ρ := ρ) (rd_ok okt) hE hG ok hx
            obtain ⟨p1, p2⟩ := put_spec (ρ := ρ) hN hp okt s2
            refine ⟨o, den ρ x, ho, .inl ⟨on_wanted okt hon, fun F w s => ⟨w, ?_, rfl, .refl w⟩⟩, ?_⟩
            · rw [rd_fun okt]; exact s1 F w s _ _ _ _ _
            · rw [← p1]; exact evTr_sound hE hG hC hN ok p2 e
          · cases e
        · cases e
      · rename_i hon
        split at e
        · rename_i tm1 hp
          obtain ⟨p1, p2⟩ := put_spec (ρ := ρ) hN hp okt trivial
          have hu : den ρ dv = undef := rfl
          refine ⟨o, undef, ho, .inr ⟨on_wanted okt hon, rfl⟩, ?_⟩
          rw [← hu, ← p1]; exact evTr_sound hE hG hC hN ok p2 e
        · cases e
      · cases e
    · cases e
  | .cons (.pu i) l, tm, h, nx, tm', h', nx', ρ, ok, okt, e => by simp [evTr] at e
  | .cons (.ef i xs) l, tm, h, nx, tm', h', nx', ρ, ok, okt, e => by
    simp only [evTr] at e
    split at e
    · rename_i o ho
      refine ⟨o, ho, ?_⟩
      unfold stepL
      split at e
      · rename_i hon
        rw [if_pos (on_wanted okt hon)]
        split at e
        · rename_i x h1 nx1 h1e
          split at e
          · rename_i tm1 hp
            cases hag : againS T E G arr tm1 h1 xs with
            | false => rw [hag] at e; cases e
            | true =>
              rw [hag] at e
              simp only [cond_true] at e
              have hs := ev1_sound (P := P) (M := M) hE hG hC ok okt h1e ρ (dst := o.dst) (ty := o.type) (pos := o.pos) (aft := o.after) (gd := o.guard)
              refine hs.mono ?_
              rintro v L' ⟨ρ1, rfl, rfl, g, kx⟩
              have okt1 := okTm_up okt g.dom
              have hd := denT_congr okt g.ext
              obtain ⟨p1, p2⟩ := put_spec (ρ := ρ1) hN hp okt1 kx
              rw [hd, ← p1]
              exact ⟨.inr (again_sound hE hG g.ok p2 hag), RunD.mono' (evTr_sound (ρ := ρ1) hE hG hC hN g.ok p2 e) fun e' L' ⟨ρ2, a, b, c, d⟩ => ⟨ρ2, a, b, g.trans c, d⟩⟩
          · cases e
        · cases e
      · rename_i hon
        rw [if_neg (by rw [on_wanted okt hon]; simp)]
        split at e
        · rename_i tm1 hp
          cases hag : againS T E G arr tm1 h xs with
          | false => rw [hag] at e; cases e
          | true =>
            rw [hag] at e
            simp only [cond_true] at e
            obtain ⟨p1, p2⟩ := put_spec (ρ := ρ) hN hp okt trivial
            have hu : den ρ dv = undef := rfl
            rw [← hu, ← p1]
            exact ⟨.inr (again_sound hE hG ok p2 hag), evTr_sound hE hG hC hN ok p2 e⟩
        · cases e
      · cases e
    · cases e
  | .alt i xs r1 r2, tm, h, nx, tm', h', nx', ρ, ok, okt, e => by
    simp only [evTr] at e
    split at e
    · rename_i o ho
      split at e
      · rename_i hon
        split at e
        · rename_i x h1 nx1 h1e
          split at e
          · rename_i tm1 hp
            cases hag : againS T E G arr tm1 h1 xs with
            | false => rw [hag] at e; cases e
            | true =>
              rw [hag] at e
              simp only [cond_true] at e
              split at e
              · rename_i a b ha hb
                cases heq : eqSt a b with
                | false => rw [heq] at e; cases e
                | true =>
                  rw [heq] at e
                  cases e
                  obtain rfl := eqSt_eq heq
                  refine ⟨⟨o, ho, ?_⟩, evTr_sound hE hG hC hN ok okt hb⟩
                  unfold stepL
                  rw [if_pos (on_wanted okt hon)]
                  have hs := ev1_sound (P := P) (M := M) hE hG hC ok okt h1e ρ (dst := o.dst) (ty := o.type) (pos := o.pos) (aft := o.after) (gd := o.guard)
                  refine hs.mono ?_
                  rintro v L' ⟨ρ1, rfl, rfl, g, kx⟩
                  have okt1 := okTm_up okt g.dom
                  have hd := denT_congr okt g.ext
                  obtain ⟨p1, p2⟩ := put_spec (ρ := ρ1) hN hp okt1 kx
                  rw [hd, ← p1]
                  exact ⟨.inr (again_sound hE hG g.ok p2 hag), RunD.mono' (evTr_sound (ρ := ρ1) hE hG hC hN g.ok p2 ha) fun e' L' ⟨ρ2, a, b, c, d⟩ => ⟨ρ2, a, b, g.trans c, d⟩⟩
              · cases e
          · cases e
        · cases e
      · cases e
    · cases e

def exOf : Ex → Exit
  | .nor => .normal
  | .ret => .ret
  | .ex id => .exit id
def KC (N : Nat) (h : Hp) (ρ : Rho) (x : Ex) (tm' : Tm) (h' : Hp) : Exit → TEnv → List HP → Prop := fun y e L => y = exOf x ∧ KT N h ρ tm' h' e L
def drawsOk (D : List (Nat × Tr)) : Code → Bool
  | .region id ops true => match trOf D id with
    | some tr => Nat.ble tr.depth ops.size && okSt ops (ancOf ops) [] tr
    | none => true
  | .seq a b => drawsOk D a && drawsOk D b
  | .cond _ a b => drawsOk D a && drawsOk D b
  | .block _ b => drawsOk D b
  | .loop b => drawsOk D b
  | _ => true
def StepOk (P : Program) (M : Heap) (N : Nat) (c : Code) (f : Tm → Hp → Nat → Option (Ex × Tm × Hp × Nat)) : Prop :=
  ∀ {tm : Tm} {h : Hp} {nx : Nat} {x : Ex} {tm' : Tm} {h' : Hp} {nx' : Nat} {ρ : Rho}, okHp h → okTm (dom h) N tm → f tm h nx = some (x, tm', h', nx') → Run P M N c (denT ρ tm) (objs ρ h) (KC N h ρ x tm' h')
theorem KC.trans {h1 : Hp} {ρ1 : Rho} {x : Ex} (g : Grew h h1 ρ ρ1) {y : Exit} {e : TEnv} {L : List HP} (k : KC N h1 ρ1 x tm' h' y e L) : KC N h ρ x tm' h' y e L :=
  let ⟨a, ρ2, b, c, d, f⟩ := k; ⟨a, ρ2, b, c, g.trans d, f⟩
theorem iter_ne {f : Tm → Hp → Nat → Option (Ex × Tm × Hp × Nat)} : ∀ {n : Nat} {tm : Tm} {h : Hp} {nx : Nat} {x : Ex} {tm' : Tm} {h' : Hp} {nx' : Nat}, iter f n tm h nx = some (x, tm', h', nx') → exOf x ≠ .normal
  | 0, tm, h, nx, x, tm', h', nx', e => by simp [iter] at e
  | n + 1, tm, h, nx, x, tm', h', nx', e => by
    simp only [iter] at e
    split at e
    · exact iter_ne e
    · rename_i y hne hy
      cases e
      intro q
      cases x with
      | nor => exact hne _ _ _ rfl
      | ret => cases q
      | ex id => cases q
    · cases e
theorem iter_sound {c : Code} {f : Tm → Hp → Nat → Option (Ex × Tm × Hp × Nat)} (hf : StepOk P M N c f) {n : Nat} : StepOk P M N (.loop c) (iter f n) := by
  intro tm h nx x tm' h' nx' ρ ok okt e
  refine Run.loop (fun m e0 L0 => ∃ tm1 h1 nx1 ρ1, iter f m tm1 h1 nx1 = some (x, tm', h', nx') ∧ e0 = denT ρ1 tm1 ∧ L0 = objs ρ1 h1 ∧ Grew h h1 ρ ρ1 ∧ okTm (dom h1) N tm1) ?_ (n0 := n) ⟨tm, h, nx, ρ, e, rfl, rfl, .refl ok, okt⟩
  rintro m e0 L0 ⟨tm1, h1, nx1, ρ1, hit, rfl, rfl, g, okt1⟩
  cases m with
  | zero => simp [iter] at hit
  | succ m =>
    simp only [iter] at hit
    split at hit
    · rename_i tm2 h2 nx2 hs
      refine (hf g.ok okt1 hs).mono ?_
      rintro y e2 L2 ⟨rfl, ρ2, rfl, rfl, g2, okt2⟩
      exact ⟨m, Nat.lt_succ_self m, tm2, h2, nx2, ρ2, hit, rfl, rfl, g.trans g2, okt2⟩
    · rename_i y hne hs
      cases hit
      refine (hf g.ok okt1 hs).mono ?_
      rintro y e2 L2 ⟨rfl, k⟩
      cases x with
      | nor => exact absurd rfl (hne _ _ _)
      | ret => exact KC.trans g ⟨rfl, k⟩
      | ex id => exact KC.trans g ⟨rfl, k⟩
    · cases hit
theorem evC_sound (hE : EOk P E) (hG : GOk M G) (hC : CallOk P M call) (hm : P.follows .mixedOrders = true) (hN : N ≤ 1000) {D : List (Nat × Tr)} : ∀ (c : Code), drawsOk D c = true → StepOk P M N c (evC T E G call N D c) := by
  intro c
  induction c with
  | skip =>
    intro _ tm h nx x tm' h' nx' ρ ok okt e
    simp only [evC] at e; cases e
    exact Run.skip ⟨rfl, ρ, rfl, rfl, .refl ok, okt⟩
  | region id ops draw =>
    intro hd tm h nx x tm' h' nx' ρ ok okt e
    cases draw with
    | false =>
      simp only [evC] at e
      split at e
      · rename_i tm1 h1 nx1 hs
        cases e
        exact Run.region (RunOps.mono_ (evOps_sound hE hG hC hN ok okt hs) fun e L k => ⟨rfl, k⟩)
      · cases e
    | true =>
      simp only [evC] at e
      simp only [drawsOk] at hd
      split at e
      · rename_i tr htr
        rw [htr] at hd
        simp only at hd
        split at e
        · rename_i tm1 h1 nx1 hs
          cases e
          refine Run.regionD hm tr hd ?_
          have hs' : ∃ base nx0, evTr T E G call N ops base tr tm h nx0 = some (tm', h', nx') := by
            cases ha : tr.alts with
            | true => rw [ha] at hs; exact ⟨_, _, hs⟩
            | false => rw [ha] at hs; exact ⟨_, _, hs⟩
          obtain ⟨base, nx0, hs'⟩ := hs'
          exact RunD.mono' (evTr_sound hE hG hC hN ok okt hs') fun e L k => ⟨rfl, k⟩
        · cases e
      · cases e
  | seq a b iha ihb =>
    intro hd tm h nx x tm' h' nx' ρ ok okt e
    simp only [drawsOk, Bool.and_eq_true] at hd
    simp only [evC] at e
    split at e
    · rename_i tm1 h1 nx1 hs
      refine Run.seq ((iha hd.1 ok okt hs).mono ?_)
      rintro y e2 L2 ⟨rfl, ρ2, rfl, rfl, g2, okt2⟩
      exact (ihb hd.2 g2.ok okt2 e).mono fun y e3 L3 k => KC.trans g2 k
    · rename_i y hne hs
      cases e
      refine Run.seq ((iha hd.1 ok okt hs).mono ?_)
      rintro y e2 L2 ⟨rfl, k⟩
      cases x with
      | nor => exact absurd rfl (hne _ _ _)
      | ret => exact ⟨rfl, k⟩
      | ex id => exact ⟨rfl, k⟩
    · cases e
  | cond c a b iha ihb =>
    intro hd tm h nx x tm' h' nx' ρ ok okt e
    simp only [drawsOk, Bool.and_eq_true] at hd
    simp only [evC] at e
    split at e
    · rename_i hc
      exact Run.cond (b := true) (by rw [rd_ev okt, hc]; rfl) (fun _ => iha hd.1 ok okt e) (fun q => by cases q)
    · rename_i hc
      exact Run.cond (b := false) (by rw [rd_ev okt, hc]; rfl) (fun q => by cases q) (fun _ => ihb hd.2 ok okt e)
    · cases e
  | block id b ih =>
    intro hd tm h nx x tm' h' nx' ρ ok okt e
    simp only [drawsOk] at hd
    simp only [evC] at e
    split at e
    · rename_i j tm1 h1 nx1 hs
      refine Run.block ((ih hd ok okt hs).mono ?_)
      rintro y e2 L2 ⟨rfl, k⟩
      cases hb : Nat.beq j id with
      | true =>
        rw [hb] at e
        cases e
        obtain rfl := Nat.eq_of_beq_eq_true hb
        show (if j = j then _ else _)
        rw [if_pos rfl]
        exact ⟨rfl, k⟩
      | false =>
        rw [hb] at e
        cases e
        have hne : ¬ j = id := fun q => by rw [q] at hb; simp at hb
        show (if j = id then _ else _)
        rw [if_neg hne]
        exact ⟨rfl, k⟩
    · rename_i y hne hs
      cases e
      refine Run.block ((ih hd ok okt hs).mono ?_)
      rintro y e2 L2 ⟨rfl, k⟩
      cases x with
      | nor => exact ⟨rfl, k⟩
      | ret => exact ⟨rfl, k⟩
      | ex id => exact absurd rfl (hne _ _ _ _)
    · cases e
  | loop b ih =>
    intro hd tm h nx x tm' h' nx' ρ ok okt e
    simp only [drawsOk] at hd
    simp only [evC] at e
    exact iter_sound (fun {tm h nx x tm' h' nx' ρ} a b c => ih hd a b c) ok okt e
  | exit id =>
    intro _ tm h nx x tm' h' nx' ρ ok okt e
    simp only [evC] at e; cases e
    exact Run.exit ⟨rfl, ρ, rfl, rfl, .refl ok, okt⟩
  | ret =>
    intro _ tm h nx x tm' h' nx' ρ ok okt e
    simp only [evC] at e; cases e
    exact Run.ret ⟨rfl, ρ, rfl, rfl, .refl ok, okt⟩
  | _ =>
    intro _ tm h nx x tm' h' nx' ρ ok okt e
    simp [evC] at e
end
end Go.Gv
