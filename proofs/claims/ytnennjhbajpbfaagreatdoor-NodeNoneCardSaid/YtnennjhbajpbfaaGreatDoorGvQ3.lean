/- The machine's functions are the model's. -/
import Derived.Test.YtnennjhbajpbfaaGreatDoorGvQ2
namespace Go.Gv
set_option linter.unusedVariables false
set_option linter.unusedSimpArgs false
set_option linter.unusedSectionVars false

section
variable {P : Program} {T : TT P} {E : EqT} {G : GT} {M : Heap} {ρ ρ' : Rho} {h h' : Hp} {F : List HP} {w w' : World} {N : Nat} {tm tm' : Tm}

theorem args0_get : ∀ (l : List SV) (i : Nat) (tm : Tm), i + l.length ≤ 1000 → ∀ t, (args0 l i tm).get t = if i ≤ t ∧ t < i + l.length then l[t - i]? else tm.get t
  | [], i, tm, _, t => by
    rw [args0, if_neg (by simp only [List.length_nil]; omega)]
  | x :: l, i, tm, hl, t => by
    simp only [List.length_cons] at hl ⊢
    rw [args0, args0_get l (i + 1) _ (by omega)]
    by_cases h1 : i + 1 ≤ t ∧ t < i + 1 + l.length
    · rw [if_pos h1, if_pos (by omega)]
      rw [show t - i = (t - (i + 1)) + 1 by omega]; rfl
    · rw [if_neg h1]
      by_cases h2 : t = i
      · subst h2
        rw [Tri.get_set_eq _ _ _ _ (p10 (by omega)), if_pos (by omega)]; simp
      · rw [Tri.get_set_ne _ _ _ _ _ h2, if_neg (by omega)]
theorem args0_den {args : List SV} (hl : args.length ≤ 1000) : denT ρ (args0 args 0 .lf) = e0 (dens ρ args) := by
  funext t
  simp only [denT, e0]
  rw [args0_get args 0 .lf (by omega)]
  by_cases h : t < args.length
  · rw [if_pos (by omega)]
    simp only [Nat.sub_zero, List.getElem?_eq_getElem h]
    rw [List.getD_eq_getElem?_getD, dens_map, List.getElem?_map, List.getElem?_eq_getElem h]; rfl
  · rw [if_neg (by omega)]
    rw [List.getD_eq_getElem?_getD, List.getElem?_eq_none (by rw [dens_len]; omega)]; rfl
theorem args0_ok {D : Nat → Prop} {args : List SV} (hl : args.length ≤ N) (hN : N ≤ 1000) (hk : okVs D args) : okTm D N (args0 args 0 .lf) := by
  intro t x hx
  rw [args0_get args 0 .lf (by omega)] at hx
  split at hx
  · rename_i h
    simp only [Nat.sub_zero] at hx
    exact ⟨okVs_mem hk hx, by omega⟩
  · cases hx
theorem resS_sound (hG : GOk M G) (ok : okHp h) (okt : okTm (dom h) N tm) : ∀ {rs : List ResultVar} {vs : List SV}, resS T G tm h rs = some vs → (∀ F w, Sat M (objs ρ h ++ F) w → (rs.mapM (resOne (actOf N (denT ρ tm)).tmps)).run P w = .ok (dens ρ vs) w) ∧ okVs (dom h) vs
  | [], vs, e => by simp only [resS] at e; cases e; exact ⟨fun F w s => rfl, trivial⟩
  | .tmp t :: rs, vs, e => by
    simp only [resS] at e
    split at e
    · rename_i x r hx hr
      cases e
      obtain ⟨h1, h2⟩ := resS_sound hG ok okt hr
      refine ⟨fun F w s => ?_, (okt t x hx).1, h2⟩
      have hv : (actOf N (denT ρ tm)).tmps.getD t undef = den ρ x := by
        have := congrFun (actOf_eval N (denT ρ tm)) (.tmp t)
        rw [rd_ev okt] at this
        simp only [rd, hx] at this
        exact this
      rw [List.mapM_cons]
      simp only [resOne, Sem.run_bind, hv, Sem.run_pure, Result.andThen_ok, h1 F w s, dens]
    · cases e
  | .cell t ty :: rs, vs, e => by
    simp only [resS] at e
    split at e
    · rename_i x ag n r hx ht hr
      split at e
      · rename_i y hy
        cases e
        obtain ⟨h1, h2⟩ := resS_sound hG ok okt hr
        obtain ⟨g1, g2⟩ := loadS_sound (ρ := ρ) hG ok ht hy
        refine ⟨fun F w s => ?_, g2, h2⟩
        obtain ⟨a, ha, hl⟩ := g1 F w s
        have hv : (actOf N (denT ρ tm)).tmps.getD t undef = .pointer (some a) := by
          have := congrFun (actOf_eval N (denT ρ tm)) (.tmp t)
          rw [rd_ev okt] at this
          simp only [rd, hx] at this
          exact this.trans ha
        rw [List.mapM_cons]
        simp only [resOne, Sem.run_bind, hv, asAddr, Sem.run_pure, Result.andThen_ok, hl, h1 F w s, dens]
      · cases e
    · cases e
theorem ret1_den (vs : List SV) : den ρ (ret1 vs) = retOf (dens ρ vs) := by
  cases vs with
  | nil => rfl
  | cons x l => cases l with
    | nil => rfl
    | cons y l => simp [ret1, retOf, dens, den]
theorem ret1_ok {D : Nat → Prop} {vs : List SV} (k : okVs D vs) : okV D (ret1 vs) := by
  cases vs with
  | nil => exact trivial
  | cons x l => cases l with
    | nil => exact k.1
    | cons y l => exact k

theorem Pick.whole : ∀ (L : List HP), Pick L L []
  | [] => .nil
  | _ :: L => .cons .here (Pick.whole L)
def FOk (P : Program) (F : FT) : Prop := ∀ k fn D, F k = some (fn, D) → P.funcs[k]? = some fn ∧ Enters P k ∧ ∀ c, fn.body = some c → drawsOk D c = true
def XOk (P : Program) (M : Heap) (X : XT) : Prop := ∀ k f, X k = some f → ∀ args h nx x h' nx', f args h nx = some (x, h', nx') → okHp h → okVs (dom h) args → ∀ ρ, opT P M (callFunc k (dens ρ args).toArray) (objs ρ h) (KO h ρ x h')
theorem evF_sound (hE : EOk P E) (hG : GOk M G) (hm : P.follows .mixedOrders = true) {Ft : FT} (hF : FOk P Ft) {X : XT} (hX : XOk P M X) : ∀ d, CallOk P M (evF T E G Ft X d) := by
  intro d
  induction d with
  | zero => intro k args h nx x h' nx' e; simp [evF] at e
  | succ d ih =>
    intro k args h nx x h' nx' e ok hk ρ
    simp only [evF] at e
    split at e
    · rename_i f hf
      exact hX k f hf args h nx x h' nx' e ok hk ρ
    · split at e
      · rename_i fn D hfn
        obtain ⟨hf, hen, hd⟩ := hF k fn D hfn
        split at e
        · rename_i c hc
          cases hb : (Nat.ble args.length fn.ntmps && Nat.ble fn.ntmps 1000) with
          | false => rw [hb] at e; cases e
          | true =>
            rw [hb] at e
            simp only [cond_true] at e
            rw [Bool.and_eq_true] at hb
            have hl := Nat.le_of_ble_eq_true hb.1
            have hN := Nat.le_of_ble_eq_true hb.2
            have key : ∀ y tm1 h1 nx1, evC T E G (evF T E G Ft X d) fn.ntmps D c (args0 args 0 .lf) h nx = some (y, tm1, h1, nx1) → (∀ id, y ≠ .ex id) → ∀ vs, resS T G tm1 h1 fn.results.toList = some vs →
                opT P M (callFunc k (dens ρ args).toArray) (objs ρ h) (KO h ρ (ret1 vs) h1) := by
              intro y tm1 h1 nx1 hev hne vs hvs
              have okt := args0_ok (D := dom h) hl hN hk
              have hrun := evC_sound (P := P) hE hG ih hm hN c (hd c hc) ok okt hev (ρ := ρ)
              have S : Spec P M k (dens ρ args) (objs ρ h) (KO h ρ (ret1 vs) h1) := by
                refine Spec.of_run hf hc (N := fn.ntmps) (by rw [dens_len]; omega) ?_
                rw [← args0_den (by omega)]
                refine hrun.mono ?_
                rintro z e' L' ⟨rfl, ρ1, rfl, rfl, g, okt1⟩
                obtain ⟨q1, q2⟩ := resS_sound (P := P) (ρ := ρ1) hG g.ok okt1 hvs
                have fin : ∀ F w, Sat M (objs ρ1 h1 ++ F) w → ∃ v L2, (results fn (actOf fn.ntmps (denT ρ1 tm1)).tmps).run P w = .ok v w ∧ Sat M (L2 ++ F) w ∧ KO h ρ (ret1 vs) h1 v L2 := by
                  intro F w s
                  refine ⟨retOf (dens ρ1 vs), objs ρ1 h1, ?_, s, ρ1, (ret1_den vs).symm, rfl, g, ret1_ok q2⟩
                  have e1 : results fn (actOf fn.ntmps (denT ρ1 tm1)).tmps = (do
                    let vs ← fn.results.mapM (resOne (actOf fn.ntmps (denT ρ1 tm1)).tmps)
                    pure (if h : vs.size = 1 then vs[0] else .tuple vs)) := by
                    unfold results
                    congr 2
                  rw [e1, Array.mapM_eq_mapM_toList]
                  simp only [Sem.run_bind, Sem.run_map]
                  rw [q1 F w s]
                  simp only [Result.andThen_ok, Sem.run_pure]
                  congr 1
                  generalize dens ρ1 vs = us
                  by_cases h2 : us.length = 1
                  · obtain ⟨v, rfl⟩ := List.length_eq_one_iff.1 h2
                    rfl
                  · rw [dif_neg (by simpa using h2)]
                    unfold retOf
                    split
                    · exact absurd rfl h2
                    · rfl
                cases y with
                | nor => exact fin
                | ret => exact fin
                | ex id => exact absurd rfl (hne id)
              refine opT.enter (R := []) hen (Pick.whole _) S fun v L1 k => ?_
              rw [List.append_nil]; exact k
            split at e
            · cases e
            · rename_i y tm1 h1 nx1 hne hev
              split at e
              · rename_i vs hvs
                cases e
                exact key y _ _ _ hev (fun id q => by subst q; exact hne _ rfl) vs hvs
              · cases e
            · cases e
        · cases e
      · cases e

/-- **What a run of the machine from nothing shows.** -/
theorem Spec.of_ev (hE : EOk P E) (hG : GOk M G) (hm : P.follows .mixedOrders = true) {Ft : FT} (hF : FOk P Ft) {X : XT} (hX : XOk P M X) {d k : Nat} {args : List Value} {v : Value} {h' : Hp} {nx' : Nat}
    (hen : Enters P k) (e : evF T E G Ft X d k (args.map .v) .lf 0 = some (.v v, h', nx')) : Spec P M k args [] fun r _ => r = v := by
  have ok : okHp (.lf : Hp) := fun n c o q => by cases q
  have hs := evF_sound (M := M) hE hG hm hF hX d k (args.map .v) .lf 0 _ _ _ e ok (okVs_v _) (fun _ => ⟨0, 0, 0⟩)
  rw [dens_v] at hs
  intro F w s
  have := hs F w (by simpa [objs] using s)
  rw [hen] at this
  refine Calls.mono this ?_
  rintro e w' ⟨r, L', rfl, h1, h2, ρ', rfl, rfl, _, _⟩
  exact ⟨_, _, rfl, h1, h2, rfl⟩
end
end Go.Gv
