/- The machine's reads are the model's: places, slice expressions, lengths. -/
import Derived.Test.YtnennjhbajpbfaaGreatDoorGvY4
namespace Go.Gv
set_option linter.unusedVariables false
set_option linter.unusedSimpArgs false
set_option linter.unusedSectionVars false

section
variable {P : Program} {T : TT P} {E : EqT} {G : GT} {M : Heap} {ρ : Rho} {h : Hp} {F : List HP} {w : World}

theorem natOf_eq {x : SV} {n : Nat} (e : natOf x = some n) : ∃ k, x = .v (.int k n) := by
  unfold natOf at e
  split at e
  · cases e; exact ⟨_, rfl⟩
  · cases e
def natV : Option Value → Option Nat → Prop
  | none, none => True
  | some v, some n => ∃ k, v = .int k n
  | _, _ => False
theorem natO_spec {r : Operand → SV} {xo : Option Operand} {n : Option Nat} (e : natO r xo = some n) : natV (xo.map fun y => den ρ (r y)) n := by
  unfold natO at e
  split at e
  · cases e; trivial
  · split at e
    · rename_i k hk
      cases e
      obtain ⟨kd, hx⟩ := natOf_eq hk
      exact ⟨kd, by show den ρ (r _) = _; rw [hx]; rfl⟩
    · cases e
theorem bnd {v : Value} {k : IntKind} {n y : Nat} {c : BoundsCode} (hv : v = .int k n) (hle : n ≤ y) (w : World) : (Instr.sliceBound v y c).run P w = .ok n w := by
  have := bound_run (P := P) (c := c) hv (by omega) (show (n : Int) ≤ y by omega) w
  simpa using this
theorem bounds_run {isS : Bool} {len cap : Nat} {lv hv mv : Option Value} {lo hi mx : Option Nat} (hl : natV lv lo) (hh : natV hv hi) (hm : natV mv mx) (hmh : mx.isSome = true → hi.isSome = true)
    (b1 : lo.getD 0 ≤ hi.getD len) (b3 : hi.getD len ≤ mx.getD cap) (b5 : mx.getD cap ≤ cap) (w : World) : (Instr.sliceBounds isS len cap lv hv mv).run P w = .ok (lo.getD 0, hi.getD len, mx.getD cap) w := by
  unfold Instr.sliceBounds
  cases mv with
  | none =>
    cases mx with
    | some _ => exact hm.elim
    | none =>
      cases hv with
      | none =>
        cases hi with
        | some _ => exact hh.elim
        | none =>
          cases lv with
          | none => cases lo with
            | some _ => exact hl.elim
            | none => simp
          | some l => cases lo with
            | none => exact hl.elim
            | some l' =>
              obtain ⟨k, e⟩ := hl
              simp only [Option.getD_some, Option.getD_none] at b1
              simp [bnd e b1]
      | some v =>
        cases hi with
        | none => exact hh.elim
        | some v' =>
          obtain ⟨k2, e2⟩ := hh
          simp only [Option.getD_some, Option.getD_none] at b3 b1
          cases lv with
          | none => cases lo with
            | some _ => exact hl.elim
            | none => cases isS <;> simp [bnd e2 b3]
          | some l => cases lo with
            | none => exact hl.elim
            | some l' =>
              obtain ⟨k, e⟩ := hl
              simp only [Option.getD_some] at b1
              cases isS <;> simp [bnd e2 b3, bnd e b1]
  | some m =>
    cases mx with
    | none => exact hm.elim
    | some m' =>
      obtain ⟨k3, e3⟩ := hm
      simp only [Option.getD_some] at b3 b5
      cases hv with
      | none => cases hi with
        | some _ => exact hh.elim
        | none => exact absurd (hmh rfl) (by simp)
      | some v =>
        cases hi with
        | none => exact hh.elim
        | some v' =>
          obtain ⟨k2, e2⟩ := hh
          simp only [Option.getD_some] at b3 b1
          cases lv with
          | none => cases lo with
            | some _ => exact hl.elim
            | none => cases isS <;> simp [bnd e3 b5, bnd e2 b3]
          | some l => cases lo with
            | none => exact hl.elim
            | some l' =>
              obtain ⟨k, e⟩ := hl
              simp only [Option.getD_some] at b1
              cases isS <;> simp [bnd e3 b5, bnd e2 b3, bnd e b1]

variable {r : Operand → SV} (hr : ∀ y, okV (dom h) (r y))
include hr

theorem evP_index {t : Nat} {x ix : Operand} {y : SV} (e : evP T E G h r (.index t x ix) = some y) : PuOk P M ρ h r (.index t x ix) y := by
  simp only [evP] at e
  split at e
  · rename_i i s hi hx
    obtain ⟨k, hix⟩ := natOf_eq hi
    cases hb : isStringT T t with
    | false => rw [hb] at e; cases e
    | true =>
      rw [hb] at e
      simp only [cond_true] at e
      split at e
      · rename_i b hs
        cases e
        refine ⟨fun F w sat dst ty pos aft gd => ?_, trivial⟩
        have h2 : s[i]? = some b := by
          have hlt : i < (bsOf s).length := (List.getElem?_eq_some_iff.1 hs).1
          have hlt2 : i < s.size := by simpa [bsOf] using hlt
          rw [getElem?_pos s i hlt2]
          have := (List.getElem?_eq_some_iff.1 hs).2
          rw [← this]
          simp [bsOf, ByteArray.getElem_eq_getElem_data]
        have h3 : (if (0 : Int) ≤ (i : Int) then s[(i : Int).toNat]? else none) = some b := by
          rw [if_pos (by omega)]; simpa using h2
        simp only [execOp, hx, hix, den, Instr.index, asIntOf, Sem.run_bind, Sem.run_pure, Result.andThen_ok, isStr hr hb w, h3]
      · cases e
  · cases e
theorem evP_indexAddr {t : Nat} {x ix : Operand} {y : SV} (e : evP T E G h r (.indexAddr t x ix) = some y) : PuOk P M ρ h r (.indexAddr t x ix) y := by
  simp only [evP] at e
  split at e
  · rename_i i hi
    obtain ⟨k, hix⟩ := natOf_eq hi
    have ex : ∀ dst ty pos aft gd, execOp (fun y => den ρ (r y)) ⟨dst, .indexAddr t x ix, ty, pos, aft, gd⟩ = (do pure (.value (← Instr.indexAt t (den ρ (r x)) (.int k i)))) := fun dst ty pos aft gd => by
      have : den ρ (r ix) = .int k i := by rw [hix]; rfl
      rw [← this]; rfl
    unfold idxS at e
    split at e
    · rename_i c o sz n cap lw bk hx
      split at e
      · rename_i el sz' by_ hel
        cases hb : (Nat.beq sz sz' && Nat.blt i n && sureS o sz cap lw) with
        | false => rw [hb] at e; cases e
        | true =>
          rw [hb] at e
          cases e
          rw [Bool.and_eq_true, Bool.and_eq_true] at hb
          obtain rfl := Nat.eq_of_beq_eq_true hb.1.1
          have hlt : i < n := by simpa using hb.1.2
          obtain ⟨h2, h3, _⟩ := elemT_spec hel
          have kx := hr x
          rw [hx] at kx
          refine ⟨fun F w sat dst ty pos aft gd => ?_, kx⟩
          have h0 : (0 : Int) ≤ (i : Int) := by omega
          have h1 : (i : Int) < (n : Int) := by omega
          rw [ex, hx]
          simp only [den, sure_off hb.2, Instr.indexAt, asIntOf, Sem.run_bind, Sem.run_pure, Result.andThen_ok, h2, h0, h1, and_self, if_true, h3, add_none, Int.toNat_natCast, Nat.add_assoc]
      · cases e
    all_goals first
      | (cases e; done)
      | (rename_i c o hx
         split at e
         · rename_i ti hti
           split at e
           · rename_i n el hd
             split at e
             · rename_i te hte
               cases hb : Nat.blt i n with
               | false => rw [hb] at e; cases e
               | true =>
                 rw [hb] at e
                 cases e
                 have hlt : i < n := by simpa using hb
                 have h0 : (0 : Int) ≤ (i : Int) := by omega
                 have h1 : (i : Int) < (n : Int) := by omega
                 have kx := hr x
                 rw [hx] at kx
                 refine ⟨fun F w sat dst ty pos aft gd => ?_, kx⟩
                 rw [ex, hx]
                 simp only [den, Instr.indexAt, asIntOf, Sem.run_bind, Sem.run_pure, Result.andThen_ok, run_und hti, hd, Instr.sureAddr, h0, h1, and_self, if_true, TT.siz hte, add_none, Int.toNat_natCast, Nat.add_assoc]
             · cases e
           · cases e
         · cases e)
  · cases e
theorem evP_slice {t : Nat} {x : Operand} {lo hi mx : Option Operand} {y : SV} (e : evP T E G h r (.slice t x lo hi mx) = some y) : PuOk P M ρ h r (.slice t x lo hi mx) y := by
  simp only [evP] at e
  split at e
  · rename_i a b m ha hb hm
    have va := natO_spec (ρ := ρ) ha
    have vb := natO_spec (ρ := ρ) hb
    have vm := natO_spec (ρ := ρ) hm
    have ex : ∀ dst ty pos aft gd, execOp (fun y => den ρ (r y)) ⟨dst, .slice t x lo hi mx, ty, pos, aft, gd⟩ = (do pure (.value (← Instr.sliceAt t (den ρ (r x)) (lo.map fun y => den ρ (r y)) (hi.map fun y => den ρ (r y)) (mx.map fun y => den ρ (r y))))) := fun dst ty pos aft gd => rfl
    generalize lo.map (fun y => den ρ (r y)) = lv at va ex
    generalize hi.map (fun y => den ρ (r y)) = hv at vb ex
    generalize mx.map (fun y => den ρ (r y)) = mv at vm ex
    have kx := hr x
    unfold sliceS at e
    split at e
    · -- a string
      rename_i s hx
      split at e
      · cases e
      · have hmv : mv = none := by cases mv with
          | none => rfl
          | some _ => exact vm.elim
        subst hmv
        simp only at e
        cases hbo : (isStringT T t && Nat.ble (a.getD 0) (b.getD (bsOf s).length) && Nat.ble (b.getD (bsOf s).length) (bsOf s).length) with
        | false => rw [hbo] at e; cases e
        | true =>
          rw [hbo] at e
          cases e
          rw [Bool.and_eq_true, Bool.and_eq_true] at hbo
          have h1 := Nat.le_of_ble_eq_true hbo.1.2
          have h2 := Nat.le_of_ble_eq_true hbo.2
          have hsz : (bsOf s).length = s.size := by simp [bsOf]
          rw [hsz] at h1 h2
          refine ⟨fun F w sat dst ty pos aft gd => ?_, trivial⟩
          have hbd := bounds_run (P := P) (isS := false) (len := s.size) (cap := s.size) va vb vm (by simp) h1 h2 (by simp) w
          rw [ex, hx]
          simp only [den, Instr.sliceAt, Instr.slice, Sem.run_bind, isStr hr hbo.1.1 w, Result.andThen_ok, Option.isSome_none, Bool.false_eq_true, if_false, hbd, Sem.run_pure]
          congr 2
          unfold mkS
          congr 1
          apply ByteArray.ext
          apply Array.ext'
          simp [bsOf, hsz, Array.toList_extract]
    · -- nil
      rename_i hx
      split at e
      · rename_i q hel
        obtain ⟨el, sz, by_⟩ := q
        obtain ⟨hu, hs, _⟩ := elemT_spec hel
        cases hbo : (Nat.beq (a.getD 0) 0 && Nat.beq (b.getD 0) 0 && Nat.beq (m.getD 0) 0 && (m.isNone || b.isSome)) with
        | false => rw [hbo] at e; cases e
        | true =>
          rw [hbo] at e
          cases e
          simp only [Bool.and_eq_true] at hbo
          obtain ⟨⟨⟨h1, h2⟩, h3⟩, h4⟩ := hbo
          have h1 := Nat.eq_of_beq_eq_true h1
          have h2 := Nat.eq_of_beq_eq_true h2
          have h3 := Nat.eq_of_beq_eq_true h3
          refine ⟨fun F w sat dst ty pos aft gd => ?_, kx⟩
          have hbd := bounds_run (P := P) (isS := true) (len := 0) (cap := 0) va vb vm (by cases m <;> simp_all) (by omega) (by omega) (by omega) w
          rw [h1, h2, h3] at hbd
          rw [ex, hx]
          simp only [den, Instr.sliceAt, Instr.slice, Sem.run_bind, hu w, Result.andThen_ok, hbd, hs w, Sem.run_pure, if_true]
      · cases e
    · -- a slice of one's own
      rename_i c o sz n cap lw bk hx
      rw [hx] at kx
      split at e
      · rename_i el sz' by_ hel
        obtain ⟨h2, h3, _⟩ := elemT_spec hel
        dsimp only at e
        cases hbo : (Nat.beq sz sz' && Nat.ble 1 sz && Nat.ble (a.getD 0) (b.getD n) && (m.isNone || b.isSome)) with
        | false => rw [hbo] at e; cases e
        | true =>
          rw [hbo] at e
          simp only [cond_true] at e
          simp only [Bool.and_eq_true] at hbo
          obtain ⟨⟨⟨q1, q2⟩, q3⟩, q4⟩ := hbo
          obtain rfl := Nat.eq_of_beq_eq_true q1
          have q2 := Nat.le_of_ble_eq_true q2
          have q3 := Nat.le_of_ble_eq_true q3
          have q4' : m.isSome = true → b.isSome = true := by cases m <;> simp_all
          have go : ∀ (w : World) (dst : Option Tmp) (ty : TypeId) (pos : String) (aft : Array Edge) (gd : Option (Nat × Bool)), b.getD n ≤ m.getD (sCap ρ c o sz cap lw) → m.getD (sCap ρ c o sz cap lw) ≤ sCap ρ c o sz cap lw →
              (execOp (fun y => den ρ (r y)) ⟨dst, .slice t x lo hi mx, ty, pos, aft, gd⟩).run P w = .ok (.value (.slice (some ⟨(ρ c).b, (ρ c).o + (bif Nat.beq (m.getD (sCap ρ c o sz cap lw)) (a.getD 0) then sOff ρ c o sz cap lw bk else sOff ρ c o sz cap lw bk + a.getD 0 * sz), none⟩) (b.getD n - a.getD 0) (m.getD (sCap ρ c o sz cap lw) - a.getD 0))) w := by
            intro w dst ty pos aft gd b3 b5
            have hbd := bounds_run (P := P) (isS := true) (len := n) va vb vm q4' q3 b3 b5 w
            rw [ex, hx]
            simp only [den, Instr.sliceAt, Instr.slice, Sem.run_bind, h2, Result.andThen_ok, hbd, h3, Sem.run_pure, Option.map_some, add_none]
            by_cases hma : m.getD (sCap ρ c o sz cap lw) = a.getD 0
            · rw [if_pos hma, hma]; simp
            · have : Nat.beq (m.getD (sCap ρ c o sz cap lw)) (a.getD 0) = false := by
                cases q : Nat.beq (m.getD (sCap ρ c o sz cap lw)) (a.getD 0) with
                | false => rfl
                | true => exact absurd (Nat.eq_of_beq_eq_true q) hma
              rw [if_neg hma, this]; simp [Nat.add_assoc]
          split at e
          · -- its capacity is known
            rename_i k
            cases hb2 : (Nat.ble (b.getD n) (m.getD k) && Nat.ble (m.getD k) k) with
            | false => rw [hb2] at e; cases e
            | true =>
              rw [hb2] at e
              cases e
              rw [Bool.and_eq_true] at hb2
              refine ⟨fun F w sat dst ty pos aft gd => ?_, kx⟩
              rw [go w dst ty pos aft gd (Nat.le_of_ble_eq_true hb2.1) (Nat.le_of_ble_eq_true hb2.2)]
              simp only [den, sOff, sCap]
          · -- it is not
            have hroom : lw ≤ room ρ c lw := Nat.le_max_right _ _
            split at e
            · rename_i m'
              simp only [Option.getD_some] at go
              cases hb2 : (Nat.ble (b.getD n) m' && Nat.ble (o / sz + m') lw && Nat.blt (o / sz) lw) with
              | false => rw [hb2] at e; cases e
              | true =>
                rw [hb2] at e
                cases e
                simp only [Bool.and_eq_true] at hb2
                obtain ⟨⟨p1, p2⟩, p3⟩ := hb2
                have p1 := Nat.le_of_ble_eq_true p1
                have p2 := Nat.le_of_ble_eq_true p2
                have p3 : o / sz < lw := by simpa using p3
                refine ⟨fun F w sat dst ty pos aft gd => ?_, kx⟩
                rw [go w dst ty pos aft gd p1 (by simp only [sCap]; omega)]
                have hso : sOff ρ c o sz none lw bk = o := by simp only [sOff]; rw [if_neg (by omega)]
                rw [hso]
                simp only [den, sOff, sCap]
            · simp only [Option.getD_none] at go
              cases hb2 : Nat.ble (o / sz + b.getD n) lw with
              | false => rw [hb2] at e; cases e
              | true =>
                rw [hb2] at e
                simp only [cond_true] at e
                have p2 := Nat.le_of_ble_eq_true hb2
                have go2 := fun w dst ty pos aft gd => go w dst ty pos aft gd (by simp only [sCap]; omega) (Nat.le_refl _)
                have hdiv : ∀ j : Nat, (o + j * sz) / sz = o / sz + j := fun j => Nat.add_mul_div_right o j (by omega)
                cases hb3 : Nat.blt (o / sz + a.getD 0) lw with
                | true =>
                  rw [hb3] at e
                  cases e
                  have p3 : o / sz + a.getD 0 < lw := by simpa using hb3
                  refine ⟨fun F w sat dst ty pos aft gd => ?_, kx⟩
                  rw [go2]
                  have hso : sOff ρ c o sz none lw bk = o := by simp only [sOff]; rw [if_neg (by omega)]
                  have hso2 : sOff ρ c (o + a.getD 0 * sz) sz none lw 0 = o + a.getD 0 * sz := by simp only [sOff]; rw [if_neg (by rw [hdiv]; omega)]
                  have hc : Nat.beq (sCap ρ c o sz none lw) (a.getD 0) = false := by
                    cases q : Nat.beq (sCap ρ c o sz none lw) (a.getD 0) with
                    | false => rfl
                    | true => have := Nat.eq_of_beq_eq_true q; simp only [sCap] at this; omega
                  rw [hso, hc]
                  simp only [den, hso2, sCap, hdiv, Nat.sub_sub, cond_false]
                | false =>
                  rw [hb3] at e
                  simp only [cond_false] at e
                  have p3 : ¬ o / sz + a.getD 0 < lw := fun q => by rw [← Nat.blt_eq] at q; rw [q] at hb3; cases hb3
                  cases hb4 : Nat.beq (a.getD 0) 0 with
                  | true =>
                    rw [hb4] at e
                    cases e
                    have p4 := Nat.eq_of_beq_eq_true hb4
                    refine ⟨fun F w sat dst ty pos aft gd => ?_, kx⟩
                    rw [go2, p4]
                    simp only [den, Nat.zero_mul, Nat.add_zero, Bool.cond_self, Nat.sub_zero]
                  | false =>
                    rw [hb4] at e
                    cases e
                    have p4 : a.getD 0 ≠ 0 := fun q => by rw [q] at hb4; simp at hb4
                    refine ⟨fun F w sat dst ty pos aft gd => ?_, kx⟩
                    rw [go2]
                    have hso : sOff ρ c o sz none lw bk = o := by simp only [sOff]; rw [if_neg (by omega)]
                    rw [hso]
                    simp only [den, sCap, hdiv, Nat.sub_sub]
                    by_cases hq : room ρ c lw = o / sz + a.getD 0
                    · have hc : Nat.beq (room ρ c lw - o / sz) (a.getD 0) = true := by
                        have : room ρ c lw - o / sz = a.getD 0 := by omega
                        rw [this]; simp
                      rw [hc]
                      have : sOff ρ c (o + a.getD 0 * sz) sz none lw (a.getD 0 * sz) = o := by
                        simp only [sOff, hdiv]; rw [if_pos hq]; omega
                      rw [this]; rfl
                    · have hc : Nat.beq (room ρ c lw - o / sz) (a.getD 0) = false := by
                        cases q : Nat.beq (room ρ c lw - o / sz) (a.getD 0) with
                        | false => rfl
                        | true => have := Nat.eq_of_beq_eq_true q; omega
                      rw [hc]
                      have : sOff ρ c (o + a.getD 0 * sz) sz none lw (a.getD 0 * sz) = o + a.getD 0 * sz := by
                        simp only [sOff, hdiv]; rw [if_neg hq]
                      rw [this]; rfl
      · cases e
    · -- an array
      rename_i c o hx
      rw [hx] at kx
      split at e
      · rename_i ti hti
        split at e
        · rename_i n el hd
          split at e
          · rename_i te hte
            simp only at e
            cases hbo : (m.isNone && Nat.ble (a.getD 0) (b.getD n) && Nat.ble (b.getD n) n && Nat.ble 1 te.size) with
            | false => rw [hbo] at e; cases e
            | true =>
              rw [hbo] at e
              cases e
              simp only [Bool.and_eq_true] at hbo
              obtain ⟨⟨⟨q1, q2⟩, q3⟩, q4⟩ := hbo
              have hm0 : m = none := by cases m <;> simp_all
              subst hm0
              have q2 := Nat.le_of_ble_eq_true q2
              have q3 := Nat.le_of_ble_eq_true q3
              refine ⟨fun F w sat dst ty pos aft gd => ?_, kx⟩
              have hbd := bounds_run (P := P) (isS := false) (len := n) (cap := n) va vb vm (by simp) q2 q3 (Nat.le_refl _) w
              rw [ex, hx]
              simp only [Option.getD_none] at hbd
              simp only [den, Instr.sliceAt, Sem.run_bind, run_und hti, hd, Instr.sureAddr, Result.andThen_ok, hbd, TT.siz hte, Sem.run_pure, add_none, sOff, sCap]
              by_cases hma : n = a.getD 0
              · rw [if_pos hma, hma]; simp
              · rw [if_neg hma]
                have : Nat.beq n (a.getD 0) = false := by
                  cases q : Nat.beq n (a.getD 0) with
                  | false => rfl
                  | true => exact absurd (Nat.eq_of_beq_eq_true q) hma
                rw [this]; simp [Nat.add_assoc]
          · cases e
        · cases e
      · cases e
    · cases e
  · cases e
end
end Go.Gv
