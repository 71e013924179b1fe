/- The machine's reads are the model's: maps, lengths. -/
import Derived.Test.YtnennjhbajpbfaaGreatDoorGvY5
namespace Go.Gv
set_option linter.unusedVariables false
set_option linter.unusedSimpArgs false
set_option linter.unusedSectionVars false

section
variable {P : Program} {T : TT P} {E : EqT} {G : GT} {M : Heap} {ρ : Rho} {h : Hp} {F : List HP} {w : World}

theorem keyC_den {t : Nat} {k : SV} {l : List SV} (e : keyC E t k = some l) : den ρ k = mkv ρ E t l := by
  unfold keyC at e
  split at e
  · split at e
    · rename_i hE; cases e; simp [mkv, hE, den]
    · cases e
  · split at e
    · split at e
      · rename_i hE; cases e; simp [mkv, hE, den, dens_v]
      · cases e
    · split at e
      · cases e
      · rename_i hE; cases e; simp [mkv, hE, den, dens]
  · cases e
theorem keyC_ok {D : Nat → Prop} {t : Nat} {k : SV} {l : List SV} (e : keyC E t k = some l) (hk : okV D k) : okVs D l := by
  unfold keyC at e
  split at e
  · split at e
    · cases e; exact hk
    · cases e
  · split at e
    · split at e
      · cases e; exact okVs_v _
      · cases e
    · split at e
      · cases e
      · cases e; exact ⟨trivial, trivial⟩
  · cases e

/-- The cells of a part, by what comparing has shown. -/
theorem part_mkv (hE : EOk P E) {d : Nat} {f : Field} {ti : TI P} {zs us : List SV} {bb : Bool} (hT : T.get f.type = some ti) (hb : eqT T E d f.type (cut zs f.offset ti.size) us = some bb) (w : World) :
    (part f.type (dens ρ zs).toArray f.offset).run P w = .ok (mkv ρ E f.type (cut zs f.offset ti.size)) w := by
  have ha := agg_of hT
  cases hEf : E f.type with
  | some fs' =>
    have hd := und_eq hT (hE f.type fs' hEf).1
    rw [hd] at ha
    have hag := TT.isa hT w
    rw [ha] at hag
    simp only [part, Sem.run_bind, hag, Result.andThen_ok, if_true, TT.siz hT w, Sem.run_pure, mkv, hEf, dens_cut]
    congr 2
    apply Array.ext'
    simp [Array.toList_extract, List.take_drop]
  | none =>
    cases d with
    | zero => simp [eqT] at hb
    | succ d' =>
      have key : ti.agg = false ∧ ∃ v, cut zs f.offset ti.size = [.v v] := by
        simp only [eqT, hEf, hT] at hb
        split at hb <;> first
          | (cases hb; done)
          | (rw [ha, ‹ti.desc = _›]; exact ⟨rfl, _, ‹cut zs f.offset ti.size = _›⟩)
      obtain ⟨hagf, v, hc⟩ := key
      have hag := TT.isa hT w
      rw [hagf] at hag
      have hget : (dens ρ zs)[f.offset]? = some v := by
        have h1 : ((dens ρ zs).drop f.offset).take ti.size = [v] := by rw [← dens_cut, hc]; rfl
        have h2 : (((dens ρ zs).drop f.offset).take ti.size)[0]? = some v := by rw [h1]; rfl
        rw [List.getElem?_take] at h2
        split at h2
        · simpa using h2
        · cases h2
      simp only [part, Sem.run_bind, hag, Result.andThen_ok, Bool.false_eq_true, if_false, mkv, hEf, hc, dens, den, List.headD_cons, List.getElem?_toArray, hget, Sem.run_pure]

theorem checkKey_sound (hE : EOk P E) : ∀ (d : Nat), (∀ t xs, eqT T E d t xs xs = some true → ∀ n, d ≤ n → ∀ em w, (Instr.checkKey em n t (mkv ρ E t xs)).run P w = .ok () w) ∧
    (∀ (fs : List Field) xs, eqFs T E d (fs.map fun f => (f.type, f.offset)) xs xs = some true → (∀ f ∈ fs, f.name ≠ "_") → ∀ n, d ≤ n → ∀ em w,
      (forIn fs PUnit.unit fun f r => (do if f.name ≠ "_" then do Instr.checkKey em n f.type (← part f.type (dens ρ xs).toArray f.offset); pure (.yield PUnit.unit) else pure (.yield PUnit.unit) : Sem (ForInStep PUnit))).run P w = .ok PUnit.unit w) := by
  intro d
  induction d with
  | zero => exact ⟨fun t xs e => by simp [eqT] at e, fun fs xs e => by cases fs <;> simp [eqFs] at e⟩
  | succ d ih =>
    refine ⟨fun t xs e n hn em w => ?_, fun fs xs e hf n hn em w => ?_⟩
    · obtain ⟨m, rfl⟩ : ∃ m, n = m + 1 := ⟨n - 1, by omega⟩
      simp only [eqT] at e
      cases hEt : E t with
      | some fs =>
        rw [hEt] at e
        simp only at e
        obtain ⟨hu, hp, _, hfs, hnm⟩ := hE t fs hEt
        subst hfs
        have := ih.2 _ xs e hnm m (by omega) em w
        simp only [mkv, hEt, Instr.checkKey, Sem.run_bind, run_underlying hu, Result.andThen_ok]
        rw [← Array.forIn_toList]
        simp at this ⊢
        rw [this]; rfl
      | none =>
        rw [hEt] at e
        simp only at e
        cases hT : T.get t with
        | none => rw [hT] at e; cases e
        | some ti =>
          rw [hT] at e
          simp only at e
          split at e <;> first
            | (cases e; done)
            | (rename_i hd; simp only [Instr.checkKey, Sem.run_bind, run_und hT, Result.andThen_ok, ‹ti.desc = _›, mkv, hEt, dens, den, List.headD_cons, Sem.run_pure])
    · cases fs with
      | nil => simp
      | cons f fs =>
        simp only [List.map_cons, eqFs] at e
        cases hT : T.get f.type with
        | none => rw [hT] at e; cases e
        | some ti =>
          rw [hT] at e
          simp only at e
          have hnm := hf f (by simp)
          cases hq : eqT T E d f.type (cut xs f.offset ti.size) (cut xs f.offset ti.size) with
          | none => rw [hq] at e; cases e
          | some bb =>
            rw [hq] at e
            cases bb with
            | false => cases e
            | true =>
              have p1 := part_mkv (ρ := ρ) hE hT hq w
              have p2 := ih.1 _ _ hq n (by omega) em w
              have p3 := ih.2 fs xs e (fun g hg => hf g (by simp [hg])) n (by omega) em w
              simp only [List.forIn_cons, Sem.run_bind, hnm, ne_eq, not_false_eq_true, if_true, p1, p2, Result.andThen_ok, Sem.run_pure]
              exact p3

def found (ρ : Rho) (x : Option (Nat × List SV × SV × Nat)) : Option (Nat × Value) := x.map fun x => (x.1, den ρ x.2.2.1)
theorem findS_mem {kt : Nat} {kl l : List SV} {v : SV} {b : Nat} : ∀ {es : List (SV × SV × Nat)} {i j : Nat}, findS T E kt kl es i = some (some (j, l, v, b)) → ∃ n k, j = i + n ∧ es[n]? = some (k, v, b) ∧ keyC E kt k = some l ∧ eqT T E 8 kt kl l = some true
  | [], i, j, e => by simp [findS] at e
  | (k', v', b') :: es, i, j, e => by
    simp only [findS] at e
    split at e
    · rename_i l' hk
      split at e
      · rename_i hq; cases e; exact ⟨0, k', rfl, rfl, hk, hq⟩
      · obtain ⟨n, k, h1, h2, h3, h4⟩ := findS_mem e
        exact ⟨n + 1, k, by omega, by simpa using h2, h3, h4⟩
      · cases e
    · cases e
theorem findS_sound (hE : EOk P E) {kt : Nat} {kl : List SV} (hk : eqT T E 8 kt kl kl = some true) {es : List (SV × SV × Nat)} {res : Option (Nat × List SV × SV × Nat)} (e : findS T E kt kl es 0 = some res) (w : World) :
    (Instr.findKey kt (mkv ρ E kt kl) (es.map (entryOf ρ))).run P w = .ok (found ρ res) w := by
  cases hEt : E kt with
  | some fs =>
    obtain ⟨hu, _⟩ := hE kt fs hEt
    have ask : ∀ (es : List (SV × SV × Nat)) (i : Nat) res, findS T E kt kl es i = some res → (Instr.findAsking kt (mkv ρ E kt kl) (es.map (entryOf ρ)) i).run P w = .ok (found ρ res) w := by
      intro es
      induction es with
      | nil => intro i res e; simp [findS] at e; subst e; rfl
      | cons x es ih =>
        obtain ⟨k', v', b'⟩ := x
        intro i res e
        simp only [findS] at e
        split at e
        · rename_i l' hkc
          have hd := keyC_den (ρ := ρ) hkc
          have heq : ∀ bb, eqT T E 8 kt kl l' = some bb → (Op.equal kt (mkv ρ E kt kl) (den ρ k')).run P w = .ok bb w := fun bb hb => by
            rw [hd]; exact (eqT_sound (ρ := ρ) hE 8).1 _ _ _ _ hb (9999 + 1) (by omega) w
          simp only [List.map_cons, Instr.findAsking, Sem.run_bind, entryOf]
          split at e
          · rename_i hq; cases e
            rw [heq _ hq]; rfl
          · rename_i hq
            rw [heq _ hq]
            simp only [Result.andThen_ok, Bool.false_eq_true, if_false]
            exact ih _ _ e
          · cases e
        · cases e
    unfold Instr.findKey
    simp only [Sem.run_bind, run_underlying hu, Result.andThen_ok]
    cases es with
    | nil => simp [findS] at e; subst e; rfl
    | cons x es =>
      have hn : Instr.findNow (TypeDesc.struct (P.fieldsOf kt)) (mkv ρ E kt kl) ((x :: es).map (entryOf ρ)) 0 = none := by
        simp only [List.map_cons, Instr.findNow, Instr.sameNow]
      rw [hn]
      exact ask _ 0 _ e
  | none =>
    have hk' := hk
    simp only [eqT, hEt] at hk'
    cases hT : T.get kt with
    | none => rw [hT] at hk'; cases hk'
    | some ti =>
      rw [hT] at hk'
      simp only at hk'
      have hu := run_und hT w
      have now : ∀ (es : List (SV × SV × Nat)) (i : Nat) res, findS T E kt kl es i = some res → Instr.findNow ti.desc (mkv ρ E kt kl) (es.map (entryOf ρ)) i = some (found ρ res) := by
        intro es
        induction es with
        | nil => intro i res e; simp [findS] at e; subst e; rfl
        | cons x es ih =>
          obtain ⟨k', v', b'⟩ := x
          intro i res e
          simp only [findS] at e
          split at e
          · rename_i l' hkc
            have hd := keyC_den (ρ := ρ) hkc
            have hsame : ∀ bb, eqT T E 8 kt kl l' = some bb → Instr.sameNow ti.desc (mkv ρ E kt kl) (den ρ k') = some bb := fun bb hb => by
              rw [hd]
              simp only [eqT, hEt, hT] at hb
              split at hb
              · rename_i k1 a1 k2 a2 hdd _
                cases hkk : (k1 == k2) with
                | false => rw [hkk] at hb; cases hb
                | true =>
                  rw [hkk] at hb
                  cases hb
                  obtain rfl := beq_iff_eq.1 hkk
                  simp [mkv, hEt, dens, den, hdd, Instr.sameNow, i0_eq]
              · rename_i hdd
                cases hb
                simp [mkv, hEt, dens, den, ‹ti.desc = _›, Instr.sameNow, u8l_eq, ba_list, beq_toListBytes]
              · rename_i hdd
                cases hb
                simp [mkv, hEt, dens, den, ‹ti.desc = _›, Instr.sameNow]
              · cases hb
            simp only [List.map_cons, Instr.findNow, entryOf]
            split at e
            · rename_i hq; cases e
              rw [hsame _ hq]; rfl
            · rename_i hq
              rw [hsame _ hq]
              exact ih _ _ e
            · cases e
          · cases e
      unfold Instr.findKey
      simp only [Sem.run_bind, hu, Result.andThen_ok]
      rw [now es 0 res e]
      rfl

theorem getMap {c clk : Nat} {es : List (SV × SV × Nat)} (s : Sat M (objs ρ h ++ F) w) (e : hget h c = some (.map es clk)) : (getObj (ρ c).b).run P w = .ok (.map (es.map (entryOf ρ)).toArray clk) w := by
  have ho : hp w (ρ c).b = some (.map (es.map (entryOf ρ)).toArray clk) := s.objAt e
  have : w.heap[(ρ c).b]? = some (.map (es.map (entryOf ρ)).toArray clk) := ho
  simp [getObj, Sem.run, this]
theorem wrapA_run {t : Nat} {z : SV} (e : wrapA T t = some z) : (∀ w, (zeroValue t).run P w = .ok (den ρ z) w) ∧ ∀ D, okV D z := by
  unfold wrapA at e
  split at e
  · rename_i ti hti
    split at e
    · rename_i cs hz
      cases e
      exact ⟨fun w => by rw [TT.zer hti, hz]; simp [den, dens_v], fun D => okVs_v _⟩
    · cases e
      exact ⟨fun w => TT.zer hti w, fun D => trivial⟩
  · cases e
theorem mapT_und {t k el : Nat} (e : mapT T t = some (k, el)) (w : World) : (underlying t).run P w = .ok (.map k el) w := by
  unfold mapT at e
  split at e
  · rename_i ti hti
    split at e
    · rename_i hd; cases e; rw [run_und hti, hd]
    · cases e
  · cases e
theorem keyS_spec {t : Nat} {k : SV} {l : List SV} (e : keyS T E t k = some l) : keyC E t k = some l ∧ eqT T E 8 t l l = some true := by
  unfold keyS at e
  split at e
  · rename_i l' hk
    split at e
    · rename_i hq; cases e; exact ⟨hk, hq⟩
    · cases e
  · cases e
theorem asMap_run {x : SV} {es : List (SV × SV × Nat)} {clk : Nat} (e : asMap h x = some (es, clk)) (ok : okHp h) : (∀ F w, Sat M (objs ρ h ++ F) w → (den ρ x = .map none ∧ es = []) ∨ ∃ b, den ρ x = .map (some b) ∧ (getObj b).run P w = .ok (.map (es.map (entryOf ρ)).toArray clk) w) ∧
    ∀ e ∈ es, okV (dom h) e.1 ∧ okV (dom h) e.2.1 := by
  unfold asMap at e
  split at e
  · rename_i c
    split at e
    · rename_i hg
      cases e
      exact ⟨fun F w s => .inr ⟨_, rfl, getMap s hg⟩, okO_get ok hg⟩
    · cases e
  · cases e
    exact ⟨fun F w s => .inl ⟨rfl, rfl⟩, fun _ h => by cases h⟩
  · cases e

variable {r : Operand → SV} (hr : ∀ y, okV (dom h) (r y))
include hr
theorem evP_lookup (hE : EOk P E) (ok : okHp h) {t : Nat} {x k : Operand} {cok : Bool} {y : SV} (e : evP T E G h r (.lookup t x k cok) = some y) : PuOk P M ρ h r (.lookup t x k cok) y := by
  simp only [evP] at e
  split at e
  · rename_i kt et es clk hmt ham
    split at e
    · rename_i kl hks
      obtain ⟨hkc, hkk⟩ := keyS_spec hks
      have hkd := keyC_den (ρ := ρ) hkc
      obtain ⟨hm1, hm2⟩ := asMap_run (P := P) (M := M) (ρ := ρ) ham ok
      have ex : ∀ dst ty pos aft gd, execOp (fun y => den ρ (r y)) ⟨dst, .lookup t x k cok, ty, pos, aft, gd⟩ = (do pure (.value (← Instr.lookup t (den ρ (r x)) (den ρ (r k)) cok))) := fun dst ty pos aft gd => rfl
      have hck := fun em w => (checkKey_sound (ρ := ρ) hE 8).1 kt kl hkk 10000 (by omega) em w
      have main : ∀ res, findS T E kt kl es 0 = some res → ∀ F w, Sat M (objs ρ h ++ F) w → ∀ v b, ((∃ z, res = some z ∧ v = den ρ z.2.2.1 ∧ b = true) ∨ (res = none ∧ (∀ w, (zeroValue et).run P w = .ok v w) ∧ b = false)) →
          (Instr.lookup t (den ρ (r x)) (den ρ (r k)) cok).run P w = .ok (if cok = true then .tuple #[v, .bool b] else v) w := by
        intro res hres F w s v b hvb
        unfold Instr.lookup
        have hfk := findS_sound (ρ := ρ) (P := P) hE hkk hres w
        rcases hm1 F w s with ⟨hx0, rfl⟩ | ⟨bb, hx0, hgo⟩
        · rcases hvb with ⟨z, rfl, rfl, rfl⟩ | ⟨rfl, hz, rfl⟩
          · simp [findS] at hres
          · simp only [List.map_nil] at hfk
            simp [mapT_und hmt w, hx0, hkd, hck _ w, hfk, found, hz w]
        · rcases hvb with ⟨z, rfl, rfl, rfl⟩ | ⟨rfl, hz, rfl⟩
          · simp [mapT_und hmt w, hx0, hgo, hkd, hck _ w, hfk, found]
          · simp [mapT_und hmt w, hx0, hgo, hkd, hck _ w, hfk, found, hz w]
      split at e
      · rename_i j l v b hf
        cases e
        obtain ⟨n, k0, _, hn, _, _⟩ := findS_mem hf
        have hv := (hm2 _ (List.mem_of_getElem? hn)).2
        refine ⟨fun F w s dst ty pos aft gd => ?_, ?_⟩
        · rw [ex, Sem.run_bind, main _ hf F w s _ _ (.inl ⟨_, rfl, rfl, rfl⟩)]
          cases cok <;> simp [den, dens]
        · cases cok
          · exact hv
          · exact ⟨hv, trivial, trivial⟩
      · rename_i hf
        split at e
        · rename_i z hz
          cases e
          obtain ⟨hz1, hz2⟩ := wrapA_run (P := P) (ρ := ρ) hz
          refine ⟨fun F w s dst ty pos aft gd => ?_, ?_⟩
          · rw [ex, Sem.run_bind, main _ hf F w s _ _ (.inr ⟨rfl, hz1, rfl⟩)]
            cases cok <;> simp [den, dens]
          · cases cok
            · exact hz2 _
            · exact ⟨hz2 _, trivial, trivial⟩
        · cases e
      · cases e
    · cases e
  · cases e
theorem findBorn_spec {b : Nat} : ∀ {es : List (SV × SV × Nat)} {i j : Nat} {k v : SV}, findBorn es b i = some (j, k, v) → ∃ n, j = i + n ∧ es[n]? = some (k, v, b) ∧ ∀ m, m < n → ∀ e, es[m]? = some e → e.2.2 ≠ b
  | [], i, j, k, v, e => by simp [findBorn] at e
  | (k', v', b') :: es, i, j, k, v, e => by
    simp only [findBorn] at e
    cases hb : Nat.beq b' b with
    | true =>
      rw [hb] at e
      cases e
      obtain rfl := Nat.eq_of_beq_eq_true hb
      exact ⟨0, rfl, rfl, fun m hm => by omega⟩
    | false =>
      rw [hb] at e
      obtain ⟨n, h1, h2, h3⟩ := findBorn_spec (es := es) e
      refine ⟨n + 1, by omega, by simpa using h2, fun m hm x hx => ?_⟩
      cases m with
      | zero => simp at hx; subst hx; intro q; simp only at q; rw [q] at hb; simp at hb
      | succ m => exact h3 m (by omega) x (by simpa using hx)
theorem find_born {b : Nat} : ∀ {es : List (SV × SV × Nat)} {i j : Nat} {k v : SV}, findBorn es b i = some (j, k, v) → (es.map (entryOf ρ)).find? (fun e => e.born == b) = some (entryOf ρ (k, v, b))
  | [], i, j, k, v, e => by simp [findBorn] at e
  | (k', v', b') :: es, i, j, k, v, e => by
    simp only [findBorn] at e
    cases hb : Nat.beq b' b with
    | true =>
      rw [hb] at e
      cases e
      obtain rfl := Nat.eq_of_beq_eq_true hb
      simp [entryOf]
    | false =>
      rw [hb] at e
      have hne : ¬ b' = b := fun q => by rw [q] at hb; simp at hb
      have := find_born (es := es) e
      simp only [List.map_cons, List.find?_cons]
      have h2 : ((entryOf ρ (k', v', b')).born == b) = false := by simpa [entryOf] using hne
      rw [h2]
      exact this
theorem getMit {c since last : Nat} {m : Option Nat} {seen : List Nat} (s : Sat M (objs ρ h ++ F) w) (e : hget h c = some (.mit m since seen last)) : (getObj (ρ c).b).run P w = .ok (.mapIter (m.map fun c => (ρ c).b) since seen.toArray last) w ∧ (ρ c).o = 0 := by
  have ho : objP ρ c (.mit m since seen last) (hp w) := s.objAt e
  have : w.heap[(ρ c).b]? = some (.mapIter (m.map fun c => (ρ c).b) since seen.toArray last) := ho.1
  exact ⟨by simp [getObj, Sem.run, this], ho.2⟩
theorem evP_entry (ok : okHp h) {x : Operand} {y : SV} (e : evP T E G h r (.entry x) = some y) : PuOk P M ρ h r (.entry x) y := by
  simp only [evP] at e
  split at e
  · rename_i c hx
    split at e
    · rename_i m since seen st hg
      split at e
      · rename_i b es clk hb hm
        cases hc : Nat.beq clk st with
        | false => rw [hc] at e; cases e
        | true =>
          rw [hc] at e
          simp only [cond_true] at e
          obtain rfl := Nat.eq_of_beq_eq_true hc
          split at e
          · rename_i j k v hf
            cases e
            obtain ⟨n, _, hn, _⟩ := findBorn_spec hr hf
            have hkv := okO_get ok hm _ (List.mem_of_getElem? hn)
            refine ⟨fun F w s dst ty pos aft gd => ?_, ⟨hkv.1, hkv.2, trivial⟩⟩
            obtain ⟨g1, g0⟩ := getMit (P := P) hr s hg
            have g2 := getMap (P := P) s hm
            have ex : execOp (fun y => den ρ (r y)) ⟨dst, .entry x, ty, pos, aft, gd⟩ = (do pure (.value (← Instr.entry (den ρ (r x))))) := rfl
            rw [ex, hx]
            have hbk : seen.toArray.back? = some b := by
              rw [← hb]; simp [Array.back?, List.getLast?_eq_getElem?]
            have hfd : (es.map (entryOf ρ)).toArray.find? (fun e => e.born == b) = some (entryOf ρ (k, v, b)) := by
              rw [List.find?_toArray]; exact find_born hr hf
            simp only [den, Instr.entry, g0, Nat.add_zero, Sem.run_bind, g1, Option.map_some, Result.andThen_ok, hbk, g2, bne_self_eq_false, Bool.false_eq_true, if_false, hfd, Sem.run_pure, entryOf, dens]
          · cases e
      · cases e
    · cases e
  · cases e
theorem usd_some {ats : Array TypeId} {ty : TypeId} {a : Go.Addr} {n c : Nat} (hc : c ≠ 0) : Builtin.unsafeSliceData_ ats ty #[.slice (some a) n c] = pure (.pointer (some a)) := by
  show (if c ≠ 0 then _ else _) = _
  rw [if_pos hc]
theorem evP_call (ok : okHp h) {c : Call} {y : SV} (e : evP T E G h r (.call c) = some y) : PuOk P M ρ h r (.call c) y := by
  obtain ⟨callee, args, argTypes⟩ := c
  simp only [evP] at e
  have ea : ∀ l : List Operand, args.toList = l → args = l.toArray := fun l q => by rw [← q]
  have et : ∀ l : List TypeId, argTypes.toList = l → argTypes = l.toArray := fun l q => by rw [← q]
  split at e
  · -- len
    rename_i x t hx ht
    rw [ea _ hx, et _ ht]
    have kx := hr x
    split at e
    · rename_i s hs
      cases hb : isStringT T t with
      | false => rw [hb] at e; cases e
      | true =>
        rw [hb] at e
        cases e
        refine ⟨fun F w sat dst ty pos aft gd => ?_, trivial⟩
        have hsz : ((bsOf s).length : Int) = s.size := by simp [bsOf]
        simp [execOp, resolve, invoke, builtin, Builtin.len_, isStr hr hb, hs, den, goInt, hsz]
    · rename_i hs
      cases hb : isSliceT T t with
      | false => rw [hb] at e; cases e
      | true =>
        rw [hb] at e
        cases e
        unfold isSliceT at hb
        split at hb <;> try cases hb
        rename_i ti hti
        split at hb <;> try cases hb
        rename_i hd
        exact ⟨fun F w sat dst ty pos aft gd => by simp [execOp, resolve, invoke, builtin, Builtin.len_, run_und hti, hd, hs, den, goInt], trivial⟩
    · rename_i hs
      cases hb : isSliceT T t with
      | false => rw [hb] at e; cases e
      | true =>
        rw [hb] at e
        cases e
        unfold isSliceT at hb
        split at hb <;> try cases hb
        rename_i ti hti
        split at hb <;> try cases hb
        rename_i hd
        exact ⟨fun F w sat dst ty pos aft gd => by simp [execOp, resolve, invoke, builtin, Builtin.len_, run_und hti, hd, hs, den, goInt], trivial⟩
    · rename_i c hs
      split at e
      · rename_i ti hti
        split at e
        · rename_i k el hd
          split at e
          · rename_i es clk hg
            cases e
            refine ⟨fun F w sat dst ty pos aft gd => ?_, trivial⟩
            have g := getMap (P := P) sat hg
            simp [execOp, resolve, invoke, builtin, Builtin.len_, run_und hti, hd, hs, den, goInt, g]
          · cases e
        · cases e
      · cases e
    · cases e
  · -- cap
    rename_i x t hx ht
    rw [ea _ hx, et _ ht]
    split at e
    · rename_i hs
      cases hb : isSliceT T t with
      | false => rw [hb] at e; cases e
      | true =>
        rw [hb] at e
        cases e
        unfold isSliceT at hb
        split at hb <;> try cases hb
        rename_i ti hti
        split at hb <;> try cases hb
        rename_i hd
        exact ⟨fun F w sat dst ty pos aft gd => by simp [execOp, resolve, invoke, builtin, Builtin.cap_, run_und hti, hd, hs, den, goInt], trivial⟩
    · rename_i hs
      cases hb : isSliceT T t with
      | false => rw [hb] at e; cases e
      | true =>
        rw [hb] at e
        cases e
        unfold isSliceT at hb
        split at hb <;> try cases hb
        rename_i ti hti
        split at hb <;> try cases hb
        rename_i hd
        exact ⟨fun F w sat dst ty pos aft gd => by simp [execOp, resolve, invoke, builtin, Builtin.cap_, run_und hti, hd, hs, den, goInt, sCap], trivial⟩
    · cases e
  · -- unsafe.SliceData
    rename_i x hx
    rw [ea _ hx]
    have kx := hr x
    have exu : ∀ dst ty pos aft gd, execOp (fun y => den ρ (r y)) ⟨dst, .call ⟨.builtin .unsafeSliceData, [x].toArray, argTypes⟩, ty, pos, aft, gd⟩ = (do pure (.value (← Builtin.unsafeSliceData_ argTypes ty #[den ρ (r x)]))) := fun dst ty pos aft gd => by
      simp [execOp, resolve, invoke, builtin]
    split at e
    · rename_i h1
      cases e
      exact ⟨fun F w sat dst ty pos aft gd => by rw [exu, h1]; rfl, trivial⟩
    · rename_i c o sz n cap lw bk h1
      rw [h1] at kx
      cases hb : someS o sz cap lw with
      | false => rw [hb] at e; cases e
      | true =>
        rw [hb] at e
        cases e
        have hroom : lw ≤ room ρ c lw := Nat.le_max_right _ _
        have hs : sOff ρ c o sz cap lw bk = o ∧ sCap ρ c o sz cap lw ≠ 0 := by
          cases cap with
          | some k =>
            have : 1 ≤ k := Nat.le_of_ble_eq_true hb
            exact ⟨rfl, by simp only [sCap]; omega⟩
          | none =>
            have h2 : o / sz < lw := by simpa [someS] using hb
            exact ⟨sure_off (by simpa [sureS] using h2), by simp only [sCap]; omega⟩
        exact ⟨fun F w sat dst ty pos aft gd => by rw [exu, h1]; simp only [den, hs.1]; rw [usd_some hr hs.2]; rfl, kx⟩
    · cases e
  · rename_i x y' hx
    rw [ea _ hx]
    split at e
    · rename_i k a k' b h1 h2
      cases e
      exact ⟨fun F w sat dst ty pos aft gd => by simp [execOp, resolve, invoke, builtin, Builtin.max_, h1, h2, den, Builtin.max2], trivial⟩
    · cases e
  · rename_i x y' hx
    rw [ea _ hx]
    split at e
    · rename_i k a k' b h1 h2
      cases e
      exact ⟨fun F w sat dst ty pos aft gd => by simp [execOp, resolve, invoke, builtin, Builtin.min_, h1, h2, den, Builtin.min2], trivial⟩
    · cases e
  · rename_i x y' z hx
    rw [ea _ hx]
    split at e
    · rename_i k a _ b _ c h1 h2 h3
      cases e
      exact ⟨fun F w sat dst ty pos aft gd => by simp [execOp, resolve, invoke, builtin, Builtin.min_, h1, h2, h3, den, Builtin.min2], trivial⟩
    · cases e
  · cases e

/-- **Each operation that reads.** -/
theorem evP_sound (hE : EOk P E) (hG : GOk M G) (ok : okHp h) {op : Op} {y : SV} (e : evP T E G h r op = some y) : PuOk P M ρ h r op y := by
  cases op <;> first
    | (simp only [evP] at e; cases e; done)
    | exact evP_small hr trivial e
    | exact evP_load hr hG ok e
    | exact evP_bin hr hE e
    | exact evP_build hr e
    | exact evP_convert hr ok e
    | exact evP_index hr e
    | exact evP_indexAddr hr e
    | exact evP_slice hr e
    | exact evP_lookup hr hE ok e
    | exact evP_entry hr ok e
    | exact evP_call hr ok e
end
end Go.Gv
