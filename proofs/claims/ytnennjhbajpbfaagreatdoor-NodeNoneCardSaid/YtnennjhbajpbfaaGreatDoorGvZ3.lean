/- What acts: maps, iterators. -/
import Derived.Test.YtnennjhbajpbfaaGreatDoorGvZ2
namespace Go.Gv
set_option linter.unusedVariables false
set_option linter.unusedSimpArgs false
set_option linter.unusedSectionVars false

theorem eqSVs_iff_plain : ∀ {l k : List SV}, k.all plS = true → eqSVs l k = true → l = k
  | [], [], _, _ => rfl
  | [], _ :: _, _, e => by simp [eqSVs] at e
  | _ :: _, [], _, e => by simp [eqSVs] at e
  | x :: l, y :: k, hp, e => by
    simp only [List.all_cons, Bool.and_eq_true] at hp
    simp only [eqSVs, Bool.and_eq_true] at e
    rw [eqSVs_iff_plain hp.2 e.2]
    congr 1
    obtain ⟨h1, h2⟩ := And.intro hp.1 e.1
    unfold plS at h1
    split at h1 <;> first
      | (cases h1; done)
      | (cases x <;> simp only [eqSV] at h2 <;> first
          | (cases h2; done)
          | (rename_i z
             cases z <;> simp only at h2 <;> first
              | (cases h2; done)
              | (simp only [Bool.and_eq_true, beq_iff_eq] at h2
                 obtain ⟨rfl, h3⟩ := h2
                 have := of_decide_eq_true h3
                 rw [this])
              | (have := u8l_iff.1 h2
                 congr 2
                 apply ByteArray.ext
                 apply Array.ext'
                 exact this)
              | (rw [beq_iff_eq.1 h2])))
theorem sameBits_cells : ∀ {l : List SV} {ρ : Rho}, l.all plS = true → ((dens ρ l).zip (dens ρ l)).all (fun (x, y) => Instr.sameBits 9999 x y) = true
  | [], _, _ => rfl
  | x :: l, ρ, e => by
    simp only [List.all_cons, Bool.and_eq_true] at e
    simp only [dens, List.zip_cons_cons, List.all_cons, Bool.and_eq_true]
    refine ⟨?_, sameBits_cells e.2⟩
    have h1 := e.1
    unfold plS at h1
    split at h1 <;> first | (cases h1; done) | simp [den, Instr.sameBits, beq_toListBytes]

section
variable {P : Program} {T : TT P} {E : EqT} {G : GT} {M : Heap} {ρ : Rho} {h h' : Hp} {F : List HP} {w w' : World} {r : Operand → SV}

theorem same_mkv {t : Nat} {l : List SV} (hp : l.all plS = true) (hc : E t = none → ∃ x, l = [x]) : Instr.sameBits 10000 (mkv ρ E t l) (mkv ρ E t l) = true := by
  cases hE : E t with
  | some fs =>
    simp only [mkv, hE]
    show (((dens ρ l).toArray.size == (dens ρ l).toArray.size) && ((dens ρ l).toArray.toList.zip (dens ρ l).toArray.toList).all fun (x, y) => Instr.sameBits 9999 x y) = true
    rw [beq_self_eq_true, Bool.true_and]
    exact sameBits_cells hp
  | none =>
    obtain ⟨x, rfl⟩ := hc hE
    simp only [List.all_cons, List.all_nil, Bool.and_true] at hp
    unfold plS at hp
    split at hp <;> first | (cases hp; done) | simp [mkv, hE, dens, den, Instr.sameBits, beq_toListBytes]
theorem keyC_one {t : Nat} {k : SV} {l : List SV} (e : keyC E t k = some l) (hE : E t = none) : ∃ x, l = [x] := by
  unfold keyC at e
  rw [hE] at e
  split at e
  · cases e
  · split at e
    · cases e
    · cases e; exact ⟨_, rfl⟩
  · cases e
/-- The found key stays, and is the same. -/
theorem keeps {t : Nat} {k k' : SV} {l kl : List SV} (h1 : keyC E t k' = some l) (h2 : keyC E t k = some kl) (hp : kl.all plS = true) (he : eqSVs l kl = true) (w : World) :
    (Instr.keyThatStays (den ρ k') (den ρ k)).run P w = .ok (den ρ k) w := by
  obtain rfl := eqSVs_iff_plain hp he
  rw [keyC_den h1, keyC_den h2]
  have := same_mkv (ρ := ρ) (E := E) (t := t) hp (fun q => keyC_one h1 q)
  simp [Instr.keyThatStays, this]

theorem upd_run (hE : EOk P E) (ok : okHp h) {t : Nat} {m k x : SV} {y : SV} (hk : okV (dom h) k) (hx : okV (dom h) x) (e : updS T E h t m k x = some (y, h')) (s : Sat M (objs ρ h ++ F) w) :
    y = dv ∧ ∃ w', (Instr.mapUpdate t (den ρ m) (den ρ k) (den ρ x)).run P w = .ok () w' ∧ Env w w' ∧ Sat M (objs ρ h' ++ F) w' ∧ Grew h h' ρ ρ := by
  unfold updS at e
  split at e
  · rename_i kt et c hmt
    split at e
    · rename_i es clk kl hg hks
      obtain ⟨hkc, hkk⟩ := keyS_spec hks
      have hkd := keyC_den (ρ := ρ) hkc
      have hck := fun em w => (checkKey_sound (ρ := ρ) (P := P) (T := T) hE 8).1 kt kl hkk 10000 (by omega) em w
      have kes := okO_get ok hg
      have hgm := getMap (P := P) s hg
      have hmu := mapT_und hmt w
      split at e
      · rename_i i l v b hf
        cases hb : (kl.all plS && eqSVs l kl) with
        | false => rw [hb] at e; cases e
        | true =>
          rw [hb] at e
          cases e
          rw [Bool.and_eq_true] at hb
          obtain ⟨n, k', hin, hn, hkc', _⟩ := findS_mem hf
          have hin : i = n := by omega
          subst hin
          obtain ⟨w', r1, r2, r3, r4⟩ := set_map (P := P) (clk' := clk) s ok hg (okEs_set (i := i) kes hk hx)
          refine ⟨rfl, w', ?_, r2, r3, r4⟩
          have hfk := findS_sound (ρ := ρ) (P := P) hE hkk hf w
          have hkp := keeps (P := P) (ρ := ρ) hkc' hkc hb.1 hb.2 w
          have hget : (es.map (entryOf ρ)).toArray[i]? = some (entryOf ρ (k', v, b)) := by
            rw [List.getElem?_toArray, List.getElem?_map, hn]; rfl
          have hmod : (es.map (entryOf ρ)).toArray.modify i (fun e => { e with key := den ρ k, val := den ρ x }) = ((setNth es i k x).map (entryOf ρ)).toArray := by
            rw [List.modify_toArray, setNth_map (f := fun e => { e with key := den ρ k, val := den ρ x }) (fun _ _ => rfl)]
          rw [← hkd] at hfk
          unfold Instr.mapUpdate
          simp only [Sem.run_bind, hmu, Result.andThen_ok, den, hgm]
          rw [hkd, hck, ← hkd]
          simp only [Result.andThen_ok, hfk, found, Option.map_some, hget, Option.getD_some, entryOf]
          rw [Sem.run_bind, hkp]
          simp only [Result.andThen_ok]
          rw [hmod]
          exact r1
      · rename_i hf
        cases e
        obtain ⟨w', r1, r2, r3, r4⟩ := set_map (P := P) (clk' := clk + 1) s ok hg (okEs_app (b := clk) kes hk hx)
        refine ⟨rfl, w', ?_, r2, r3, r4⟩
        have hfk := findS_sound (ρ := ρ) (P := P) hE hkk hf w
        rw [← hkd] at hfk
        unfold Instr.mapUpdate
        simp only [Sem.run_bind, hmu, Result.andThen_ok, den, hgm]
        rw [hkd, hck, ← hkd]
        have hpush : (es.map (entryOf ρ)).toArray.push { key := den ρ k, val := den ρ x, born := clk } = ((es ++ [(k, x, clk)]).map (entryOf ρ)).toArray := by
          simp [entryOf]
        simp only [Result.andThen_ok, hfk, found, Option.map_none, hpush]
        exact r1
      · cases e
    · cases e
  · cases e
theorem evE_upd (hE : EOk P E) (ok : okHp h) (hr : ∀ y, okV (dom h) (r y)) {id t : Nat} {m k v : Operand} {x : SV} (e : evE T E G h id r (.mapUpdate t m k v) = some (x, h')) : EfOk P M ρ h r (.mapUpdate t m k v) x h' := by
  simp only [evE] at e
  intro F w s dst ty pos aft gd
  obtain ⟨rfl, w', r1, r2, r3, r4⟩ := upd_run (P := P) hE ok (hr k) (hr v) e s
  refine ⟨_, w', ρ, ?_, .inr ⟨rfl, rfl⟩, r2, r3, r4, trivial⟩
  have : execOp (fun y => den ρ (r y)) ⟨dst, .mapUpdate t m k v, ty, pos, aft, gd⟩ = (do Instr.mapUpdate t (den ρ (r m)) (den ρ (r k)) (den ρ (r v)); pure .skip) := rfl
  rw [this, Sem.run_bind, r1]; rfl
theorem evE_insert (hE : EOk P E) (ok : okHp h) (hr : ∀ y, okV (dom h) (r y)) {id t : Nat} {m k v : Operand} {x : SV} (e : evE T E G h id r (.insert t m k v) = some (x, h')) : EfOk P M ρ h r (.insert t m k v) x h' := by
  simp only [evE] at e
  intro F w s dst ty pos aft gd
  obtain ⟨rfl, w', r1, r2, r3, r4⟩ := upd_run (P := P) hE ok (hr k) (hr v) e s
  refine ⟨_, w', ρ, ?_, .inr ⟨rfl, rfl⟩, r2, r3, r4, trivial⟩
  have : execOp (fun y => den ρ (r y)) ⟨dst, .insert t m k v, ty, pos, aft, gd⟩ = (do Instr.mapUpdate t (den ρ (r m)) (den ρ (r k)) (den ρ (r v)); pure .skip) := rfl
  rw [this, Sem.run_bind, r1]; rfl
theorem evE_mapEntry (hE : EOk P E) (ok : okHp h) (hr : ∀ y, okV (dom h) (r y)) {id t : Nat} {m k : Operand} {x : SV} (e : evE T E G h id r (.mapEntry t m k) = some (x, h')) : EfOk P M ρ h r (.mapEntry t m k) x h' := by
  simp only [evE] at e
  split at e
  · rename_i kt et c hmt hm
    split at e
    · rename_i es clk kl hg hks
      obtain ⟨hkc, hkk⟩ := keyS_spec hks
      have hkd := keyC_den (ρ := ρ) hkc
      have hck := fun em w => (checkKey_sound (ρ := ρ) (P := P) (T := T) hE 8).1 kt kl hkk 10000 (by omega) em w
      have kes := okO_get ok hg
      have ex : ∀ dst ty pos aft gd, execOp (fun y => den ρ (r y)) ⟨dst, .mapEntry t m k, ty, pos, aft, gd⟩ = (do pure (.value (← Instr.mapEntry t (den ρ (r m)) (den ρ (r k))))) := fun dst ty pos aft gd => rfl
      split at e
      · rename_i i l v b hf
        cases hb : (kl.all plS && eqSVs l kl) with
        | false => rw [hb] at e; cases e
        | true =>
          rw [hb] at e
          cases e
          rw [Bool.and_eq_true] at hb
          obtain ⟨n, k', hin, hn, hkc', _⟩ := findS_mem hf
          have hin : i = n := by omega
          subst hin
          intro F w s dst ty pos aft gd
          have hv := (kes _ (List.mem_of_getElem? hn)).2
          obtain ⟨w', r1, r2, r3, r4⟩ := set_map (P := P) (clk' := clk) s ok hg (okEs_set (i := i) kes (hr k) hv)
          refine ⟨_, w', ρ, ?_, .inl rfl, r2, r3, r4, ⟨okV_up (fun _ hd => dom_set hd) _ hv, trivial, trivial⟩⟩
          have hgm := getMap (P := P) s hg
          have hmu := mapT_und hmt w
          have hfk := findS_sound (ρ := ρ) (P := P) hE hkk hf w
          have hkp := keeps (P := P) (ρ := ρ) hkc' hkc hb.1 hb.2 w
          have hget : (es.map (entryOf ρ)).toArray[i]? = some (entryOf ρ (k', v, b)) := by
            rw [List.getElem?_toArray, List.getElem?_map, hn]; rfl
          have hmod : (es.map (entryOf ρ)).toArray.modify i (fun e => { e with key := den ρ (r k) }) = ((setNth es i (r k) v).map (entryOf ρ)).toArray := by
            rw [List.modify_toArray, setNth_map (f := fun e => { e with key := den ρ (r k) }) (fun y hy => by rw [hn] at hy; cases hy; rfl)]
          rw [← hkd] at hfk
          rw [ex, hm]
          unfold Instr.mapEntry
          simp only [Sem.run_bind, hmu, Result.andThen_ok, den, hgm]
          rw [hkd, hck, ← hkd]
          simp only [Result.andThen_ok, hfk, found, Option.map_some, hget, Option.getD_some, entryOf]
          simp only [Sem.run_bind, hkp, Result.andThen_ok]
          rw [hmod, r1]
          simp only [Result.andThen_ok, Sem.run_pure, dens, den, goInt]
      · rename_i hf
        split at e
        · rename_i z hz
          cases e
          obtain ⟨hz1, hz2⟩ := wrapA_run (P := P) (ρ := ρ) hz
          intro F w s dst ty pos aft gd
          obtain ⟨w', r1, r2, r3, r4⟩ := set_map (P := P) (clk' := clk + 1) s ok hg (okEs_app (b := clk) kes (hr k) (hz2 _))
          refine ⟨_, w', ρ, ?_, .inl rfl, r2, r3, r4, ⟨hz2 _, trivial, trivial⟩⟩
          have hgm := getMap (P := P) s hg
          have hmu := mapT_und hmt w
          have hfk := findS_sound (ρ := ρ) (P := P) hE hkk hf w
          rw [← hkd] at hfk
          rw [ex, hm]
          unfold Instr.mapEntry
          simp only [Sem.run_bind, hmu, Result.andThen_ok, den, hgm]
          rw [hkd, hck, ← hkd]
          have hpush : (es.map (entryOf ρ)).toArray.push { key := den ρ (r k), val := den ρ z, born := clk } = ((es ++ [(r k, z, clk)]).map (entryOf ρ)).toArray := by
            simp [entryOf]
          simp only [Result.andThen_ok, hfk, found, Option.map_none, goInt]
          simp only [Sem.run_bind, hz1 w, Result.andThen_ok]
          rw [hpush, r1]
          simp only [Result.andThen_ok, Sem.run_pure, dens, den]
        · cases e
      · cases e
    · cases e
  · cases e
theorem evE_entryStore (ok : okHp h) (hr : ∀ y, okV (dom h) (r y)) {id t : Nat} {m st v : Operand} {x : SV} (e : evE T E G h id r (.entryStore t m st v) = some (x, h')) : EfOk P M ρ h r (.entryStore t m st v) x h' := by
  simp only [evE] at e
  split at e
  · rename_i c b hm hs
    obtain ⟨kd, hst⟩ := natOf_eq hs
    split at e
    · rename_i es clk hg
      split at e
      · rename_i i k v0 hf
        cases e
        have kes := okO_get ok hg
        obtain ⟨n, hin, hn, hne⟩ := findBorn_spec (h := h) hr hf
        have hin : i = n := by omega
        subst hin
        intro F w s dst ty pos aft gd
        have hk := (kes _ (List.mem_of_getElem? hn)).1
        obtain ⟨w', r1, r2, r3, r4⟩ := set_map (P := P) (clk' := clk) s ok hg (okEs_set (i := i) kes hk (hr v))
        refine ⟨_, w', ρ, ?_, .inr ⟨rfl, rfl⟩, r2, r3, r4, trivial⟩
        have ex : execOp (fun y => den ρ (r y)) ⟨dst, .entryStore t m st v, ty, pos, aft, gd⟩ = (do Instr.entryStore t (den ρ (r m)) (den ρ (r st)) (den ρ (r v)); pure .skip) := rfl
        have hgm := getMap (P := P) s hg
        have hmod : (es.map (entryOf ρ)).toArray.modify i (fun e => { e with val := den ρ (r v) }) = ((setNth es i k (r v)).map (entryOf ρ)).toArray := by
          rw [List.modify_toArray, setNth_map (f := fun e => { e with val := den ρ (r v) }) (fun y hy => by rw [hn] at hy; cases hy; rfl)]
        have hfi : (es.map (entryOf ρ)).toArray.findIdx? (fun e => (e.born : Int) == (b : Int)) = some i := by
          rw [List.findIdx?_toArray, List.findIdx?_eq_some_iff_getElem]
          have hlt : i < es.length := (List.getElem?_eq_some_iff.1 hn).1
          refine ⟨by simpa using hlt, ?_, fun j hj => ?_⟩
          · have : es[i] = (k, v0, b) := (List.getElem?_eq_some_iff.1 hn).2
            simp [entryOf, this]
          · have hj2 : j < es.length := by omega
            have := hne j hj es[j] (List.getElem?_eq_getElem hj2)
            simp only [List.getElem_map, entryOf, beq_iff_eq]
            intro q
            exact this (by exact_mod_cast q)
        rw [ex, hm, hst]
        simp only [Instr.entryStore, den, Sem.run_bind, hgm, Result.andThen_ok, asInt, asIntOf, Sem.run_pure, hfi]
        rw [hmod, r1]
        rfl
      · cases e
    · cases e
  · cases e

theorem evE_range (ok : okHp h) (hr : ∀ y, okV (dom h) (r y)) {id t : Nat} {y : Operand} {x : SV} (e : evE T E G h id r (.range t y) = some (x, h')) : EfOk P M ρ h r (.range t y) x h' := by
  simp only [evE] at e
  split at e
  · rename_i ti hti
    have ex : ∀ dst ty pos aft gd, execOp (fun y => den ρ (r y)) ⟨dst, .range t y, ty, pos, aft, gd⟩ = (do pure (.value (← Instr.range t (den ρ (r y))))) := fun dst ty pos aft gd => rfl
    have hu := fun w => run_und (P := P) hti w
    split at e
    · rename_i sb hd hy
      split at e
      · rename_i h1 hn
        cases e
        intro F w s dst ty pos aft gd
        obtain ⟨s', g⟩ := new_ok (loc := ⟨w.heap.size, 0, 0⟩) (o := .stringIter sb 0) (w' := { w with heap := w.heap.push (.stringIter sb 0) }) s ok hn trivial rfl (fun g hg => by
          have hb : (⟨⟨bsOf sb⟩⟩ : ByteArray) = sb := by apply ByteArray.ext; apply Array.ext'; rfl
          refine ⟨?_, by simp [bind1]⟩
          simp only [bind1, if_true, hb]; exact hg)
        refine ⟨_, _, _, ?_, .inl rfl, env_push, s', g, (new_dom hn).1⟩
        rw [ex, hy]
        simp [Instr.range, hu w, hd, newObj, Sem.run, den, bind1]
      · cases e
    · rename_i hd hy
      split at e
      · rename_i h1 hn
        cases e
        intro F w s dst ty pos aft gd
        obtain ⟨s', g⟩ := new_ok (loc := ⟨w.heap.size, 0, 0⟩) (o := .mapIter none 0 #[] 0) (w' := { w with heap := w.heap.push (.mapIter none 0 #[] 0) }) s ok hn (fun _ q => by cases q) rfl (fun g hg => by
          refine ⟨?_, by simp [bind1]⟩
          simp only [bind1, if_true]; exact hg)
        refine ⟨_, _, _, ?_, .inl rfl, env_push, s', g, (new_dom hn).1⟩
        rw [ex, hy]
        simp [Instr.range, hu w, hd, newObj, Sem.run, den, bind1]
      · cases e
    · rename_i c hd hy
      split at e
      · rename_i es clk hg
        split at e
        · rename_i h1 hn
          cases e
          intro F w s dst ty pos aft gd
          have hdc := dom_get hg
          have hne : c ≠ id := fun q => by subst q; exact hdc (hnew_spec hn).1
          obtain ⟨s', g⟩ := new_ok (loc := ⟨w.heap.size, 0, 0⟩) (o := .mapIter (some (ρ c).b) clk #[] clk) (w' := { w with heap := w.heap.push (.mapIter (some (ρ c).b) clk #[] clk) }) s ok hn (fun _ q => by cases q; exact (new_dom hn).2 _ hdc) rfl (fun g hg => by
            refine ⟨?_, by simp [bind1]⟩
            simp only [bind1, if_true, Option.map_some, if_neg hne]; exact hg)
          refine ⟨_, _, _, ?_, .inl rfl, env_push, s', g, (new_dom hn).1⟩
          rw [ex, hy]
          have hgm := getMap (P := P) s hg
          simp [Instr.range, hu w, hd, newObj, Sem.run, den, bind1, hgm]
        · cases e
      · cases e
    · cases e
  · cases e

/-- An object that is no row of cells turns. -/
theorem set_other {c : Nat} {so so' : SO} {ob ob' : Obj} (s : Sat M (objs ρ h ++ F) w) (ok : okHp h) (hg : hget h c = some so) (ho : ∀ g, objP ρ c so g → g (ρ c).b = some ob) (hcells : ∀ c t z, ob ≠ .cells c t z) (hn : ∀ g : Heap, objP ρ c so g → ∀ g' : Heap, g' (ρ c).b = some ob' → objP ρ c so' g') (hk : okO (dom h) so') :
    ∃ w', (setObj (ρ c).b ob').run P w = .ok () w' ∧ Env w w' ∧ Sat M (objs ρ (hset h c so') ++ F) w' ∧ Grew h (hset h c so') ρ ρ := by
  have hob : w.heap[(ρ c).b]? = some ob := ho _ (s.objAt hg)
  refine ⟨{ w with heap := w.heap.setIfInBounds (ρ c).b ob' }, ?_, ⟨rfl, rfl, rfl, by simp⟩, ?_, ⟨fun c k => dom_set k, fun _ _ => rfl, okHp_set ok (hget_spec hg).2 (okO_up (fun _ hd => dom_set hd) hk)⟩⟩
  · cases ob <;> first | (exact absurd rfl (hcells _ _ _)) | simp [setObj, Sem.run, hob]
  · refine s.objSet hg (fun g hgg => ⟨_, ho g hgg⟩) (ob' := ob') (fun x => ?_) fun g hgg => hn _ (s.objAt hg) g hgg
    have hlt : (ρ c).b < w.heap.size := (Array.getElem?_eq_some_iff.1 hob).1
    simp only [Array.getElem?_setIfInBounds]
    by_cases hx : (ρ c).b = x
    · subst hx; simp [hlt]
    · have : ¬ x = (ρ c).b := fun q => hx q.symm
      simp [hx, this]
theorem evE_next (ok : okHp h) (hr : ∀ y, okV (dom h) (r y)) {id : Nat} {y : Operand} {str : Bool} {x : SV} (e : evE T E G h id r (.next y str) = some (x, h')) : EfOk P M ρ h r (.next y str) x h' := by
  simp only [evE] at e
  split at e
  · rename_i c hy
    have ex : ∀ dst ty pos aft gd, execOp (fun y => den ρ (r y)) ⟨dst, .next y str, ty, pos, aft, gd⟩ = (do pure (.value (← Instr.next (den ρ (r y)) str ty))) := fun dst ty pos aft gd => rfl
    split at e
    · -- a string
      rename_i sb pos0 hg
      have hobj : ∀ F w, Sat M (objs ρ h ++ F) w → (getObj (ρ c).b).run P w = .ok (.stringIter ⟨⟨sb⟩⟩ pos0) w ∧ (ρ c).o = 0 := fun F w s => by
        have ho : objP ρ c (.sit sb pos0) (hp w) := s.objAt hg
        have h1 : w.heap[(ρ c).b]? = some (.stringIter ⟨⟨sb⟩⟩ pos0) := ho.1
        exact ⟨by simp [getObj, Sem.run, h1], ho.2⟩
      split at e
      · rename_i hd
        cases e
        intro F w s dst ty pos aft gd
        obtain ⟨g1, g0⟩ := hobj F w s
        refine ⟨_, w, ρ, ?_, .inl rfl, .refl w, s, .refl ok, trivial, trivial⟩
        have hnl : ¬ pos0 < (⟨⟨sb⟩⟩ : ByteArray).size := by
          have : sb.length ≤ pos0 := by simpa [List.drop_eq_nil_iff] using hd
          show ¬ pos0 < sb.length
          omega
        rw [ex, hy]
        simp only [den, g0, Nat.add_zero, Instr.next, Sem.run_bind, g1, Result.andThen_ok, hnl, if_false, Sem.run_pure, dens]
      · rename_i b rest hd
        cases hb : Nat.blt b.toNat 128 with
        | false => rw [hb] at e; cases e
        | true =>
          rw [hb] at e
          cases e
          have hb' : b.toNat < 128 := by simpa using hb
          have hget : sb[pos0]? = some b := by
            have : (sb.drop pos0)[0]? = some b := by rw [hd]; rfl
            simpa using this
          have hlt : pos0 < sb.length := (List.getElem?_eq_some_iff.1 hget).1
          intro F w s dst ty pos aft gd
          obtain ⟨g1, g0⟩ := hobj F w s
          obtain ⟨w', r1, r2, r3, r4⟩ := set_other (P := P) (so' := .sit sb (pos0 + 1)) (ob' := .stringIter ⟨⟨sb⟩⟩ (pos0 + 1)) s ok hg (fun g q => q.1) (by simp) (fun g q g' q' => ⟨q', q.2⟩) trivial
          refine ⟨_, w', ρ, ?_, .inl rfl, r2, r3, r4, trivial, trivial, trivial, trivial⟩
          have hdec : Utf8.decode ⟨⟨sb⟩⟩ pos0 = (b.toNat, 1) := by
            have h1 : ((⟨⟨sb⟩⟩ : ByteArray).get! (pos0 + 0)).toNat = b.toNat := by
              have : (⟨⟨sb⟩⟩ : ByteArray).get! pos0 = b := by
                show (⟨sb⟩ : Array UInt8)[pos0]! = b
                rw [getElem!_pos (⟨sb⟩ : Array UInt8) pos0 hlt]
                have := (List.getElem?_eq_some_iff.1 hget).2
                exact this
              rw [Nat.add_zero, this]
            unfold Utf8.decode
            simp only [h1]
            rw [if_pos (by omega)]
          rw [ex, hy]
          have hlt2 : pos0 < (⟨⟨sb⟩⟩ : ByteArray).size := hlt
          simp only [den, g0, Nat.add_zero, Instr.next, Sem.run_bind, g1, Result.andThen_ok, hlt2, if_true, hdec, r1, Sem.run_pure, dens, goInt]
    · rename_i since seen last hg
      cases e
      intro F w s dst ty pos aft gd
      obtain ⟨g1, g0⟩ := getMit (P := P) (r := r) hr s hg
      refine ⟨_, w, ρ, ?_, .inl rfl, .refl w, s, .refl ok, trivial, trivial⟩
      rw [ex, hy]
      simp only [den, g0, Nat.add_zero, Instr.next, Sem.run_bind, g1, Option.map_none, Result.andThen_ok, Sem.run_pure, dens]
    · rename_i m since seen last hg
      split at e
      · rename_i es clk hm
        split at e
        · cases e
          intro F w s dst ty pos aft gd
          obtain ⟨g1, g0⟩ := getMit (P := P) (r := r) hr s hg
          have g2 := getMap (P := P) s hm
          refine ⟨_, w, ρ, ?_, .inl rfl, .refl w, s, .refl ok, trivial, trivial⟩
          rw [ex, hy]
          simp [den, g0, Instr.next, g1, g2, dens, choose, Sem.run, Question.forced]
        · rename_i k v b
          have kes := okO_get ok hm _ (List.mem_singleton.2 rfl)
          split at e
          · cases hb : Nat.blt b since with
            | false => rw [hb] at e; cases e
            | true =>
              rw [hb] at e
              cases e
              have hlt : b < since := by simpa using hb
              have hns : ¬ since ≤ b := by omega
              intro F w s dst ty pos aft gd
              obtain ⟨g1, g0⟩ := getMit (P := P) (r := r) hr s hg
              have g2 := getMap (P := P) s hm
              obtain ⟨w', r1, r2, r3, r4⟩ := set_other (P := P) (so' := .mit (some m) since [b] clk) (ob' := .mapIter (some (ρ m).b) since #[b] clk) s ok hg (fun g q => q.1) (by simp) (fun g q g' q' => ⟨q', q.2⟩) (by have := okO_get ok hg; exact this)
              refine ⟨_, w', ρ, ?_, .inl rfl, r2, r3, r4, trivial, okV_up (fun _ hd => dom_set hd) _ kes.1, okV_up (fun _ hd => dom_set hd) _ kes.2, trivial⟩
              rw [ex, hy]
              simp [den, g0, Instr.next, g1, g2, dens, choose, Sem.run, Question.forced, entryOf, hlt, hns, r1]
          · rename_i b'
            cases hb : (Nat.beq b b' && Nat.blt b last) with
            | false => rw [hb] at e; cases e
            | true =>
              rw [hb] at e
              cases e
              rw [Bool.and_eq_true] at hb
              obtain rfl := Nat.eq_of_beq_eq_true hb.1
              have hlt : b < last := by simpa using hb.2
              have hnle : ¬ last ≤ b := by omega
              intro F w s dst ty pos aft gd
              obtain ⟨g1, g0⟩ := getMit (P := P) (r := r) hr s hg
              have g2 := getMap (P := P) s hm
              refine ⟨_, w, ρ, ?_, .inl rfl, .refl w, s, .refl ok, trivial, trivial⟩
              rw [ex, hy]
              simp [den, g0, Instr.next, g1, g2, dens, choose, Sem.run, Question.forced, entryOf, hnle]
          · cases e
        · cases e
      · cases e
    · cases e
  · cases e
end
end Go.Gv
