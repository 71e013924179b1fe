/- What acts: each operation. -/
import Derived.Test.YtnennjhbajpbfaaGreatDoorGvZ
namespace Go.Gv
set_option linter.unusedVariables false
set_option linter.unusedSimpArgs false
set_option linter.unusedSectionVars false

section
variable {P : Program} {T : TT P} {E : EqT} {G : GT} {M : Heap} {ρ : Rho} {h h' : Hp} {F : List HP} {w w' : World} {r : Operand → SV}

def EfOk (P : Program) (M : Heap) (ρ : Rho) (h : Hp) (r : Operand → SV) (op : Op) (x : SV) (h' : Hp) : Prop :=
  ∀ F w, Sat M (objs ρ h ++ F) w → ∀ dst ty pos aft gd, ∃ n w' ρ', (execOp (fun y => den ρ (r y)) ⟨dst, op, ty, pos, aft, gd⟩).run P w = .ok n w' ∧ (n = .value (den ρ' x) ∨ (n = .skip ∧ x = dv)) ∧
    Env w w' ∧ Sat M (objs ρ' h' ++ F) w' ∧ Grew h h' ρ ρ' ∧ okV (dom h') x

theorem zeroS_run {t : Nat} {z : List SV} (e : zeroS T t = some z) : ∃ z' : Value, z = z'.cells.toList.map .v ∧ ∀ w, (zeroValue t).run P w = .ok z' w := by
  unfold zeroS at e
  split at e
  · rename_i ti hti; cases e; exact ⟨_, rfl, TT.zer hti⟩
  · cases e
theorem env_push {o : Obj} : Env w { w with heap := w.heap.push o } := ⟨rfl, rfl, rfl, by simp⟩
theorem evE_alloc (ok : okHp h) {id el : Nat} {x : SV} (e : evE T E G h id r (.alloc el) = some (x, h')) : EfOk P M ρ h r (.alloc el) x h' := by
  simp only [evE] at e
  split at e
  · rename_i z hz
    split at e
    · rename_i h1 hn
      cases e
      obtain ⟨z', rfl, hz2⟩ := zeroS_run hz
      intro F w s dst ty pos aft gd
      obtain ⟨s', g⟩ := new_cells (z := (0, 0)) (cap := 0) (post := []) (w' := { w with heap := w.heap.push (.cells z'.cells el) }) s ok hn (okVs_v _) (by simp [dens_v]) (.inl rfl) (fun _ _ q => by cases q)
      refine ⟨_, _, _, ?_, .inl rfl, env_push, s', g, (new_dom hn).1⟩
      have : execOp (fun y => den ρ (r y)) ⟨dst, .alloc el, ty, pos, aft, gd⟩ = (do pure (.value (← Instr.alloc el true (.tuple #[])))) := rfl
      rw [this]
      simp [Instr.alloc, hz2 w, newVar, Go.newRow, newObj, Sem.run, den, bind1]
    · cases e
  · cases e
theorem evE_box (ok : okHp h) (hr : ∀ y, okV (dom h) (r y)) {id el : Nat} {y : Operand} {x : SV} (e : evE T E G h id r (.box el y) = some (x, h')) : EfOk P M ρ h r (.box el y) x h' := by
  simp only [evE] at e
  cases hb : (cellsOf (r y)).all scalar with
  | false => rw [hb] at e; cases e
  | true =>
    rw [hb] at e
    simp only [cond_true] at e
    split at e
    · rename_i h1 hn
      cases e
      intro F w s dst ty pos aft gd
      obtain ⟨s', g⟩ := new_cells (z := (0, 0)) (cap := 0) (post := []) (w' := { w with heap := w.heap.push (.cells (den ρ (r y)).cells el) }) s ok hn (okV_cells (hr y)) (by rw [List.append_nil, ← cells_den]) (.inl rfl) (fun _ _ q => by cases q)
      refine ⟨_, _, _, ?_, .inl rfl, env_push, s', g, (new_dom hn).1⟩
      have : execOp (fun y => den ρ (r y)) ⟨dst, .box el y, ty, pos, aft, gd⟩ = (do pure (.value (← Instr.box el (den ρ (r y))))) := rfl
      rw [this]
      simp [Instr.box, newVar, Go.newRow, newObj, Sem.run, den, bind1]
    · cases e
theorem repl_eq : ∀ (n : Nat) (z : List SV), repl n z = (List.replicate n z).flatten
  | 0, z => rfl
  | n + 1, z => by simp [repl, repl_eq n z, List.replicate_succ]
theorem dens_repl (n : Nat) (z : List Value) : dens ρ (repl n (z.map .v)) = (List.replicate n z).flatten := by
  induction n with
  | zero => rfl
  | succ n ih => rw [repl, dens_map, List.map_append, ← dens_map, ← dens_map, ih, dens_v, List.replicate_succ, List.flatten_cons]
theorem okVs_repl {D : Nat → Prop} (n : Nat) (z : List Value) : okVs D (repl n (z.map .v)) := by
  induction n with
  | zero => trivial
  | succ n ih => exact okVs_app (okVs_v _) ih
theorem evE_buildSlice (ok : okHp h) (hr : ∀ y, okV (dom h) (r y)) {id t n : Nat} {parts : Array (Nat × Operand)} {x : SV} (e : evE T E G h id r (.buildSlice t n parts) = some (x, h')) : EfOk P M ρ h r (.buildSlice t n parts) x h' := by
  simp only [evE] at e
  split at e
  · rename_i el sz by_ hel
    split at e
    · rename_i z hz
      cases hb : (Nat.ble (n * sz) 10000 && Nat.ble 1 sz && Nat.beq z.length sz) with
      | false => rw [hb] at e; cases e
      | true =>
        rw [hb] at e
        simp only [cond_true] at e
        rw [Bool.and_eq_true, Bool.and_eq_true] at hb
        have hle := Nat.le_of_ble_eq_true hb.1.1
        have hzl := Nat.eq_of_beq_eq_true hb.2
        obtain ⟨z', hz1, hz2⟩ := zeroS_run hz
        subst hz1
        split at e
        · rename_i l hl
          split at e
          · rename_i h1 hn
            cases e
            obtain ⟨hu, hs, _⟩ := elemT_spec hel
            intro F w s dst ty pos aft gd
            have hf := fillS_sound (ρ := ρ) hl
            rw [dens_repl] at hf
            have hzc : z'.cells.toList.length = sz := by simpa using hzl
            have hcells := zeros_flat (len := n) (z' := z') hzc rfl
            have hf2 := fill_of_fillL (cells := (Array.range (n * sz)).map (z'.cells[· % z'.cells.size]!)) (by rw [hcells]; exact hf)
            have hbig : ¬ (n * sz > 2 ^ 24) := by
              have : (2 : Nat) ^ 24 = 16777216 := by decide
              omega
            have kl : okVs (dom h) l := okVs_fill hl (okVs_repl n _) fun p hp => by obtain ⟨q, _, rfl⟩ := List.mem_map.1 hp; exact hr _
            obtain ⟨s', g⟩ := new_cells (z := (0, 0)) (cap := 0) (post := []) (w' := { w with heap := w.heap.push (.cells (dens ρ l).toArray el) }) s ok hn kl (by simp) (.inl rfl) (fun _ _ q => by cases q)
            refine ⟨_, _, _, ?_, .inl rfl, env_push, s', g, (new_dom hn).1⟩
            have : execOp (fun y => den ρ (r y)) ⟨dst, .buildSlice t n parts, ty, pos, aft, gd⟩ = (do pure (.value (← Instr.buildSlice t n (parts.map fun p => (p.1, den ρ (r p.2)))))) := rfl
            rw [this]
            have hparts : (parts.map fun p => (p.1, den ρ (r p.2))).toList = (parts.toList.map fun p => (p.1, r p.2)).map fun p => (p.1, den ρ p.2) := by
              rw [Array.toList_map, List.map_map]; rfl
            unfold Instr.buildSlice
            simp only [Sem.run_bind, hu w, hs w, Result.andThen_ok]
            rw [if_neg hbig]
            by_cases h0 : n * sz = 0
            · have e0 : (Array.range (n * sz)).map (fun x => (#[] : Array Value)[x % (#[] : Array Value).size]!) = (Array.range (n * sz)).map (z'.cells[· % z'.cells.size]!) := by rw [h0]; simp
              rw [hparts]
              simp only [h0, if_true, Sem.run_pure, Sem.run_bind, Result.andThen_ok] at hf2 e0 ⊢
              rw [e0, hf2]
              simp [Go.newRow, newObj, Sem.run, den, bind1, sOff, sCap]
            · rw [hparts]
              simp only [h0, if_false, Sem.run_bind, hz2 w, Result.andThen_ok, Sem.run_pure]
              rw [hf2]
              simp [Go.newRow, newObj, Sem.run, den, bind1, sOff, sCap]
          · cases e
        · cases e
    · cases e
  · cases e
theorem evE_makeMap (ok : okHp h) {id t : Nat} {rs : Option Operand} {x : SV} (e : evE T E G h id r (.makeMap t rs) = some (x, h')) : EfOk P M ρ h r (.makeMap t rs) x h' := by
  cases rs with
  | some _ => simp [evE] at e
  | none =>
    simp only [evE] at e
    split at e
    · rename_i h1 hn
      cases e
      intro F w s dst ty pos aft gd
      obtain ⟨s', g⟩ := new_ok (loc := ⟨w.heap.size, 0, 0⟩) (o := .map #[] 0) (w' := { w with heap := w.heap.push (.map #[] 0) }) s ok hn (fun _ hx => by cases hx) rfl (fun g hg => by
        show g _ = _
        simp only [bind1, if_true]; exact hg)
      refine ⟨_, _, _, ?_, .inl rfl, env_push, s', g, (new_dom hn).1⟩
      have : execOp (fun y => den ρ (r y)) ⟨dst, .makeMap t none, ty, pos, aft, gd⟩ = (do pure (.value (← Instr.makeMap t none))) := rfl
      rw [this]
      simp [Instr.makeMap, newObj, Sem.run, den, bind1]
    · cases e
theorem evE_store (ok : okHp h) (hr : ∀ y, okV (dom h) (r y)) {id t : Nat} {a y : Operand} {x : SV} (e : evE T E G h id r (.store t a y) = some (x, h')) : EfOk P M ρ h r (.store t a y) x h' := by
  simp only [evE] at e
  split at e
  · rename_i ag n c o ht hx
    cases hb : Nat.beq (cellsOf (r y)).length n with
    | false => rw [hb] at e; cases e
    | true =>
      rw [hb] at e
      simp only [cond_true] at e
      have hlen := Nat.eq_of_beq_eq_true hb
      split at e
      · rename_i h1 hs
        cases e
        unfold storeS at hs
        split at hs
        · rename_i el l opn fz hg
          cases hb2 : (Nat.ble fz o && (cellsOf (r y)).all scalar) with
          | false => rw [hb2] at hs; cases hs
          | true =>
            rw [hb2] at hs
            simp only [cond_true] at hs
            rw [Bool.and_eq_true] at hb2
            split at hs
            · rename_i l' hp
              cases hs
              obtain ⟨p1, rfl⟩ := putN_eq hp
              intro F w s dst ty pos aft gd
              obtain ⟨w', r1, r2, r3, r4⟩ := store_obj (P := P) s ok hg hb2.2 (okV_cells (hr y)) (Nat.le_of_ble_eq_true hb2.1) (by omega) (fun m _ => by omega)
              refine ⟨_, w', ρ, ?_, .inr ⟨rfl, rfl⟩, r2, r3, r4, trivial⟩
              have : execOp (fun y => den ρ (r y)) ⟨dst, .store t a y, ty, pos, aft, gd⟩ = (do Instr.storeAt t (den ρ (r a)) (den ρ (r y)); pure .skip) := rfl
              have hsz : (den ρ (r y)).cells.size = n := by
                have := congrArg List.length (cells_den (ρ := ρ) (r y))
                rw [dens_len, hlen] at this
                simpa using this
              rw [this, hx]
              simp only [Instr.storeAt, den, Instr.sureAddr, Sem.run_bind, Sem.run_pure, Result.andThen_ok, storeVar, (aggT_isa ht).2 w, hsz, ne_eq, not_true_eq_false, if_false, cells_den, r1]
            · cases hs
        · cases hs
      · cases e
  · cases e

/-- A map turns. -/
theorem set_map {c clk clk' : Nat} {es es' : List (SV × SV × Nat)} (s : Sat M (objs ρ h ++ F) w) (ok : okHp h) (hg : hget h c = some (.map es clk)) (hk : ∀ e ∈ es', okV (dom h) e.1 ∧ okV (dom h) e.2.1) :
    ∃ w', (setObj (ρ c).b (.map (es'.map (entryOf ρ)).toArray clk')).run P w = .ok () w' ∧ Env w w' ∧ Sat M (objs ρ (hset h c (.map es' clk')) ++ F) w' ∧ Grew h (hset h c (.map es' clk')) ρ ρ := by
  have ho : w.heap[(ρ c).b]? = some (.map (es.map (entryOf ρ)).toArray clk) := s.objAt hg
  refine ⟨{ w with heap := w.heap.setIfInBounds (ρ c).b (.map (es'.map (entryOf ρ)).toArray clk') }, ?_, ⟨rfl, rfl, rfl, by simp⟩, ?_, ⟨fun c k => dom_set k, fun _ _ => rfl, okHp_set ok (hget_spec hg).2 fun e he => ⟨okV_up (fun _ hd => dom_set hd) _ (hk e he).1, okV_up (fun _ hd => dom_set hd) _ (hk e he).2⟩⟩⟩
  · simp [setObj, Sem.run, ho]
  · refine s.objSet hg (fun g hgg => ⟨_, hgg⟩) (ob' := .map (es'.map (entryOf ρ)).toArray clk') (fun x => ?_) fun g hgg => hgg
    have hlt : (ρ c).b < w.heap.size := (Array.getElem?_eq_some_iff.1 ho).1
    simp only [Array.getElem?_setIfInBounds]
    by_cases hx : (ρ c).b = x
    · subst hx; simp [hlt]
    · have : ¬ x = (ρ c).b := fun q => hx q.symm
      simp [hx, this]
theorem okEs_app {D : Nat → Prop} {es : List (SV × SV × Nat)} {k v : SV} {b : Nat} (h1 : ∀ e ∈ es, okV D e.1 ∧ okV D e.2.1) (hk : okV D k) (hv : okV D v) : ∀ e ∈ es ++ [(k, v, b)], okV D e.1 ∧ okV D e.2.1 := fun e he => by
  rcases List.mem_append.1 he with q | q
  · exact h1 e q
  · obtain rfl := List.mem_singleton.1 q; exact ⟨hk, hv⟩
theorem okEs_set {D : Nat → Prop} {k v : SV} : ∀ {es : List (SV × SV × Nat)} {i : Nat}, (∀ e ∈ es, okV D e.1 ∧ okV D e.2.1) → okV D k → okV D v → ∀ e ∈ setNth es i k v, okV D e.1 ∧ okV D e.2.1
  | [], _, _, _, _ => fun e he => by cases he
  | (k', v', b') :: es, 0, h1, hk, hv => fun e he => by
    simp only [setNth, List.mem_cons] at he
    rcases he with rfl | q
    · exact ⟨hk, hv⟩
    · exact h1 e (by simp [q])
  | x :: es, i + 1, h1, hk, hv => fun e he => by
    simp only [setNth, List.mem_cons] at he
    rcases he with rfl | q
    · exact h1 x (by simp)
    · exact okEs_set (fun e he => h1 e (by simp [he])) hk hv e q
theorem setNth_map {k v : SV} {f : MapEntry → MapEntry} : ∀ {es : List (SV × SV × Nat)} {i : Nat}, (∀ x, es[i]? = some x → f (entryOf ρ x) = entryOf ρ (k, v, x.2.2)) → (setNth es i k v).map (entryOf ρ) = (es.map (entryOf ρ)).modify i f
  | [], i, _ => by simp [setNth]
  | (k', v', b') :: es, 0, h => by simp [setNth, h _ rfl]
  | x :: es, i + 1, h => by simp [setNth, setNth_map (es := es) (i := i) (fun y hy => h y (by simpa using hy))]
theorem delNth_map : ∀ {es : List (SV × SV × Nat)} {i : Nat}, (delNth es i).map (entryOf ρ) = (es.map (entryOf ρ)).eraseIdx i
  | [], i => by simp [delNth]
  | x :: es, 0 => by simp [delNth]
  | x :: es, i + 1 => by simp [delNth, delNth_map (es := es) (i := i)]
theorem delNth_mem : ∀ {es : List (SV × SV × Nat)} {i : Nat} {e : SV × SV × Nat}, e ∈ delNth es i → e ∈ es
  | [], i, e, h => by simp [delNth] at h
  | x :: es, 0, e, h => by simp [delNth] at h; simp [h]
  | x :: es, i + 1, e, h => by
    simp only [delNth, List.mem_cons] at h
    rcases h with rfl | q
    · simp
    · simp [delNth_mem q]
end
end Go.Gv
