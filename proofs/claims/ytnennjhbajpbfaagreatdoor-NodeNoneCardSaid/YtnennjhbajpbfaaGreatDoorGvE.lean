/- Loads, stores, new blocks, calls. -/
import Derived.Test.YtnennjhbajpbfaaGreatDoorGvD
namespace Go.Gv
set_option linter.unusedVariables false
set_option linter.unusedSimpArgs false
set_option linter.unusedSectionVars false

/-- A block of one's own, whole. -/
def blk (b : Nat) (l : List Value) : HP := fun h => ∃ t, h b = some (.cells l.toArray t (0, 0))

section
variable {P : Program} {M : Heap} {N : Nat} {e : TEnv} {L L' F : List HP} {Q : Exit → TEnv → List HP → Prop} {T : TT P} {k : List It} {w : World}

theorem Sat.tail {A : HP} (s : Sat M (A :: L) w) : Sat M L w := s.ent .drop
theorem Sat.app_left (s : Sat M (L ++ F) w) : Sat M L w :=
  s.ent fun h x => let ⟨_, _, _, s1, _, a, _⟩ := stars_app.1 x; stars_up a s1

/-! ### Loads -/
def Ld (M : Heap) (L : List HP) (a : Go.Addr) (v : Value) : Prop := ∀ w, Sat M L w → w.cell? a = some v
def LdN (M : Heap) (L : List HP) (a : Go.Addr) (vs : List Value) : Prop := ∀ w, Sat M L w → ∀ i, i < vs.length → w.cell? (a.add i) = vs[i]?
theorem cell_of_block {b o : Nat} {l : List Value} {t : TypeId} {f : Nat × Nat} (h : w.heap[b]? = some (.cells l.toArray t f)) : w.cell? ⟨b, o, none⟩ = l[o]? := by
  simp [World.cell?, h]
theorem add_none {b o i : Nat} : (⟨b, o, none⟩ : Go.Addr).add i = ⟨b, o + i, none⟩ := by
  unfold Go.Addr.add; split <;> simp_all
theorem Ld.tail {A : HP} {a : Go.Addr} {v : Value} (h : Ld M L a v) : Ld M (A :: L) a v := fun w s => h w s.tail
theorem Ld.head {b o : Nat} {l : List Value} {v : Value} (h : l[o]? = some v) : Ld M (blk b l :: L) ⟨b, o, none⟩ v := fun w s => by
  obtain ⟨_, g, gs, _, h1, _, _, s1, _, ⟨t, p⟩, _⟩ := s
  rw [cell_of_block ((s1.trans gs) _ _ p), h]
theorem Ld.ro {b o : Nat} {l : List Value} {v : Value} (r : Ro M (blk b l)) (h : l[o]? = some v) : Ld M L ⟨b, o, none⟩ v := fun w s => by
  obtain ⟨g, a, t, p⟩ := r
  rw [cell_of_block ((a.trans s.imm) _ _ p), h]
theorem LdN.tail {A : HP} {a : Go.Addr} {vs : List Value} (h : LdN M L a vs) : LdN M (A :: L) a vs := fun w s => h w s.tail
theorem LdN.head {b o n : Nat} {l vs : List Value} (h : (l.drop o).take n = vs) (hn : o + n ≤ l.length) : LdN M (blk b l :: L) ⟨b, o, none⟩ vs := fun w s i hi => by
  obtain ⟨_, g, gs, _, h1, _, _, s1, _, ⟨t, p⟩, _⟩ := s
  subst h
  rw [add_none, cell_of_block ((s1.trans gs) _ _ p)]
  have : i < n := by have := hi; simp at this; omega
  simp [this]
theorem LdN.whole {b : Nat} {l : List Value} : LdN M (blk b l :: L) ⟨b, 0, none⟩ l := LdN.head (n := l.length) (by simp) (by simp)
theorem LdN.ro {b o n : Nat} {l vs : List Value} (r : Ro M (blk b l)) (h : (l.drop o).take n = vs) (hn : o + n ≤ l.length) : LdN M L ⟨b, o, none⟩ vs := fun w s i hi => by
  obtain ⟨g, a, t, p⟩ := r
  subst h
  rw [add_none, cell_of_block ((a.trans s.imm) _ _ p)]
  have : i < n := by have := hi; simp at this; omega
  simp [this]

theorem loadCellsFrom_run {a : Go.Addr} : ∀ {n i : Nat} {acc : Array Value} {vs : List Value}, vs.length = n → (∀ j, j < n → w.cell? (a.add (i + j)) = vs[j]?) →
    (loadCellsFrom a i n acc).run P w = .ok (acc ++ vs.toArray) w
  | 0, i, acc, vs, hl, _ => by
    have : vs = [] := List.eq_nil_of_length_eq_zero hl
    subst this; simp [loadCellsFrom]
  | n + 1, i, acc, [], hl, _ => by simp at hl
  | n + 1, i, acc, v :: vs, hl, h => by
    have h0 := h 0 (by omega)
    simp only [Nat.add_zero, List.getElem?_cons_zero] at h0
    have : (load (a.add i)).run P w = .ok v w := by simp [load, Sem.run, h0]
    simp only [loadCellsFrom, Sem.run_bind, this, Result.andThen_ok]
    rw [loadCellsFrom_run (vs := vs) (by simpa using hl) (fun j hj => by
      have := h (j + 1) (by omega)
      simpa [Nat.add_assoc, Nat.add_comm 1 j] using this)]
    simp

def aggT (T : TT P) (t : Nat) : Option (Bool × Nat) := match T.get t with | some ti => some (ti.agg, ti.size) | none => none
theorem aggT_isa {t n : Nat} {b : Bool} (h : aggT T t = some (b, n)) : (∀ w, (isAgg t).run P w = .ok b w) ∧ ∀ w, (sizeOf t).run P w = .ok n w := by
  unfold aggT at h
  split at h
  · rename_i ti hti; cases h; exact ⟨TT.isa hti, TT.siz hti⟩
  · cases h

theorem SemT.load1 {t n : Nat} {a : Go.Addr} {v : Value} {K : Value → List HP → Prop} (ht : aggT T t = some (false, n)) (hl : Ld M L a v) (hk : K v L) : SemT P M (loadVar t a) L K := by
  refine SemT.still (a := v) (fun F w s => ⟨w, ?_, rfl, .refl w⟩) hk
  have : (load a).run P w = .ok v w := by simp [load, Sem.run, hl w s.app_left]
  simp only [loadVar, Sem.run_bind, (aggT_isa ht).1 w, Result.andThen_ok, Bool.false_eq_true, if_false]
  exact this
theorem SemT.loadN {t n : Nat} {a : Go.Addr} {vs : List Value} {K : Value → List HP → Prop} (ht : aggT T t = some (true, n)) (hn : vs.length = n) (hl : LdN M L a vs) (hk : K (.agg vs.toArray) L) : SemT P M (loadVar t a) L K := by
  refine SemT.still (a := .agg vs.toArray) (fun F w s => ⟨w, ?_, rfl, .refl w⟩) hk
  have h2 : (loadCells a n).run P w = .ok vs.toArray w := by
    unfold loadCells
    rw [loadCellsFrom_run hn (fun j hj => by rw [Nat.zero_add]; exact hl w s.app_left j (by omega))]
    simp
  simp [loadVar, (aggT_isa ht).1 w, (aggT_isa ht).2 w, h2]

theorem gL {arr : Array Oper} {dst : Option Nat} {t n : Nat} {x : Operand} {ty : TypeId} {pos : String} {aft : Array Edge} {l : List Oper} {a : Go.Addr} {v : Value} (T : TT P)
    (ht : aggT T t = some (false, n)) (hx : ev N e x = .pointer (some a)) (hl : Ld M L a v) (h : Exec P M N (.ops arr l :: k) (upd e dst v) L Q) :
    Exec P M N (.ops arr (⟨dst, .load t x, ty, pos, aft, none⟩ :: l) :: k) e L Q :=
  Exec.op (opT.of_value (by rw [hx]; exact SemT.load1 ht hl h))
theorem gLN {arr : Array Oper} {dst : Option Nat} {t n : Nat} {x : Operand} {ty : TypeId} {pos : String} {aft : Array Edge} {l : List Oper} {a : Go.Addr} {vs : List Value} (T : TT P)
    (ht : aggT T t = some (true, n)) (hx : ev N e x = .pointer (some a)) (hl : LdN M L a vs) (hn : vs.length = n) (h : Exec P M N (.ops arr l :: k) (upd e dst (.agg vs.toArray)) L Q) :
    Exec P M N (.ops arr (⟨dst, .load t x, ty, pos, aft, none⟩ :: l) :: k) e L Q :=
  Exec.op (opT.of_value (by rw [hx]; exact SemT.loadN ht hn hl h))

/-! ### Reads in a region that draws -/
def onB (arr : Array Oper) (N : Nat) (e : TEnv) : Option (Nat × Bool) → Bool
  | none => true
  | some (j, b) => match gb arr N e j with
    | some t => t == b
    | none => false
theorem onB_wanted {arr : Array Oper} {o : Oper} (h : onB arr N e o.guard = true) : wantedE arr N e o = true := by
  unfold onB at h
  split at h
  · rename_i hg; simp [wantedE, Region.wanted, hg]
  · rename_i hg
    split at h
    · rename_i ht
      have := beq_iff_eq.1 h
      subst this
      simp [wantedE, Region.wanted, hg, ht]
    · cases h
theorem Exec.rd {arr : Array Oper} {i : Nat} {l : Tr} {o : Oper} {v : Value} (ho : arr[i]? = some o) (hg : onB arr N e o.guard = true)
    (hv : ∀ F w, Sat M (L ++ F) w → ∃ w', (execOp (ev N e) o).run P w = .ok (.value v) w' ∧ w'.heap = w.heap ∧ Env w w') (H : Exec P M N (.dr arr l :: k) (upd e o.dst v) L Q) : Exec P M N (.dr arr (.cons (.rd i) l) :: k) e L Q :=
  ⟨o, v, ho, .inl ⟨onB_wanted hg, hv⟩, H⟩
def ldw (T : TT P) (arr : Array Oper) (N : Nat) (e : TEnv) (i : Nat) : Option (Option Nat × Bool × Nat × Go.Addr) :=
  match arr[i]? with
  | some ⟨dst, .load t x, _, _, _, gd⟩ => bif onB arr N e gd then (match aggT T t with
    | some (g, n) => match ev N e x with
      | .pointer (some a) => some (dst, g, n, a)
      | _ => none
    | none => none) else none
  | _ => none
theorem ldw_spec {arr : Array Oper} {i n : Nat} {d : Option Nat} {g : Bool} {a : Go.Addr} (h : ldw T arr N e i = some (d, g, n, a)) :
    ∃ o, arr[i]? = some o ∧ onB arr N e o.guard = true ∧ o.dst = d ∧ ∃ t, aggT T t = some (g, n) ∧ execOp (ev N e) o = (do pure (.value (← loadVar t a))) := by
  unfold ldw at h
  split at h
  · rename_i dst t x ty pos aft gd ho
    cases hb : onB arr N e gd with
    | false => rw [hb] at h; cases h
    | true =>
      rw [hb] at h
      simp only [cond_true] at h
      split at h
      · rename_i ht
        split at h
        · rename_i hx
          cases h
          refine ⟨_, ho, hb, rfl, t, ht, ?_⟩
          simp [execOp, Instr.loadAt, hx, Instr.sureAddr]
        · cases h
      · cases h
  · cases h
theorem gL6 {arr : Array Oper} {i n : Nat} {l : Tr} {d : Option Nat} {a : Go.Addr} {v : Value} (T : TT P) (h : ldw T arr N e i = some (d, false, n, a)) (hl : Ld M L a v) (H : Exec P M N (.dr arr l :: k) (upd e d v) L Q) : Exec P M N (.dr arr (.cons (.rd i) l) :: k) e L Q := by
  obtain ⟨o, ho, hg, rfl, t, ht, hx⟩ := ldw_spec h
  refine Exec.rd ho hg (fun F w s => ⟨w, ?_, rfl, .refl w⟩) H
  rw [hx]
  have : (load a).run P w = .ok v w := by simp [load, Sem.run, hl w s.app_left]
  simp only [loadVar, Sem.run_bind, (aggT_isa ht).1 w, Result.andThen_ok, Bool.false_eq_true, if_false, this]
  rfl
theorem gL7 {arr : Array Oper} {i n : Nat} {l : Tr} {d : Option Nat} {a : Go.Addr} {vs : List Value} (T : TT P) (h : ldw T arr N e i = some (d, true, n, a)) (hl : LdN M L a vs) (hn : vs.length = n) (H : Exec P M N (.dr arr l :: k) (upd e d (.agg vs.toArray)) L Q) : Exec P M N (.dr arr (.cons (.rd i) l) :: k) e L Q := by
  obtain ⟨o, ho, hg, rfl, t, ht, hx⟩ := ldw_spec h
  refine Exec.rd ho hg (fun F w s => ⟨w, ?_, rfl, .refl w⟩) H
  rw [hx]
  have h2 : (loadCells a n).run P w = .ok vs.toArray w := by
    unfold loadCells
    rw [loadCellsFrom_run hn (fun j hj => by rw [Nat.zero_add]; exact hl w s.app_left j (by omega))]
    simp
  simp only [loadVar, Sem.run_bind, (aggT_isa ht).1 w, (aggT_isa ht).2 w, Result.andThen_ok, if_true, h2, Sem.run_pure]

/-! ### Stores -/
/-- Behind a store of vs at a the list L is L'. -/
def StL (M : Heap) (L : List HP) (a : Go.Addr) (vs : List Value) (L' : List HP) : Prop :=
  ∀ (P : Program) F w, Sat M (L ++ F) w → ∃ w', (storeCells a vs).run P w = .ok () w' ∧ Env w w' ∧ Sat M (L' ++ F) w'
theorem Sat.swap {A B : HP} (s : Sat M (A :: B :: L) w) : Sat M (B :: A :: L) w := s.perm (.swap ..)
theorem StL.tail {A : HP} {a : Go.Addr} {vs : List Value} (h : StL M L a vs L') : StL M (A :: L) a vs (A :: L') := fun P F w s => by
  have p : (A :: L ++ F).Perm (L ++ (A :: F)) := by simpa using (List.perm_middle (a := A) (l₁ := L) (l₂ := F)).symm
  obtain ⟨w', r, v, t⟩ := h P (A :: F) w (s.perm p)
  have p' : (L' ++ (A :: F)).Perm (A :: L' ++ F) := List.perm_middle (a := A) (l₁ := L') (l₂ := F)
  exact ⟨w', r, v, t.perm p'⟩

def plain : Value → Bool
  | .agg _ | .tuple _ => false
  | _ => true
theorem Sat.blk_set {b : Nat} {l l' : List Value} {w' : World} (s : Sat M (blk b l :: L) w) (hw : ∀ t, w.heap[b]? = some (.cells l.toArray t (0, 0)) → ∀ x, w'.heap[x]? = if x = b then some (.cells l'.toArray t (0, 0)) else w.heap[x]?) : Sat M (blk b l' :: L) w' := by
  obtain ⟨hM, h, hs, hd, h1, h2, d, s1, s2, ⟨t, p⟩, x⟩ := s
  have s' : Sat M (pts b (.cells l.toArray t (0, 0)) :: L) w := ⟨hM, h, hs, hd, h1, h2, d, s1, s2, p, x⟩
  exact (s'.set (hw t s'.block)).ent (Ent.head fun g q => ⟨t, q⟩)
theorem store_run {b o : Nat} {l : List Value} {t : TypeId} {v : Value} (hv : plain v = true) (hb : w.heap[b]? = some (.cells l.toArray t (0, 0))) (ho : o < l.length) :
    (store ⟨b, o, none⟩ v).run P w = .ok () (w.setCell ⟨b, o, none⟩ v) := by
  have h1 : w.cell? ⟨b, o, none⟩ = some l[o] := by rw [cell_of_block hb, List.getElem?_eq_getElem ho]
  have h2 : w.frozen? ⟨b, o, none⟩ = false := by simp [World.frozen?, hb]
  cases v <;> first | (simp [plain] at hv; done) | simp [store, Sem.run, h1, h2]
theorem setCell_heap {b o : Nat} {l : List Value} {t : TypeId} {v : Value} (hb : w.heap[b]? = some (.cells l.toArray t (0, 0))) (x : Nat) :
    (w.setCell ⟨b, o, none⟩ v).heap[x]? = if x = b then some (.cells (l.set o v).toArray t (0, 0)) else w.heap[x]? := by
  simp only [World.setCell, Array.getElem?_modify]
  by_cases hx : x = b
  · subst hx; simp [hb]
  · have : ¬ b = x := fun h => hx h.symm
    simp [hx, this]
theorem StL.head {b : Nat} : ∀ {vs : List Value} {o : Nat} {l : List Value}, vs.all plain = true → o + vs.length ≤ l.length → StL M (blk b l :: L) ⟨b, o, none⟩ vs (blk b (setAll l o vs) :: L) := by
  have key : ∀ {vs : List Value} {o i : Nat} {l : List Value}, vs.all plain = true → o + i + vs.length ≤ l.length → ∀ (P : Program) F w, Sat M ((blk b l :: L) ++ F) w →
      ∃ w', (storeCells ⟨b, o, none⟩ vs i).run P w = .ok () w' ∧ Env w w' ∧ Sat M ((blk b (setAll l (o + i) vs) :: L) ++ F) w' := by
    intro vs
    induction vs with
    | nil => intro o i l _ _ P F w s; exact ⟨w, rfl, .refl w, s⟩
    | cons v vs ih =>
      intro o i l hv hl P F w s
      simp only [List.all_cons, Bool.and_eq_true] at hv
      simp only [List.length_cons] at hl
      obtain ⟨t, hb⟩ : ∃ t, w.heap[b]? = some (.cells l.toArray t (0, 0)) := by
        obtain ⟨_, g, gs, _, h1, _, _, s1, _, ⟨t, p⟩, _⟩ := s
        exact ⟨t, (s1.trans gs) _ _ p⟩
      have r := store_run (P := P) (o := o + i) hv.1 hb (by omega)
      have s' : Sat M ((blk b (l.set (o + i) v) :: L) ++ F) (w.setCell ⟨b, o + i, none⟩ v) := Sat.blk_set (l := l) s fun t' ht' => by
        rw [ht'] at hb; cases hb
        exact setCell_heap ht'
      obtain ⟨w', r', v', t'⟩ := ih (o := o) (i := i + 1) (l := l.set (o + i) v) hv.2 (by simp; omega) P F _ s'
      refine ⟨w', ?_, Env.trans (b := w.setCell ⟨b, o + i, none⟩ v) ⟨rfl, rfl, rfl, ?_⟩ v', t'⟩
      · simp only [storeCells, Sem.run_bind, add_none, r, Result.andThen_ok]; exact r'
      · simp [World.setCell, Array.size_modify]
  intro vs o l hv hl P F w s
  exact key (i := 0) hv (by omega) P F w s

theorem gW {arr : Array Oper} {dst : Option Nat} {t n : Nat} {g : Bool} {x y : Operand} {ty : TypeId} {pos : String} {aft : Array Edge} {l : List Oper} {a : Go.Addr} {vs : List Value} (T : TT P)
    (ht : aggT T t = some (g, n)) (hx : ev N e x = .pointer (some a)) (hy : (ev N e y).cells.toList = vs) (hn : vs.length = n) (hs : StL M L a vs L') (h : Exec P M N (.ops arr l :: k) (upd e dst undef) L' Q) :
    Exec P M N (.ops arr (⟨dst, .store t x y, ty, pos, aft, none⟩ :: l) :: k) e L Q := by
  refine Exec.op (opT.of_unit ?_)
  intro F w s
  obtain ⟨w', r, v, t'⟩ := hs P F w s
  refine ⟨(), w', L', ?_, v, t', h⟩
  have hsz : (ev N e y).cells.size = n := by rw [← hn, ← hy]; simp
  simp only [Instr.storeAt, hx, Instr.sureAddr, Sem.run_bind, Sem.run_pure, Result.andThen_ok, storeVar, (aggT_isa ht).2 w, hsz, ne_eq, not_true_eq_false, if_false]
  rw [hy]; exact r
end
end Go.Gv
