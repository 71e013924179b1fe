/- New blocks, calls, results; assertions opened, lent, put in order. -/
import Derived.Test.YtnennjhbajpbfaaGreatDoorGvE
namespace Go.Gv
set_option linter.unusedVariables false
set_option linter.unusedSimpArgs false
set_option linter.unusedSectionVars false

section
variable {P : Program} {M : Heap} {N : Nat} {e : TEnv} {L L' F : List HP} {Q : Exit → TEnv → List HP → Prop} {T : TT P} {k : List It} {w : World}

theorem Sat.newBlk {w' : World} {l : List Value} {t : TypeId} (s : Sat M L w) (hw : w'.heap = w.heap.push (.cells l.toArray t)) : Sat M (blk w.heap.size l :: L) w' :=
  (s.new _ hw).ent (Ent.head fun g q => ⟨t, q⟩)
theorem SemT.newRow {t : TypeId} {c : Array Value} {l : List Value} {K : Go.Addr → List HP → Prop} (hc : c.toList = l) (h : ∀ b, K ⟨b, 0, none⟩ (blk b l :: L)) : SemT P M (newRow t c) L K := by
  intro F w s
  refine ⟨⟨w.heap.size, 0, none⟩, { w with heap := w.heap.push (.cells c t) }, blk w.heap.size l :: L, ?_, ⟨rfl, rfl, rfl, by simp⟩, ?_, h _⟩
  · simp [Go.newRow, newObj, Sem.run]
  · subst hc; exact Sat.newBlk (t := t) s (by simp)

def zeroT (T : TT P) (t : Nat) : Option (List Value) := match T.get t with | some ti => some ti.zero.cells.toList | none => none
theorem zeroT_run {t : Nat} {l : List Value} (h : zeroT T t = some l) : ∃ z, z.cells.toList = l ∧ ∀ w, (zeroValue t).run P w = .ok z w := by
  unfold zeroT at h
  split at h
  · rename_i ti hti; cases h; exact ⟨_, rfl, TT.zer hti⟩
  · cases h

theorem gA {arr : Array Oper} {dst : Option Nat} {t : Nat} {ty : TypeId} {pos : String} {aft : Array Edge} {l : List Oper} {z : List Value} (T : TT P)
    (hz : zeroT T t = some z) (h : ∀ b, Exec P M N (.ops arr l :: k) (upd e dst (.pointer (some ⟨b, 0, none⟩))) (blk b z :: L) Q) :
    Exec P M N (.ops arr (⟨dst, .alloc t, ty, pos, aft, none⟩ :: l) :: k) e L Q := by
  refine Exec.op (opT.of_value ?_)
  obtain ⟨z', rfl, hr⟩ := zeroT_run hz
  show SemT P M (Instr.alloc t true (.tuple #[])) L _
  unfold Instr.alloc
  refine SemT.bind (SemT.still (a := z') (fun F w s => ⟨w, hr w, rfl, .refl w⟩) ?_)
  refine SemT.bind ?_
  exact SemT.newRow rfl fun b => SemT.pure (h b)
theorem gB {arr : Array Oper} {dst : Option Nat} {t : Nat} {x : Operand} {ty : TypeId} {pos : String} {aft : Array Edge} {l : List Oper} {z : List Value}
    (hz : (ev N e x).cells.toList = z) (h : ∀ b, Exec P M N (.ops arr l :: k) (upd e dst (.pointer (some ⟨b, 0, none⟩))) (blk b z :: L) Q) :
    Exec P M N (.ops arr (⟨dst, .box t x, ty, pos, aft, none⟩ :: l) :: k) e L Q := by
  refine Exec.op (opT.of_value ?_)
  show SemT P M (Instr.box t _) L _
  unfold Instr.box
  refine SemT.bind ?_
  exact SemT.newRow hz fun b => SemT.pure (h b)

/-! ### Calls -/
/-- One of the list, and the others. -/
inductive Sel (A : HP) : List HP → List HP → Prop where
  | here {L : List HP} : Sel A (A :: L) L
  | next {B : HP} {L R : List HP} : Sel A L R → Sel A (B :: L) (B :: R)
/-- Some of the list, and the others. -/
inductive Pick : List HP → List HP → List HP → Prop where
  | nil {L : List HP} : Pick [] L L
  | cons {A : HP} {pre L R S : List HP} : Sel A L R → Pick pre R S → Pick (A :: pre) L S
theorem Sel.perm {A : HP} {L R : List HP} (p : Sel A L R) : L.Perm (A :: R) := by
  induction p with
  | here => exact .refl _
  | next _ ih => exact (ih.cons _).trans (.swap ..)
theorem Pick.perm {pre L R : List HP} (p : Pick pre L R) : L.Perm (pre ++ R) := by
  induction p with
  | nil => exact .refl _
  | cons s _ ih => exact s.perm.trans (ih.cons _)

theorem Ent.left {L K : List HP} : Ent (L ++ K) L := fun h x => let ⟨_, _, _, s1, _, a, _⟩ := stars_app.1 x; stars_up a s1
/-- Some of the list. -/
theorem Ent.pick {pre L R : List HP} (p : Pick pre L R) : Ent L pre := (Ent.perm p.perm).trans Ent.left

/-- The function can be entered. -/
def Enters (P : Program) (f : FuncId) : Prop := ∀ (args : Array Value) (w : World), (callFunc f args).run P w = .ok (.enter f args) w

theorem opT.enter {f : FuncId} {args : List Value} {pre R : List HP} {K K' : Value → List HP → Prop} (he : Enters P f) (hp : Pick pre L R) (S : Spec P M f args pre K') (h : ∀ v L1, K' v L1 → K v (L1 ++ R)) :
    opT P M (callFunc f args.toArray) L K := by
  intro F w s
  rw [he]
  have p : (L ++ F).Perm (pre ++ (R ++ F)) := by simpa using hp.perm.append_right F
  exact (S (R ++ F) w (s.perm p)).mono fun e w' ⟨v, L1, a, b, c, d⟩ => ⟨v, L1 ++ R, a, b, by simpa using c, h _ _ d⟩

theorem gK {arr : Array Oper} {dst : Option Nat} {f : FuncId} {xs : Array Operand} {ts : Array TypeId} {ty : TypeId} {pos : String} {aft : Array Edge} {l : List Oper} {args : List Value} {pre R : List HP} {K' : Value → List HP → Prop}
    (he : Enters P f) (S : Spec P M f args pre K') (ha : xs.toList.map (ev N e) = args) (hp : Pick pre L R)
    (h : ∀ v L1, K' v L1 → Exec P M N (.ops arr l :: k) (upd e dst v) (L1 ++ R) Q) :
    Exec P M N (.ops arr (⟨dst, .call ⟨.value (.func f), xs, ts⟩, ty, pos, aft, none⟩ :: l) :: k) e L Q := by
  refine Exec.op ?_
  intro F w s
  have : (execOp (ev N e) ⟨dst, .call ⟨.value (.func f), xs, ts⟩, ty, pos, aft, none⟩) = callFunc f args.toArray := by
    have ha' : args.toArray = xs.map (ev N e) := by rw [← ha, ← Array.toList_map, Array.toArray_toList]
    rw [ha']
    simp [execOp, resolve, ev, Deferred.ofValue, invoke]
  rw [this]
  exact opT.enter he hp S h F w s
/-- A call of a function's value. -/
theorem gKV {arr : Array Oper} {dst : Option Nat} {f : FuncId} {x : Operand} {a1 a2 : Array Value} {xs : Array Operand} {ts : Array TypeId} {ty : TypeId} {pos : String} {aft : Array Edge} {l : List Oper} {args : List Value} {pre R : List HP} {K' : Value → List HP → Prop}
    (he : Enters P f) (hx : ev N e x = .func (.func f) a1 a2) (S : Spec P M f args pre K') (ha : a1.toList ++ xs.toList.map (ev N e) ++ a2.toList = args) (hp : Pick pre L R)
    (h : ∀ v L1, K' v L1 → Exec P M N (.ops arr l :: k) (upd e dst v) (L1 ++ R) Q) :
    Exec P M N (.ops arr (⟨dst, .call ⟨.value x, xs, ts⟩, ty, pos, aft, none⟩ :: l) :: k) e L Q := by
  refine Exec.op ?_
  intro F w s
  have : (execOp (ev N e) ⟨dst, .call ⟨.value x, xs, ts⟩, ty, pos, aft, none⟩) = callFunc f args.toArray := by
    have ha' : args.toArray = a1 ++ xs.map (ev N e) ++ a2 := by rw [← ha]; apply Array.ext'; simp
    rw [ha']
    simp [execOp, resolve, hx, Deferred.ofValue, invoke]
  rw [this]
  exact opT.enter he hp S h F w s

/-! ### Assertions: in another order, opened, lent -/
theorem opT.ent {s : Sem Next} {L0 : List HP} {K : Value → List HP → Prop} (h : opT P M s L K) (k : Ent L0 L) : opT P M s L0 K := fun F w x => h F w (x.ent k.app)
theorem opT.ex {α : Sort _} {s : Sem Next} {A : HP} {B : α → List HP} {K : Value → List HP → Prop} (ho : ∀ g, A g → ∃ x, stars (B x) g) (h : ∀ x, opT P M s (B x ++ L) K) : opT P M s (A :: L) K := by
  intro F w ⟨hM, g, gs, gd, h1, h2, d, s1, s2, a, x⟩
  obtain ⟨y, hy⟩ := ho _ a
  refine h y F w ⟨hM, g, gs, gd, ?_⟩
  rw [List.append_assoc]
  exact stars_app.2 ⟨h1, h2, d, s1, s2, hy, x⟩
theorem Run.ex {α : Sort _} {c : Code} {A : HP} {B : α → List HP} (ho : ∀ g, A g → ∃ x, stars (B x) g) (h : ∀ x, Run P M N c e (B x ++ L) Q) : Run P M N c e (A :: L) Q := by
  intro F w ⟨hM, g, gs, gd, h1, h2, d, s1, s2, a, x⟩
  obtain ⟨y, hy⟩ := ho _ a
  refine h y F w ⟨hM, g, gs, gd, ?_⟩
  rw [List.append_assoc]
  exact stars_app.2 ⟨h1, h2, d, s1, s2, hy, x⟩

/-- Where something is still to be run, the list may be turned. -/
def live : List It → Bool
  | .c _ :: _ => true
  | .ops _ (⟨_, _, _, _, _, none⟩ :: _) :: _ => true
  | _ => false
theorem Exec.ent {L0 : List HP} (hl : live k = true) (en : Ent L0 L) (h : Exec P M N k e L Q) : Exec P M N k e L0 Q := by
  unfold live at hl
  split at hl
  · exact Run.ent h en
  · exact Exec.op (opT.ent h en)
  · cases hl
theorem Exec.ex {α : Sort _} {A : HP} {B : α → List HP} (hl : live k = true) (ho : ∀ g, A g → ∃ x, stars (B x) g) (h : ∀ x, Exec P M N k e (B x ++ L) Q) : Exec P M N k e (A :: L) Q := by
  unfold live at hl
  split at hl
  · exact Run.ex ho h
  · exact Exec.op (opT.ex ho h)
  · cases hl
theorem Exec.perm {pre R : List HP} (hl : live k = true) (p : Pick pre L R) (h : Exec P M N k e (pre ++ R) Q) : Exec P M N k e L Q := Exec.ent hl (.perm p.perm) h

theorem nextOk.map {M' : Heap} {F F' : List HP} {K K' : Value → List HP → Prop} {r : Result Next} (h : nextOk P M F w K r)
    (hm : ∀ v L' w', Sat M (L' ++ F) w' → K v L' → ∃ L2, Sat M' (L2 ++ F') w' ∧ K' v L2) : nextOk P M' F' w K' r := by
  cases r with
  | ok n w' =>
    cases n <;> simp only [nextOk] at h ⊢
    · obtain ⟨a, L', b, c⟩ := h; exact ⟨a, hm _ _ _ b c⟩
    · obtain ⟨a, L', b, c⟩ := h; exact ⟨a, hm _ _ _ b c⟩
    · exact h.mono fun e w'' ⟨v, L', a, b, c, d⟩ => by obtain ⟨L2, x, y⟩ := hm _ _ _ c d; exact ⟨v, L2, a, b, x, y⟩
    · exact h.mono fun v w'' ⟨a, L', b, c⟩ => ⟨a, hm _ _ _ b c⟩
  | halt _ _ => exact h.elim
/-- Lend: what is owned is immutable while one operation goes on. -/
theorem opT.lend {s : Sem Next} {B : HP} {K : Value → List HP → Prop} (h : ∀ M', Hsub M M' → Ro M' B → opT P M' s L fun v L' => K v (B :: L')) : opT P M s (B :: L) K := by
  intro F w x
  obtain ⟨M', a, b, c, d⟩ := x.lend
  exact (h M' a b F w c).map fun v L' w' s' q => ⟨B :: L', d _ _ s', q⟩

/-! ### Results -/
theorem actOf_getD (t : Nat) : (actOf N e).tmps[t]?.getD undef = ev N e (.tmp t) := by
  have := congrFun (actOf_eval N e) (.tmp t)
  simpa [Act.eval] using this
/-- The general case: each result is a temporary, or a variable in memory. -/
def resV (M : Heap) (N : Nat) (e : TEnv) (L : List HP) (T : TT P) : List ResultVar → List Value → Prop
  | [], [] => True
  | .tmp t :: r, v :: vs => ev N e (.tmp t) = v ∧ resV M N e L T r vs
  | .cell t ty :: r, v :: vs => (∃ a, ev N e (.tmp t) = .pointer (some a) ∧ ((∃ n, aggT T ty = some (false, n) ∧ Ld M L a v) ∨ ∃ l, aggT T ty = some (true, l.length) ∧ LdN M L a l ∧ v = .agg l.toArray)) ∧ resV M N e L T r vs
  | _, _ => False
def retOf : List Value → Value
  | [v] => v
  | vs => .tuple vs.toArray
def resOne (tmps : Array Value) : ResultVar → Sem Value
  | .tmp t => pure (tmps.getD t undef)
  | .cell a t => do loadVar t (← asAddr (tmps.getD a undef))
theorem resV_run : ∀ {rs : List ResultVar} {vs : List Value}, resV M N e L T rs vs → ∀ F w, Sat M (L ++ F) w →
    (rs.mapM (resOne (actOf N e).tmps)).run P w = .ok vs w
  | [], [], _, F, w, s => rfl
  | .tmp t :: rs, v :: vs, ⟨h1, h2⟩, F, w, s => by
    have hv : (actOf N e).tmps.getD t undef = v := (congrFun (actOf_eval N e) (.tmp t)).trans h1
    rw [List.mapM_cons]
    simp only [resOne, Sem.run_bind, hv, Sem.run_pure, Result.andThen_ok, resV_run h2 F w s]
  | .cell t ty :: rs, v :: vs, ⟨⟨a, h1, h3⟩, h2⟩, F, w, s => by
    have hv : (actOf N e).tmps.getD t undef = .pointer (some a) := (congrFun (actOf_eval N e) (.tmp t)).trans h1
    have hl : (loadVar ty a).run P w = .ok v w := by
      rcases h3 with ⟨n, ha, hl⟩ | ⟨l, ha, hl, rfl⟩
      · have h0 : (load a).run P w = .ok v w := by simp [load, Sem.run, hl w s.app_left]
        simp only [loadVar, Sem.run_bind, (aggT_isa ha).1 w, Result.andThen_ok, Bool.false_eq_true, if_false]
        exact h0
      · have h0 : (loadCells a l.length).run P w = .ok l.toArray w := by
          unfold loadCells
          rw [loadCellsFrom_run rfl (fun j hj => by rw [Nat.zero_add]; exact hl w s.app_left j hj)]
          simp
        simp only [loadVar, Sem.run_bind, (aggT_isa ha).1 w, (aggT_isa ha).2 w, Result.andThen_ok, if_true, h0, Sem.run_pure]
    rw [List.mapM_cons]
    simp only [resOne, Sem.run_bind, hv, asAddr, Sem.run_pure, Result.andThen_ok, hl, resV_run h2 F w s]
  | [], _ :: _, h, _, _, _ => h.elim
  | .tmp _ :: _, [], h, _, _, _ => h.elim
  | .cell .. :: _, [], h, _, _, _ => h.elim
theorem results_gen {fn : Func} {rs : List ResultVar} {vs : List Value} {L2 : List HP} {K : Value → List HP → Prop} (T : TT P) (hr : fn.results.toList = rs) (h : resV M N e L T rs vs) (en : Ent L L2) (hk : K (retOf vs) L2) (x : Exit) (hx : x = .normal ∨ x = .ret) : retE P M N fn K x e L := by
  have : ∀ F w, Sat M (L ++ F) w → ∃ v L2, (results fn (actOf N e).tmps).run P w = .ok v w ∧ Sat M (L2 ++ F) w ∧ K v L2 := fun F w s => ⟨retOf vs, L2, by
    have h0 := resV_run (P := P) h F w s
    have h1 : results fn (actOf N e).tmps = (do
      let vs ← fn.results.mapM (resOne (actOf N e).tmps)
      pure (if h : vs.size = 1 then vs[0] else .tuple vs)) := by
      unfold results
      congr 2
    rw [h1, Array.mapM_eq_mapM_toList, hr]
    simp only [Sem.run_bind, Sem.run_map]
    rw [h0]
    simp only [Result.andThen_ok, Sem.run_pure]
    congr 1
    by_cases h2 : vs.length = 1
    · obtain ⟨v, rfl⟩ := List.length_eq_one_iff.1 h2
      rfl
    · rw [dif_neg (by simpa using h2)]
      unfold retOf
      split
      · exact absurd rfl h2
      · rfl, s.ent en.app, hk⟩
  rcases hx with rfl | rfl <;> exact this

/-- The end: return. -/
theorem gR {fn : Func} {rs : List ResultVar} {vs : List Value} {L2 : List HP} {K : Value → List HP → Prop} (T : TT P) (hr : fn.results.toList = rs) (h : resV M N e L T rs vs) (en : Ent L L2) (hk : K (retOf vs) L2) : Exec P M N (.c .ret :: k) e L (retE P M N fn K) :=
  Exec.ret (post_ret (results_gen T hr h en hk _ (.inr rfl)))
theorem gR0 {fn : Func} {rs : List ResultVar} {vs : List Value} {L2 : List HP} {K : Value → List HP → Prop} (T : TT P) (hr : fn.results.toList = rs) (h : resV M N e L T rs vs) (en : Ent L L2) (hk : K (retOf vs) L2) : Exec P M N [] e L (retE P M N fn K) :=
  results_gen T hr h en hk _ (.inl rfl)

/-! ### A call to which some of what is owned is lent -/
def RoAll (M : Heap) : List HP → Prop
  | [] => True
  | B :: Bs => Ro M B ∧ RoAll M Bs
theorem RoAll.up {M' : Heap} : ∀ {Bs : List HP}, RoAll M Bs → Hsub M M' → RoAll M' Bs
  | [], _, _ => trivial
  | _ :: _, ⟨h, k⟩, s => ⟨h.up s, k.up s⟩
theorem opT.lends {s : Sem Next} {K : Value → List HP → Prop} : ∀ {Bs : List HP} {M : Heap} {L : List HP}, (∀ M', Hsub M M' → RoAll M' Bs → opT P M' s L fun v L' => K v (Bs ++ L')) → opT P M s (Bs ++ L) K
  | [], M, L, h => h M (.refl M) trivial
  | B :: Bs, M, L, h => opT.lend fun M1 h1 r1 => opT.lends (K := fun v L' => K v (B :: L')) fun M2 h2 r2 => h M2 (h1.trans h2) ⟨r1.up h2, r2⟩
theorem gKL {arr : Array Oper} {dst : Option Nat} {f : FuncId} {xs : Array Operand} {ts : Array TypeId} {ty : TypeId} {pos : String} {aft : Array Edge} {l : List Oper} {args : List Value} {Bs R0 pre R : List HP} {K' : Value → List HP → Prop}
    (he : Enters P f) (hl : Pick Bs L R0) (S : ∀ M', Hsub M M' → RoAll M' Bs → Spec P M' f args pre K') (ha : xs.toList.map (ev N e) = args) (hp : Pick pre R0 R)
    (h : ∀ v L1, K' v L1 → Exec P M N (.ops arr l :: k) (upd e dst v) (Bs ++ (L1 ++ R)) Q) :
    Exec P M N (.ops arr (⟨dst, .call ⟨.value (.func f), xs, ts⟩, ty, pos, aft, none⟩ :: l) :: k) e L Q := by
  refine Exec.op ?_
  have : (execOp (ev N e) ⟨dst, .call ⟨.value (.func f), xs, ts⟩, ty, pos, aft, none⟩) = callFunc f args.toArray := by
    have ha' : args.toArray = xs.map (ev N e) := by rw [← ha, ← Array.toList_map, Array.toArray_toList]
    rw [ha']
    simp [execOp, resolve, ev, Deferred.ofValue, invoke]
  rw [this]
  refine opT.ent ?_ (.perm hl.perm)
  exact opT.lends fun M' hM r => opT.enter he hp (S M' hM r) h
end
end Go.Gv
