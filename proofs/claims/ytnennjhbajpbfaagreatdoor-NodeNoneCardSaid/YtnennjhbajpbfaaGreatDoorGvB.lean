/- The walk over lists of assertions: operations, regions, code, calls. -/
import Derived.Test.YtnennjhbajpbfaaGreatDoorGvA
import Derived.Laws.Sem
namespace Go.Gv
set_option linter.unusedVariables false
set_option linter.unusedSimpArgs false
set_option linter.unusedSectionVars false

/-- What the temporaries hold. -/
abbrev TEnv := Nat → Value
def upd (e : TEnv) : Option Nat → Value → TEnv
  | none, _ => e
  | some d, v => fun t => bif Nat.beq t d then v else e t
def ev (N : Nat) (e : TEnv) : Operand → Value
  | .tmp t => bif Nat.ble (t + 1) N then e t else undef
  | .const v => v
  | .global g => .pointer (some ⟨g, 0, none⟩)
  | .func f => .func (.func f) #[] #[]
def actOf (N : Nat) (e : TEnv) : Act := ⟨Array.ofFn (n := N) fun i => e i, []⟩

theorem actOf_get (N : Nat) (e : TEnv) (t : Nat) : (actOf N e).tmps[t]? = if t < N then some (e t) else none := by
  simp [actOf, Array.getElem?_ofFn]
theorem actOf_eval (N : Nat) (e : TEnv) : (actOf N e).eval = ev N e := by
  funext x
  cases x with
  | tmp t =>
    simp only [Act.eval, ev, Array.getD_eq_getD_getElem?, actOf_get]
    by_cases h : t < N
    · have h1 : Nat.ble (t + 1) N = true := Nat.ble_eq_true_of_le (Nat.succ_le_of_lt h); simp [h, h1]
    · have : Nat.ble (t + 1) N = false := by
        cases hb : Nat.ble (t + 1) N with
        | false => rfl
        | true => exact absurd (Nat.lt_of_succ_le (Nat.le_of_ble_eq_true hb)) h
      simp [h, this]
  | _ => rfl
theorem actOf_ext {N : Nat} {e e' : TEnv} (h : ∀ t, t < N → e t = e' t) : actOf N e = actOf N e' := by
  unfold actOf
  congr 1
  apply Array.ext
  · simp
  · intro i h1 h2; simp at h1 ⊢; exact h i h1
theorem actOf_put (N : Nat) (e : TEnv) (d : Option Nat) (v : Value) : (actOf N e).put d v = actOf N (upd e d v) := by
  cases d with
  | none => rfl
  | some d =>
    have : ((actOf N e).put (some d) v).tmps = (actOf N (upd e (some d) v)).tmps := by
      apply Array.ext
      · simp [Act.put, actOf]
      · intro i h1 h2
        have h3 : i < N := by simpa [actOf] using h2
        simp only [Act.put, actOf, Array.getElem_ofFn, upd]
        by_cases hd : d = i
        · subst hd; simp
        · have : Nat.beq i d = false := by
            cases hb : Nat.beq i d with
            | false => rfl
            | true => exact absurd (Nat.eq_of_beq_eq_true hb).symm hd
          rw [Array.getElem_setIfInBounds (by simpa using h3)]
          simp [this, hd]
    have h2 : ((actOf N e).put (some d) v).defers = (actOf N (upd e (some d) v)).defers := rfl
    cases hx : (actOf N e).put (some d) v; cases hy : actOf N (upd e (some d) v)
    rw [hx, hy] at this h2
    cases this; cases h2; rfl

/-- The Bool that an operation of the region has left. -/
def gb (ops : Array Oper) (N : Nat) (e : TEnv) (j : Nat) : Option Bool :=
  match (ops[j]?).bind (·.dst) with
  | some d => match ev N e (.tmp d) with
    | .bool b => some b
    | _ => none
  | none => none
theorem actOf_yielded (ops : Array Oper) (N : Nat) (e : TEnv) (j : Nat) : yielded ops (actOf N e).tmps j = gb ops N e j := by
  unfold yielded gb
  cases (ops[j]?).bind (·.dst) with
  | none => rfl
  | some d =>
    have := congrFun (actOf_eval N e) (.tmp d)
    simp only [Act.eval, Array.getD_eq_getD_getElem?, actOf_get] at this
    simp only [Option.bind_some, actOf_get, ← this]
    by_cases h : d < N
    · simp only [h, if_true, Option.getD_some]; cases e d <;> rfl
    · simp [h, undef]
theorem actOf_yielded' (ops : Array Oper) (N : Nat) (e : TEnv) : yielded ops (actOf N e).tmps = gb ops N e := funext (actOf_yielded ops N e)

/-! ### What a piece of the model's own monad does -/
def SemT {α : Type} (P : Program) (M : Heap) (s : Sem α) (L : List HP) (K : α → List HP → Prop) : Prop :=
  ∀ F w, Sat M (L ++ F) w → ∃ a w' L', s.run P w = .ok a w' ∧ Env w w' ∧ Sat M (L' ++ F) w' ∧ K a L'

section
variable {P : Program} {M : Heap} {α β : Type}
theorem SemT.pure {a : α} {L : List HP} {K : α → List HP → Prop} (h : K a L) : SemT P M (Pure.pure a) L K :=
  fun F w s => ⟨a, w, L, rfl, .refl w, s, h⟩
theorem SemT.mono {s : Sem α} {L : List HP} {K K' : α → List HP → Prop} (h : SemT P M s L K) (k : ∀ a L', K a L' → K' a L') : SemT P M s L K' :=
  fun F w x => let ⟨a, w', L', r, e, t, q⟩ := h F w x; ⟨a, w', L', r, e, t, k _ _ q⟩
theorem SemT.bind {s : Sem α} {f : α → Sem β} {L : List HP} {K : β → List HP → Prop} (h : SemT P M s L fun a L' => SemT P M (f a) L' K) : SemT P M (s >>= f) L K := by
  intro F w x
  obtain ⟨a, w1, L1, r1, e1, t1, q1⟩ := h F w x
  obtain ⟨b, w2, L2, r2, e2, t2, q2⟩ := q1 F w1 t1
  exact ⟨b, w2, L2, by rw [Sem.run_bind, r1]; exact r2, e1.trans e2, t2, q2⟩
/-- Whatever yields a value and leaves the heap alone. -/
theorem SemT.still {s : Sem α} {L : List HP} {K : α → List HP → Prop} {a : α} (h : ∀ F w, Sat M (L ++ F) w → ∃ w', s.run P w = .ok a w' ∧ w'.heap = w.heap ∧ Env w w') (k : K a L) : SemT P M s L K :=
  fun F w x => let ⟨w', r, hh, e⟩ := h F w x; ⟨a, w', L, r, e, x.same hh, k⟩
theorem SemT.new {o : Obj} {L : List HP} {K : Nat → List HP → Prop} (ho : ∀ c t z, o = .cells c t z → z = (0, 0)) (h : ∀ b, K b (pts b o :: L)) : SemT P M (newObj o) L K :=
  fun F w x => ⟨w.heap.size, { w with heap := w.heap.push o }, pts w.heap.size o :: L, rfl, ⟨rfl, rfl, rfl, by simp⟩, x.new o rfl, h _⟩
end

/-- What is asked behind one operation. -/
def nextOk (P : Program) (M : Heap) (F : List HP) (w : World) (K : Value → List HP → Prop) : Result Next → Prop
  | .ok (.value v) w' => Env w w' ∧ ∃ L', Sat M (L' ++ F) w' ∧ K v L'
  | .ok .skip w' => Env w w' ∧ ∃ L', Sat M (L' ++ F) w' ∧ K undef L'
  | .ok (.enter f args) w' => Calls P f args w' fun e w'' => ∃ v L', e = .returned v ∧ Env w w'' ∧ Sat M (L' ++ F) w'' ∧ K v L'
  | .ok (.row row args) w' => Rows P row args w' fun v w'' => Env w w'' ∧ ∃ L', Sat M (L' ++ F) w'' ∧ K v L'
  | _ => False

/-- One operation, its operands' values given. -/
def opT (P : Program) (M : Heap) (s : Sem Next) (L : List HP) (K : Value → List HP → Prop) : Prop :=
  ∀ F w, Sat M (L ++ F) w → nextOk P M F w K (s.run P w)

section
variable {P : Program} {M : Heap}
theorem opT.of_value {s : Sem Value} {L : List HP} {K : Value → List HP → Prop} (h : SemT P M s L K) : opT P M (do pure (.value (← s))) L K := by
  intro F w x
  obtain ⟨a, w', L', r, e, t, q⟩ := h F w x
  rw [Sem.run_bind, r]
  exact ⟨e, L', t, q⟩
theorem opT.of_unit {s : Sem Unit} {L : List HP} {K : Value → List HP → Prop} (h : SemT P M s L fun _ => K undef) : opT P M (do s; pure .skip) L K := by
  intro F w x
  obtain ⟨a, w', L', r, e, t, q⟩ := h F w x
  rw [Sem.run_bind, r]
  exact ⟨e, L', t, q⟩
theorem opT.mono {s : Sem Next} {L : List HP} {K K' : Value → List HP → Prop} (h : opT P M s L K) (k : ∀ v L', K v L' → K' v L') : opT P M s L K' := by
  intro F w x
  have := h F w x
  revert this
  generalize s.run P w = r
  cases r with
  | ok n w' =>
    cases n <;> simp only [nextOk] <;> intro h'
    · exact ⟨h'.1, h'.2.imp fun _ y => ⟨y.1, k _ _ y.2⟩⟩
    · exact ⟨h'.1, h'.2.imp fun _ y => ⟨y.1, k _ _ y.2⟩⟩
    all_goals first
      | exact h'.elim
      | exact h'.mono fun e w'' ⟨v, L', a, b, c, d⟩ => ⟨v, L', a, b, c, k _ _ d⟩
      | exact h'.mono fun v w'' ⟨a, L', b, c⟩ => ⟨a, L', b, k _ _ c⟩
  | halt _ _ => intro h'; exact h'
end

/-! ### Regions -/
def wantedE (ops : Array Oper) (N : Nat) (e : TEnv) (o : Oper) : Bool := Region.wanted o (gb ops N e)

def stepL (P : Program) (M : Heap) (N : Nat) (ops : Array Oper) (o : Oper) (e : TEnv) (L : List HP) (K : TEnv → List HP → Prop) : Prop :=
  if wantedE ops N e o then opT P M (execOp (ev N e) o) L fun v L' => K (upd e o.dst v) L' else K (upd e o.dst undef) L

/-- The operations in this order. -/
def RunOps (P : Program) (M : Heap) (N : Nat) (ops : Array Oper) : List Oper → TEnv → List HP → (TEnv → List HP → Prop) → Prop
  | [], e, L, K => K e L
  | o :: r, e, L, K => stepL P M N ops o e L fun e' L' => RunOps P M N ops r e' L' K

/-- A piece of code. -/
def Run (P : Program) (M : Heap) (N : Nat) (c : Code) (e : TEnv) (L : List HP) (Q : Exit → TEnv → List HP → Prop) : Prop :=
  ∀ F w, Sat M (L ++ F) w → c.wp P (fun x a' w' => ∃ e' L', a' = actOf N e' ∧ Env w w' ∧ Sat M (L' ++ F) w' ∧ Q x e' L') (actOf N e) w

section
variable {P : Program} {M : Heap} {N : Nat} {e : TEnv} {L : List HP} {Q : Exit → TEnv → List HP → Prop}

theorem nextOk.upon {F : List HP} {w : World} {K : Value → List HP → Prop} {r : Result Next} {o : Oper} {a : Act} {next : Act → World → Prop} {Q' : Exit → Act → World → Prop}
    (h : nextOk P M F w K r) (hn : ∀ v L' w', Env w w' → Sat M (L' ++ F) w' → K v L' → next (a.put o.dst v) w') : o.upon P a next Q' r := by
  cases r with
  | ok n w' =>
    cases n <;> simp only [nextOk, Oper.upon] at h ⊢
    · obtain ⟨h1, L', h2, h3⟩ := h; exact hn _ _ _ h1 h2 h3
    · obtain ⟨h1, L', h2, h3⟩ := h; exact hn _ _ _ h1 h2 h3
    · exact h.mono fun e w'' ⟨v, L', a, b, c, d⟩ => by subst a; exact hn _ _ _ b c d
    · exact h.mono fun v w'' ⟨a, L', b, c⟩ => hn _ _ _ a b c
  | halt _ _ => exact h.elim

theorem stepL.wpOp {ops : Array Oper} {i : Nat} {o : Oper} {K : TEnv → List HP → Prop} {K' : Act → World → Prop} {Q' : Exit → Act → World → Prop} {F : List HP} {w : World}
    (ho : ops[i]? = some o) (h : stepL P M N ops o e L K) (s : Sat M (L ++ F) w) (hk : ∀ e' L' w', Env w w' → Sat M (L' ++ F) w' → K e' L' → K' (actOf N e') w') : wpOp P ops Q' i K' (actOf N e) w := by
  unfold Go.wpOp
  simp only [ho, actOf_yielded', actOf_put]
  unfold stepL wantedE at h
  split
  · rename_i hw
    rw [if_pos hw] at h
    left
    have := h F w s
    rw [← actOf_eval] at this
    exact this.upon fun v L' w' a b c => by rw [actOf_put]; exact hk _ _ _ a b c
  · rename_i hw
    rw [if_neg hw] at h
    exact hk _ _ _ (.refl w) s h

theorem RunOps.wpOps {ops : Array Oper} {F : List HP} {w0 : World} : ∀ (l : List Nat) (lo : List Oper) (e : TEnv) (L : List HP) (w : World),
    l.map (ops[·]?) = lo.map some → RunOps P M N ops lo e L (Q .normal) → Sat M (L ++ F) w → Env w0 w →
    Go.wpOps P ops (fun x a' w' => ∃ e' L', a' = actOf N e' ∧ Env w0 w' ∧ Sat M (L' ++ F) w' ∧ Q x e' L') l (actOf N e) w
  | [], [], e, L, w, _, h, s, v => by simp only [Go.wpOps]; exact ⟨e, L, rfl, v, s, h⟩
  | i :: l, o :: lo, e, L, w, hl, h, s, v => by
    rw [wpOps_cons]
    simp only [List.map_cons, List.cons.injEq] at hl
    exact stepL.wpOp hl.1 h s fun e' L' w' ve se he => RunOps.wpOps l lo e' L' w' hl.2 he se (v.trans ve)
  | [], _ :: _, _, _, _, hl, _, _, _ => by simp at hl
  | _ :: _, [], _, _, _, hl, _, _, _ => by simp at hl

theorem Run.region {id : Nat} {ops : Array Oper} (h : RunOps P M N ops ops.toList e L (Q .normal)) : Run P M N (.region id ops false) e L Q := by
  intro F w s
  refine wp_region (RunOps.wpOps _ ops.toList e L w ?_ h s (.refl w))
  apply List.ext_getElem
  · simp
  · intro i h1 h2; simp at h1 h2 ⊢

theorem Run.mono {c : Code} {Q' : Exit → TEnv → List HP → Prop} (h : Run P M N c e L Q) (k : ∀ x e' L', Q x e' L' → Q' x e' L') : Run P M N c e L Q' :=
  fun F w s => wp_mono (h F w s) fun _ _ _ ⟨e', L', a, b, c, d⟩ => ⟨e', L', a, b, c, k _ _ _ d⟩
theorem Run.ent {c : Code} {L0 : List HP} (h : Run P M N c e L Q) (k : Ent L0 L) : Run P M N c e L0 Q :=
  fun F w s => h F w (s.ent k.app)

theorem Run.skip (h : Q .normal e L) : Run P M N .skip e L Q := fun F w s => wp_skip ⟨e, L, rfl, .refl w, s, h⟩
theorem Run.ret (h : Q .ret e L) : Run P M N .ret e L Q := fun F w s => wp_ret ⟨e, L, rfl, .refl w, s, h⟩
theorem Run.exit {id : Nat} (h : Q (.exit id) e L) : Run P M N (.exit id) e L Q := fun F w s => wp_exit ⟨e, L, rfl, .refl w, s, h⟩

def thenE (K : TEnv → List HP → Prop) (Q : Exit → TEnv → List HP → Prop) : Exit → TEnv → List HP → Prop
  | .normal, e, L => K e L
  | x, e, L => Q x e L
theorem Run.seq {x y : Code} (h : Run P M N x e L (thenE (fun e' L' => Run P M N y e' L' Q) Q)) : Run P M N (.seq x y) e L Q := by
  intro F w s
  refine wp_seq (wp_mono (h F w s) ?_)
  rintro x a' w' ⟨e', L', rfl, ve, se, q⟩
  cases x with
  | normal => exact wp_mono (q F w' se) fun _ _ _ ⟨e2, L2, a, b, c, d⟩ => ⟨e2, L2, a, ve.trans b, c, d⟩
  | _ => exact ⟨e', L', rfl, ve, se, q⟩
theorem Run.cond {c : Operand} {x y : Code} {b : Bool} (hc : ev N e c = .bool b) (h1 : b = true → Run P M N x e L Q) (h2 : b = false → Run P M N y e L Q) : Run P M N (.cond c x y) e L Q :=
  fun F w s => wp_cond_split (by rw [actOf_eval]; exact hc) (fun hb => h1 hb F w s) (fun hb => h2 hb F w s)
def inBlockE (id : Nat) (Q : Exit → TEnv → List HP → Prop) : Exit → TEnv → List HP → Prop
  | .exit j, e, L => if j = id then Q .normal e L else Q (.exit j) e L
  | x, e, L => Q x e L
theorem Run.block {id : Nat} {c : Code} (h : Run P M N c e L (inBlockE id Q)) : Run P M N (.block id c) e L Q := by
  intro F w s
  refine wp_block (wp_mono (h F w s) ?_)
  rintro x a' w' ⟨e', L', rfl, ve, se, q⟩
  cases x with
  | exit j =>
    simp only [inBlockE, Exit.inBlock] at q ⊢
    split at q
    · rename_i hj; rw [if_pos hj]; exact ⟨e', L', rfl, ve, se, q⟩
    · rename_i hj; rw [if_neg hj]; exact ⟨e', L', rfl, ve, se, q⟩
  | _ => exact ⟨e', L', rfl, ve, se, q⟩
theorem wp_loop_ix {c : Code} {Q : Exit → Act → World → Prop} (I : Nat → Act → World → Prop) (round : ∀ n a w, I n a w → c.wp P (Exit.then (fun a' w' => ∃ m, m < n ∧ I m a' w') Q) a w) {n : Nat} {a : Act} {w : World} (h0 : I n a w) : (Code.loop c).wp P Q a w := by
  intro b k cs
  have key : ∀ n a w, I n a w → ∃ e a' w', Q e a' w' ∧ Arrives P (lone (b.at a (.code c :: .inLoop c :: k)) cs w) b k cs e a' w' := by
    intro n
    induction n using Nat.strongRecOn with
    | _ n ih =>
      intro a w hI
      obtain ⟨e, a1, w1, hq, harr⟩ := round n a w hI b (.inLoop c :: k) cs
      cases e with
      | normal =>
        obtain ⟨m, hm, hI1⟩ := hq
        obtain ⟨e2, a2, w2, hq2, harr2⟩ := ih m hm a1 w1 hI1
        exact ⟨e2, a2, w2, hq2, .of_steps (Steps.trans harr (.one step_inLoop)) harr2⟩
      | exit id => exact ⟨_, a1, w1, hq, .pass (x := .inLoop c) rfl (fun _ _ => .inl (by simp)) harr⟩
      | goto l => exact ⟨_, a1, w1, hq, .pass (x := .inLoop c) rfl (fun _ _ => .inl (by simp)) harr⟩
      | ret => exact ⟨_, a1, w1, hq, .pass (x := .inLoop c) rfl (fun _ _ => .inl (by simp)) harr⟩
      | panic ch => exact ⟨_, a1, w1, hq, .pass (x := .inLoop c) rfl (fun _ _ => .inl (by simp)) harr⟩
      | outgrown => exact ⟨_, a1, w1, hq, .pass (x := .inLoop c) rfl (fun _ _ => .inl (by simp)) harr⟩
  obtain ⟨e, a', w', hq, harr⟩ := key n a w h0
  exact ⟨e, a', w', hq, .of_steps (.one step_loop) harr⟩
/-- A loop, by what holds at each round's head and a measure. -/
theorem Run.loop {c : Code} (I : Nat → TEnv → List HP → Prop)
    (round : ∀ n e L, I n e L → Run P M N c e L (thenE (fun e' L' => ∃ m, m < n ∧ I m e' L') Q)) {n0 : Nat} (h0 : I n0 e L) : Run P M N (.loop c) e L Q := by
  intro F w s
  refine wp_loop_ix (fun n a w' => ∃ e' L', a = actOf N e' ∧ Env w w' ∧ Sat M (L' ++ F) w' ∧ I n e' L') ?_ ⟨e, L, rfl, .refl w, s, h0⟩
  rintro n a w1 ⟨e1, L1, rfl, v1, s1, i1⟩
  refine wp_mono (round n e1 L1 i1 F w1 s1) ?_
  rintro x a' w' ⟨e', L', rfl, ve, se, q⟩
  cases x with
  | normal => obtain ⟨m, hm, hI⟩ := q; exact ⟨m, hm, e', L', rfl, v1.trans ve, se, hI⟩
  | _ => exact ⟨e', L', rfl, v1.trans ve, se, q⟩

end

/-- A contract: called with these values in a world that has M for good and owns 'pre', it comes back with a value and what K says. -/
def Spec (P : Program) (M : Heap) (f : FuncId) (args : List Value) (pre : List HP) (K : Value → List HP → Prop) : Prop :=
  ∀ F w, Sat M (pre ++ F) w → Calls P f args.toArray w fun e w' => ∃ v L', e = .returned v ∧ Env w w' ∧ Sat M (L' ++ F) w' ∧ K v L'

def e0 (args : List Value) : TEnv := fun t => args.getD t undef

/-- What stands behind a body: the results are read. -/
def retE (P : Program) (M : Heap) (N : Nat) (fn : Func) (K : Value → List HP → Prop) : Exit → TEnv → List HP → Prop
  | .normal, e, L | .ret, e, L => ∀ F w, Sat M (L ++ F) w → ∃ v L2, (results fn (actOf N e).tmps).run P w = .ok v w ∧ Sat M (L2 ++ F) w ∧ K v L2
  | _, _, _ => False

theorem Spec.of_run {P : Program} {M : Heap} {f : FuncId} {args : List Value} {pre : List HP} {K : Value → List HP → Prop} {fn : Func} {c : Code} {N : Nat}
    (hf : P.funcs[f]? = some fn) (hb : fn.body = some c) (hN : args.length + (fn.ntmps - args.length) = N)
    (h : Run P M N c (e0 args) pre (retE P M N fn K)) : Spec P M f args pre K := by
  intro F w s
  have ha : actOf N (e0 args) = { tmps := args.toArray ++ Array.replicate (fn.ntmps - args.toArray.size) undef, defers := [] } := by
    have : (actOf N (e0 args)).tmps = args.toArray ++ Array.replicate (fn.ntmps - args.toArray.size) undef := by
      apply Array.ext
      · simp [actOf, ← hN]
      · intro i h1 h2
        simp only [actOf, Array.getElem_ofFn, e0]
        by_cases hi : i < args.length
        · rw [Array.getElem_append_left (by simpa using hi)]
          simp [List.getD_eq_getElem?_getD, List.getElem?_eq_getElem hi]
        · rw [Array.getElem_append_right (by simpa using hi)]
          simp [List.getD_eq_getElem?_getD, List.getElem?_eq_none (Nat.le_of_not_lt hi)]
    cases hx : actOf N (e0 args); rw [hx] at this; cases this
    have : (actOf N (e0 args)).defers = [] := rfl
    rw [hx] at this; cases this; rfl
  refine calls_of_wp hf hb ?_
  rw [← ha]
  refine wp_mono (h F w s) ?_
  rintro x a' w' ⟨e', L', rfl, ve, se, q⟩
  cases x with
  | normal =>
    obtain ⟨v, L2, r, s2, k⟩ := q F w' se
    exact ⟨rfl, v, r, v, L2, rfl, ve, s2, k⟩
  | ret =>
    obtain ⟨v, L2, r, s2, k⟩ := q F w' se
    exact ⟨rfl, v, r, v, L2, rfl, ve, s2, k⟩
  | _ => exact q.elim
end Go.Gv
