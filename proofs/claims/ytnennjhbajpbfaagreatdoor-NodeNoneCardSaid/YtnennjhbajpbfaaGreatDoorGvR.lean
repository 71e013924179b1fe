/- A range over a function, in the machine's words: the rounds, the ranged function, what is around it. -/
import Derived.Test.YtnennjhbajpbfaaGreatDoorGvQ3
import Derived.RangeFuncIn
import Derived.RangeFuncLeaves
import Derived.RangeFuncRecord
namespace Go.Gv
set_option linter.unusedVariables false
set_option linter.unusedSimpArgs false
set_option linter.unusedSectionVars false

def fz (ro : Option Nat) : Fence := { Fence.wide with round := ro }
theorem fz_room (ro : Option Nat) (n : Nat) : (fz ro).room n := fun _ h => by simp [fz, Fence.wide] at h
theorem fz_depth {ro : Option Nat} {p : Prop} (h : (fz ro).depth.isSome = true) : p := by simp [fz, Fence.wide] at h

section
variable {P : Program} {T : TT P} {E : EqT} {G : GT} {M : Heap} {ρ ρ' : Rho} {h h' : Hp} {F : List HP} {w w' : World} {N : Nat} {tm tm' : Tm} {arr : Array Oper} {call : CallF} {e : TEnv} {L : List HP} {Q : Exit → TEnv → List HP → Prop} {ro : Option Nat} {n : Nat}

theorem fz_calls {f : FuncId} {args : Array Value} {R : Ending → World → Prop} (h : Calls P f args w R) : CallsIn (fz ro) n P f args w R :=
  ⟨trivial, fun cs _ => let ⟨e, w', fr, r, s, x⟩ := h cs; ⟨e, w', fr, r, comesIn_wide.2 s, x⟩⟩
theorem fz_rows {row : String} {args : Array Value} {R : Value → World → Prop} (h : Rows P row args w R) : RowsIn (fz ro) n P row args w R :=
  fun c cs _ => let ⟨v, w', r, s⟩ := h c cs; ⟨v, w', r, stepsIn_wide.2 s⟩
theorem nextOk.uponIn {K : Value → List HP → Prop} {r : Result Next} {o : Oper} {a : Act} {next : Act → World → Prop} {Q' : Exit → Act → World → Prop}
    (h : nextOk P M F w K r) (hn : ∀ v L' w', Env w w' → Sat M (L' ++ F) w' → K v L' → next (a.put o.dst v) w') : o.uponIn (fz ro) n P a next Q' r := by
  cases r with
  | ok nx w' =>
    cases nx <;> simp only [nextOk, Oper.uponIn] at h ⊢
    · obtain ⟨h1, L', h2, h3⟩ := h; exact hn _ _ _ h1 h2 h3
    · obtain ⟨h1, L', h2, h3⟩ := h; exact hn _ _ _ h1 h2 h3
    · exact ⟨fun q => fz_depth q, fz_calls (h.mono fun e w'' ⟨v, L', a, b, c, d⟩ => by subst a; exact hn _ _ _ b c d)⟩
    · exact ⟨fun q => fz_depth q, fz_rows (h.mono fun v w'' ⟨a, L', b, c⟩ => hn _ _ _ a b c)⟩
  | halt _ _ => exact h.elim

def actD (N : Nat) (e : TEnv) (ds : List Deferred) : Act := ⟨(actOf N e).tmps, ds⟩
theorem actD_eval (ds : List Deferred) : (actD N e ds).eval = ev N e := actOf_eval N e
theorem actD_put (ds : List Deferred) (d : Option Nat) (v : Value) : (actD N e ds).put d v = actD N (upd e d v) ds := by
  have h := congrArg Act.tmps (actOf_put N e d v)
  cases d with
  | none => rfl
  | some d => simp only [actD, Act.put] at h ⊢; rw [h]
theorem actD_yielded {ds : List Deferred} (ops : Array Oper) : yielded ops (actD N e ds).tmps = gb ops N e := actOf_yielded' ops N e

def calm (l : List Oper) : Bool := l.all fun o => match o.op with | .defer _ => false | _ => true
theorem calm_spec {l : List Oper} (h : calm l = true) : ∀ o ∈ l, ∀ c, o.op ≠ .defer c := fun o ho c q => by
  have := List.all_eq_true.1 h o ho
  simp [q] at this

theorem RunOps.wpIn {ops : Array Oper} {w0 : World} {ds : List Deferred} {K : TEnv → List HP → Prop} {Q' : Exit → Act → World → Prop} {rest : List Nat} :
    ∀ (l : List Nat) (lo : List Oper) (e : TEnv) (L : List HP) (w : World), l.map (ops[·]?) = lo.map some → (∀ o ∈ lo, ∀ c, o.op ≠ .defer c) → RunOps P M N ops lo e L K → Sat M (L ++ F) w → Env w0 w →
    (∀ e' L' w', K e' L' → Sat M (L' ++ F) w' → Env w0 w' → wpOpsIn (fz ro) n P ops Q' rest (actD N e' ds) w') → wpOpsIn (fz ro) n P ops Q' (l ++ rest) (actD N e ds) w
  | [], [], e, L, w, _, _, h, s, v, k => k _ _ _ h s v
  | i :: l, o :: lo, e, L, w, hl, hc, h, s, v, k => by
    simp only [List.map_cons, List.cons.injEq] at hl
    rw [List.cons_append]
    unfold wpOpsIn
    simp only [hl.1]
    simp only [RunOps, stepL] at h
    have hw : Region.wanted o (yielded ops (actD N e ds).tmps) = wantedE ops N e o := by rw [actD_yielded]; rfl
    rw [hw]
    split
    · rename_i q
      rw [if_pos q] at h
      refine ⟨fun _ _ => trivial, ?_⟩
      rw [Oper.semAt_eq _ _ _ (hc o (List.mem_cons_self ..)), actD_eval]
      refine (h F w s).uponIn fun x L' w' ve se he => ?_
      rw [actD_put]
      exact RunOps.wpIn l lo _ L' w' hl.2 (fun o' ho' => hc o' (List.mem_cons_of_mem _ ho')) he se (v.trans ve) k
    · rename_i q
      rw [if_neg q] at h
      refine ⟨fun _ _ => trivial, ?_⟩
      rw [actD_put]
      exact RunOps.wpIn l lo _ L w hl.2 (fun o' ho' => hc o' (List.mem_cons_of_mem _ ho')) h s v k
  | [], _ :: _, _, _, _, hl, _, _, _, _, _ => by simp at hl
  | _ :: _, [], _, _, _, hl, _, _, _, _, _ => by simp at hl
theorem range_ops (ops : Array Oper) : (List.range ops.size).map (ops[·]?) = ops.toList.map some := by
  apply List.ext_getElem
  · simp
  · intro i h1 h2; simp at h1 h2 ⊢
/-- A region, in whatever round, with whatever marks. -/
theorem RunOps.regionIn {id : Nat} {ops : Array Oper} {ds : List Deferred} {K : TEnv → List HP → Prop} {Q' : Exit → Act → World → Prop} (hc : calm ops.toList = true) (h : RunOps P M N ops ops.toList e L K) (s : Sat M (L ++ F) w)
    (k : ∀ e' L' w', K e' L' → Sat M (L' ++ F) w' → Env w w' → Q' .normal (actD N e' ds) w') : (Code.region id ops false).wpIn (fz ro) n P Q' (actD N e ds) w := by
  refine wpIn_region ?_
  rw [← List.append_nil (List.range ops.size)]
  exact RunOps.wpIn _ _ e L w (range_ops ops) (calm_spec hc) h s (.refl w) fun e' L' w' a b c => by unfold wpOpsIn; exact k _ _ _ a b c

/-- Yield, called: the round is gone through; it hands back true. -/
def YieldT (P : Program) (M : Heap) (l : Nat) (args : Array Value) (L : List HP) (K : List HP → Prop) : Prop :=
  ∀ F w, Sat M (L ++ F) w → ∃ fn tmps assign body, (Instr.yield l args).run P w = .ok (.round l fn tmps assign body) w ∧
    RoundIn Fence.wide 0 P l fn tmps assign body w fun e w' => ∃ L', e = .returned (.bool true) ∧ Env w w' ∧ Sat M (L' ++ F) w' ∧ K L'
theorem round_n {l : Nat} {f : FuncId} {tmps : Array Value} {a b : Code} {R : Ending → World → Prop} (h : RoundIn Fence.wide n P l f tmps a b w R) (m : Nat) : RoundIn Fence.wide m P l f tmps a b w R :=
  ⟨h.1, fun c cs _ => h.2 c cs (room_wide _)⟩
theorem ops_split {ops : Array Oper} {pre po : List Oper} {o : Oper} (h : ops.toList = pre ++ o :: po) :
    ∃ l1 i l2, List.range ops.size = l1 ++ i :: l2 ∧ l1.map (ops[·]?) = pre.map some ∧ ops[i]? = some o ∧ l2.map (ops[·]?) = po.map some := by
  have hr := range_ops ops
  rw [h, List.map_append, List.map_cons] at hr
  obtain ⟨l1, l', e1, e2, e3⟩ := List.map_eq_append_iff.1 hr
  obtain ⟨i, l2, rfl, e4, e5⟩ := List.map_eq_cons_iff.1 e3
  exact ⟨l1, i, l2, e1, e2, e4, e5⟩
theorem Run.regionY {id : Nat} {ops : Array Oper} {pre po : List Oper} {dst : Option Nat} {ty : TypeId} {pos : String} {aft : Array Edge} {x : Operand} {xs : Array Operand} {ats : Array TypeId}
    (hops : ops.toList = pre ++ ⟨dst, .call ⟨.value x, xs, ats⟩, ty, pos, aft, none⟩ :: po) (hc : calm pre = true) (hc2 : calm po = true)
    (h : RunOps P M N ops pre e L fun e1 L1 => ∃ l, ev N e1 x = .func (.yield l) #[] #[] ∧ YieldT P M l (xs.map (ev N e1)) L1 fun L2 => RunOps P M N ops po (upd e1 dst (.bool true)) L2 (Q .normal)) :
    Run P M N (.region id ops false) e L Q := by
  intro F w s
  obtain ⟨l1, i, l2, hr, h1, hi, h2⟩ := ops_split hops
  refine (wpIn_wide (n := 1)).1 (wpIn_region ?_)
  rw [hr]
  show wpOpsIn (fz none) 1 P ops _ _ (actD N e []) w
  refine RunOps.wpIn l1 pre e L w h1 (calm_spec hc) h s (.refl w) ?_
  rintro e1 L1 w1 ⟨l, hx, hy⟩ s1 v1
  unfold wpOpsIn
  simp only [hi]
  rw [if_pos (show Region.wanted (_ : Oper) _ = true from rfl)]
  refine ⟨fun _ _ => trivial, ?_⟩
  rw [Oper.semAt_eq _ _ _ (by simp), actD_eval]
  obtain ⟨fn, tmps, asg, body, hrun, hround⟩ := hy F w1 s1
  have hex : execOp (ev N e1) ⟨dst, .call ⟨.value x, xs, ats⟩, ty, pos, aft, none⟩ = Instr.yield l (xs.map (ev N e1)) := by
    simp [execOp, resolve, hx, Deferred.ofValue, invoke]
  rw [hex, hrun]
  refine ⟨fun q => fz_depth q, (round_n hround _).mono ?_⟩
  rintro en w2 ⟨L2, rfl, v2, s2, h3⟩
  show wpOpsIn (fz none) 1 P ops _ l2 ((actD N e1 []).put dst (.bool true)) w2
  rw [actD_put, ← List.append_nil l2]
  refine RunOps.wpIn l2 po _ L2 w2 h2 (calm_spec hc2) h3 s2 (v1.trans v2) fun e' L' w' a b c => ?_
  unfold wpOpsIn
  exact ⟨e', L', rfl, c, b, a⟩

/-! ### Beside other things -/
theorem opT.beside {s : Sem Next} {K : Value → List HP → Prop} {X : List HP} (h : opT P M s L K) : opT P M s (L ++ X) fun v L' => ∃ L1, L' = L1 ++ X ∧ K v L1 := by
  intro F w x
  rw [List.append_assoc] at x
  refine (h (X ++ F) w x).map fun v L' w' a b => ⟨L' ++ X, by rw [List.append_assoc]; exact a, L', rfl, b⟩
theorem RunOps.beside {X : List HP} : ∀ {l : List Oper} {e : TEnv} {L : List HP} {K : TEnv → List HP → Prop}, RunOps P M N arr l e L K → RunOps P M N arr l e (L ++ X) fun e' L' => ∃ L1, L' = L1 ++ X ∧ K e' L1
  | [], e, L, K, h => ⟨L, rfl, h⟩
  | o :: l, e, L, K, h => by
    simp only [RunOps, stepL] at h ⊢
    split
    · rename_i q
      rw [if_pos q] at h
      refine h.beside.mono ?_
      rintro v L' ⟨L1, rfl, k⟩
      exact RunOps.beside k
    · rename_i q
      rw [if_neg q] at h
      exact RunOps.beside h
theorem Spec.post {f : FuncId} {args : List Value} {pre : List HP} {K K' : Value → List HP → Prop} (S : Spec P M f args pre K) (k : ∀ v L, K v L → ∃ L', Ent L L' ∧ K' v L') : Spec P M f args pre K' :=
  fun F w s => (S F w s).mono fun e w' ⟨v, L', a, b, c, d⟩ => let ⟨L2, x, y⟩ := k v L' d; ⟨v, L2, a, b, c.ent x.app, y⟩
theorem Spec.pre {f : FuncId} {args : List Value} {pre pre' : List HP} {K : Value → List HP → Prop} (S : Spec P M f args pre K) (k : Ent pre' pre) : Spec P M f args pre' K :=
  fun F w s => S F w (s.ent k.app)
theorem Spec.beside {f : FuncId} {args : List Value} {pre X : List HP} {K : Value → List HP → Prop} (S : Spec P M f args pre K) : Spec P M f args (pre ++ X) fun v L => ∃ L1, L = L1 ++ X ∧ K v L1 :=
  fun F w s => (S (X ++ F) w (by rw [← List.append_assoc]; exact s)).mono fun e w' ⟨v, L', a, b, c, d⟩ => ⟨v, L' ++ X, a, b, by rw [List.append_assoc]; exact c, L', rfl, d⟩

/-! ### One round -/
def recOf (fn : FuncId) (tmps : Array Value) (p i1 i2 i3 D : Nat) (oA oB : Array Oper) (st : LoopState) : Loop :=
  { state := st, pending := none, fn := fn, tmps := tmps, params := #[p], assign := .region i2 oA false, body := .block i1 (.region i3 oB false), defers := D }
theorem putObj_get {l : Nat} {o ob : Obj} (hl : w.heap[l]? = some ob) (x : Nat) : (w.putObj l o).heap[x]? = if x = l then some o else w.heap[x]? := by
  by_cases h : x = l
  · subst h; rw [if_pos rfl]; exact World.putObj_heap_same (Array.getElem?_eq_some_iff.1 hl).1
  · rw [if_neg h]; exact World.putObj_heap_other h
theorem env_putObj {l : Nat} {o : Obj} : Env w (w.putObj l o) := ⟨rfl, rfl, rfl, by simp⟩
theorem yield_of_ev (hE : EOk P E) (hG : GOk M G) (hC : CallOk P M call) (hN : N ≤ 1000) {l D fn p i1 i2 i3 nx nxA nxB : Nat} {tm0 tm1 tmA tmB : Tm} {oA oB : Array Oper} {h0 hA hB : Hp} {kv : SV} (ok : okHp h0) (okt : okTm (dom h0) N tm0)
    (hk : okV (dom h0) kv) (hp : put N tm0 (some p) kv = some tm1) (eA : evOps T E G call N oA oA.toList tm1 h0 nx = some (tmA, hA, nxA)) (eB : evOps T E G call N oB oB.toList tmA hA nxA = some (tmB, hB, nxB))
    (cA : calm oA.toList = true) (cB : calm oB.toList = true) :
    YieldT P M l #[den ρ kv] (pts l (.loop (recOf fn (actOf N (denT ρ tm0)).tmps p i1 i2 i3 D oA oB .ready)) :: objs ρ h0)
      fun L => ∃ ρ', L = pts l (.loop (recOf fn (actOf N (denT ρ tm0)).tmps p i1 i2 i3 D oA oB .ready)) :: objs ρ' hB ∧ Grew h0 hB ρ ρ' := by
  intro F w s
  have hl : w.heap[l]? = some (.loop (recOf fn (actOf N (denT ρ tm0)).tmps p i1 i2 i3 D oA oB .ready)) := Sat.block (L := objs ρ h0 ++ F) s
  obtain ⟨d1, okt1⟩ := put_spec (ρ := ρ) hN hp okt hk
  refine ⟨_, _, _, _, run_yield (args := #[den ρ kv]) hl rfl, roundIn_of_wpIn trivial ?_⟩
  have hact : ({ tmps := ((recOf fn (actOf N (denT ρ tm0)).tmps p i1 i2 i3 D oA oB .ready).params.zip #[den ρ kv]).foldl (fun tmps (t, a) => tmps.setIfInBounds t a) (recOf fn (actOf N (denT ρ tm0)).tmps p i1 i2 i3 D oA oB .ready).tmps, defers := [] } : Act) = actD N (denT ρ tm1) [] := by
    have := actD_put (N := N) (e := denT ρ tm0) [] (some p) (den ρ kv)
    rw [d1, ← this]
    simp [recOf, actD, Act.put]
  rw [hact]
  have rA := evOps_sound (P := P) (M := M) (ρ := ρ) hE hG hC hN ok okt1 eA
  have s' : Sat M (objs ρ h0 ++ (pts l (.loop (recOf fn (actOf N (denT ρ tm0)).tmps p i1 i2 i3 D oA oB .ready)) :: F)) w := s.perm (by simpa using (List.perm_middle).symm)
  refine RunOps.regionIn (ro := some l) cA rA s' ?_
  rintro e1 L1 w1 ⟨ρ1, rfl, rfl, g1, oktA⟩ s1 v1
  have s1' : Sat M (pts l (.loop (recOf fn (actOf N (denT ρ tm0)).tmps p i1 i2 i3 D oA oB .ready)) :: (objs ρ1 hA ++ F)) w1 := s1.perm List.perm_middle
  have hl1 := s1'.block
  refine ⟨_, run_beginRound hl1 rfl, ?_⟩
  have s2 : Sat M (pts l (.loop (recOf fn (actOf N (denT ρ tm0)).tmps p i1 i2 i3 D oA oB .busy)) :: (objs ρ1 hA ++ F)) (w1.putObj l (.loop { recOf fn (actOf N (denT ρ tm0)).tmps p i1 i2 i3 D oA oB .ready with state := .busy })) := s1'.set (putObj_get hl1)
  have rB := evOps_sound (P := P) (M := M) (ρ := ρ1) hE hG hC hN g1.ok oktA eB
  refine wpIn_block (RunOps.regionIn (ro := some l) cB rB (s2.perm List.perm_middle.symm) ?_)
  rintro e2 L2 w2 ⟨ρ2, rfl, rfl, g2, oktB⟩ s3 v2
  have s3' : Sat M (pts l (.loop (recOf fn (actOf N (denT ρ tm0)).tmps p i1 i2 i3 D oA oB .busy)) :: (objs ρ2 hB ++ F)) w2 := s3.perm List.perm_middle
  have hl2 := s3'.block
  refine ⟨_, _, run_endRound none hl2, _, rfl, (v1.trans env_putObj).trans (v2.trans env_putObj), ?_, ρ2, rfl, g1.trans g2⟩
  exact s3'.set (putObj_get hl2)
end
end Go.Gv
