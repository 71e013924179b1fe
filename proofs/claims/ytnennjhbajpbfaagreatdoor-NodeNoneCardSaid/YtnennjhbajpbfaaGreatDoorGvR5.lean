/- Small steps of the machine, for runs whose clocks are unknown. -/
import Derived.Test.YtnennjhbajpbfaaGreatDoorGvR4
namespace Go.Gv
set_option linter.unusedVariables false
set_option linter.unusedSimpArgs false
set_option linter.unusedSectionVars false
section
variable {P : Program} {T : TT P} {E : EqT} {G : GT} {M : Heap} {ρ ρ' : Rho} {h h' : Hp} {F : List HP} {w w' : World} {N : Nat} {tm tm' : Tm} {arr : Array Oper} {call : CallF} {e : TEnv} {L : List HP} {r : Operand → SV}
abbrev E0 : EqT := fun _ => none
abbrev G0 : GT := fun _ => none
abbrev C0 : CallF := fun _ _ _ _ => none
theorem E0_ok : EOk P E0 := fun t fs e => by cases e
theorem G0_ok : GOk M G0 := fun t fs e => by cases e
theorem C0_ok : CallOk P M C0 := fun k a h nx x h' nx' e => by cases e
theorem evC_reg {id : Nat} {ops : Array Oper} {D : List (Nat × Tr)} {nx nx' : Nat} (e : evOps T E G call N ops ops.toList tm h nx = some (tm', h', nx')) : evC T E G call N D (.region id ops false) tm h nx = some (.nor, tm', h', nx') := by
  simp only [evC, e]
theorem evOps_cons {o : Oper} {l : List Oper} {nx nx1 nx' : Nat} {x : SV} {h1 : Hp} {tm1 : Tm} (hg : o.guard = none) (e : ev1 T E G call tm h nx nx o.op = some (x, h1, nx1)) (hp : put N tm o.dst x = some tm1) (k : evOps T E G call N arr l tm1 h1 nx1 = some (tm', h', nx')) : evOps T E G call N arr (o :: l) tm h nx = some (tm', h', nx') := by
  simp only [evOps, hg, onS, e, hp, k]
theorem ev1_next1 {c m nx clk b0 : Nat} {x : Operand} {k v : SV} (hx : rd tm x = .p c 0) (hg : hget h c = some (.mit (some m) clk [] clk)) (hm : hget h m = some (.map [(k, v, b0)] clk)) (hb : Nat.blt b0 clk = true) :
    ev1 T E G call tm h nx nx (.next x false) = some (.t [.v (.bool true), k, v], hset h c (.mit (some m) clk [b0] clk), nx) := by
  have h1 : evP T E G h (rd tm) (.next x false) = none := rfl
  have h2 : evE T E G h nx (rd tm) (.next x false) = some (.t [.v (.bool true), k, v], hset h c (.mit (some m) clk [b0] clk)) := by
    simp only [evE, hx, hg, hm, hb, cond_true]
  unfold ev1
  rw [h1, h2]
  simp [allocs]
theorem ev1_next2 {c m nx clk b0 : Nat} {x : Operand} {k v : SV} (hx : rd tm x = .p c 0) (hg : hget h c = some (.mit (some m) clk [b0] clk)) (hm : hget h m = some (.map [(k, v, b0)] clk)) (hb : Nat.blt b0 clk = true) :
    ev1 T E G call tm h nx nx (.next x false) = some (.t [.v (.bool false)], h, nx) := by
  have h1 : evP T E G h (rd tm) (.next x false) = none := rfl
  have h2 : evE T E G h nx (rd tm) (.next x false) = some (.t [.v (.bool false)], h) := by
    have hbb : Nat.beq b0 b0 = true := by simp
    simp only [evE, hx, hg, hm, hb, hbb, Bool.and_self, cond_true]
  unfold ev1
  rw [h1, h2]
  simp [allocs]
theorem ev1_entry {c m nx clk b0 : Nat} {x : Operand} {k v : SV} (hx : rd tm x = .p c 0) (hg : hget h c = some (.mit (some m) clk [b0] clk)) (hm : hget h m = some (.map [(k, v, b0)] clk)) :
    ev1 T E G call tm h nx nx (.entry x) = some (.t [k, v], h, nx) := by
  have h2 : evP T E G h (rd tm) (.entry x) = some (.t [k, v]) := by
    have hbb : Nat.beq b0 b0 = true := by simp
    have hcc : Nat.beq clk clk = true := by simp
    simp only [evP, hx, hg, hm, hcc, cond_true, List.getLast?_singleton, findBorn, hbb]
  unfold ev1
  rw [h2]
theorem keyZ_1 {kv k' : SV} {cs : List SV} (e : keyZ 1 kv = some (k', cs)) : ∃ s, kv = .v (.string s) ∧ cs = [.v (.string s)] := by
  unfold keyZ at e
  split at e
  · cases e; exact ⟨_, rfl, rfl⟩
  · cases e
  · cases e
theorem keyZ_2 {kv k' : SV} {cs : List SV} (e : keyZ 2 kv = some (k', cs)) : ∃ a b, kv = .a [.v (.int .i64 a), .v (.int .i64 b)] ∧ cs = [.v (.int .i64 a), .v (.int .i64 b)] := by
  unfold keyZ at e
  split at e
  · cases e
  · cases e; exact ⟨_, _, rfl, rfl⟩
  · cases e
theorem Ent.right {L K : List HP} : Ent (L ++ K) K := fun h x => let ⟨_, _, _, _, s2, _, b⟩ := stars_app.1 x; stars_up b s2
theorem ent_get {c : Nat} {o : SO} (e : hget h c = some o) : Ent (objs ρ h) [objP ρ c o] := by
  obtain ⟨g1, l1⟩ := hget_spec e
  obtain ⟨R1, p1, _⟩ := objs_set ρ 12 h c c _ (p12 l1) g1
  exact (Ent.perm p1).trans (Ent.left (L := [objP ρ c o]) (K := R1))
theorem ent_two {A B : HP} {R : List HP} : Ent (A :: B :: R) [A, B] := Ent.left (L := [A, B]) (K := R)
theorem keys0_of_ev (hE : EOk P E) (hG : GOk M G) (hC : CallOk P M call) (hm : P.follows .mixedOrders = true) (hN : N ≤ 1000) {k : Nat} {fn : Func} (hf : P.funcs[k]? = some fn) {c : Code} (hb : fn.body = some c) (hres : fn.results = #[]) (hNt : fn.ntmps = N)
    {args : List SV} {h0 h9 : Hp} {n0 n9 : Nat} {tm9 : Tm} (hargs : args.length ≤ N) (ok : okHp h0) (hk : okVs (dom h0) args)
    (eA : evC T E G call N [] c (args0 args 0 .lf) h0 n0 = some (.nor, tm9, h9, n9)) : Spec P M k (dens ρ args) (objs ρ h0) fun v L => ∃ ρ', L = objs ρ' h9 ∧ Grew h0 h9 ρ ρ' := by
  refine Spec.of_run hf hb (N := N) (by rw [dens_len]; omega) ?_
  rw [← args0_den (by omega)]
  refine (evC_sound (P := P) hE hG hC hm hN c (drawsOk_nil c) ok (args0_ok hargs hN hk) eA (ρ := ρ)).mono ?_
  rintro y e1 L1 ⟨rfl, ρ1, rfl, rfl, g1, okt1⟩
  intro F w s
  exact ⟨_, _, results_none hres _ _ _, s, ρ1, rfl, g1⟩
/-- What gathers, around what ranges. -/
theorem gather_hK {kc : Nat} {args : List Value} {h0 h9 h1 h2 : Hp} {ρ1 : Rho} {R : HP} (ok : okHp h0)
    (S : Spec P M kc args (objs ρ h0 ++ (R :: objs ρ1 h1)) fun v L => ∃ ρ' L1, L = objs ρ' h9 ++ L1 ∧ Grew h0 h9 ρ ρ' ∧ ∃ ρ2, L1 = R :: objs ρ2 h2 ∧ Grew h1 h2 ρ1 ρ2) (hen : ∀ ρ', Ent (objs ρ' h9) (objs ρ' h0)) :
    Spec P M kc args ((R :: objs ρ1 h1) ++ objs ρ h0) fun v L => ∃ ρ2, L = (R :: objs ρ2 h2) ++ objs ρ h0 ∧ Grew h1 h2 ρ1 ρ2 := by
  refine (S.pre (Ent.perm List.perm_append_comm)).post ?_
  rintro v L ⟨ρ', L1, rfl, g, ρ2, rfl, g2⟩
  refine ⟨_, ?_, ρ2, rfl, g2⟩
  have : Ent (objs ρ' h9) (objs ρ h0) := by rw [objs_okHp ok g.ext]; exact hen ρ'
  exact (Ent.app (F := R :: objs ρ2 h2) this).trans (Ent.perm List.perm_append_comm)
end
end Go.Gv
