/- The stack of what is still to be done, and the reckoning walk over it. -/
import Derived.Test.YtnennjhbajpbfaaGreatDoorGvC
import Derived.Test.YtnennjhbajpbfaaGreatDoorGvG
namespace Go.Gv
set_option linter.unusedVariables false
set_option linter.unusedSimpArgs false
set_option linter.unusedSectionVars false

inductive It where
  | c (x : Code)
  | ops (arr : Array Oper) (l : List Oper)
  | blk (id : Nat)
  | dr (arr : Array Oper) (l : Tr)
  | chk (arr : Array Oper) (xs : List Nat) (L0 : List HP)

def post (P : Program) (M : Heap) (N : Nat) : List It → (Exit → TEnv → List HP → Prop) → Exit → TEnv → List HP → Prop
  | [], Q => Q
  | .c x :: k, Q => fun ex e L => match ex with
    | .normal => Run P M N x e L (post P M N k Q)
    | ex => post P M N k Q ex e L
  | .ops arr l :: k, Q => fun ex e L => match ex with
    | .normal => RunOps P M N arr l e L (post P M N k Q .normal)
    | ex => post P M N k Q ex e L
  | .blk id :: k, Q => inBlockE id (post P M N k Q)
  | .dr arr l :: k, Q => fun ex e L => match ex with
    | .normal => RunD P M N arr l e L (post P M N k Q .normal)
    | ex => post P M N k Q ex e L
  | .chk arr xs L0 :: k, Q => fun ex e L => match ex with
    | .normal => (Ent L L0 ∨ ∀ x, x ∈ xs → ∀ o, arr[x]? = some o → Still P M N arr o (dstV N e o) e L) ∧ post P M N k Q .normal e L
    | ex => post P M N k Q ex e L
def Exec (P : Program) (M : Heap) (N : Nat) (k : List It) (e : TEnv) (L : List HP) (Q : Exit → TEnv → List HP → Prop) : Prop := post P M N k Q .normal e L

def popTo (id : Nat) : List It → Option (List It)
  | [] => none
  | .blk j :: k => bif Nat.beq j id then some k else popTo id k
  | _ :: k => popTo id k

def advance1 {P : Program} (T : TT P) (N : Nat) : List It → TEnv → Option (List It × TEnv)
  | .c x :: k, e => match x with
    | .seq a b => some (.c a :: .c b :: k, e)
    | .skip => some (k, e)
    | .block id b => some (.c b :: .blk id :: k, e)
    | .exit id => match popTo id k with
      | some k' => some (k', e)
      | none => none
    | .region _ ops false => some (.ops ops ops.toList :: k, e)
    | _ => none
  | .blk _ :: k, e => some (k, e)
  | .ops _ [] :: k, e => some (k, e)
  | .ops arr (⟨dst, op, _, _, _, none⟩ :: l) :: k, e => match pv T op (ev N e) with
    | some v => some (.ops arr l :: k, upd e dst v)
    | none => none
  | .ops _ _ :: _, _ => none
  | .dr _ .nil :: k, e => some (k, e)
  | .dr arr (.cons (.pu i) l) :: k, e => match arr[i]? with
    | some ⟨dst, op, _, _, _, none⟩ => match pv T op (ev N e) with
      | some v => some (.dr arr l :: k, upd e dst v)
      | none => none
    | _ => none
  | .dr arr (.cons (.ef i []) l) :: k, e => match arr[i]? with
    | some o => some (.ops arr [o] :: .dr arr l :: k, e)
    | none => none
  | .dr _ _ :: _, _ => none
  | .chk _ _ _ :: _, _ => none
  | [], _ => none
def advance {P : Program} (T : TT P) (N : Nat) : Nat → List It → TEnv → List It × TEnv
  | 0, k, e => (k, e)
  | n + 1, k, e => match advance1 T N k e with
    | some (k', e') => advance T N n k' e'
    | none => (k, e)

section
variable {P : Program} {M : Heap} {N : Nat} {e : TEnv} {L : List HP} {Q : Exit → TEnv → List HP → Prop} {T : TT P} {k : List It}

theorem post_pop {id : Nat} : ∀ {k k' : List It}, popTo id k = some k' → post P M N k' Q .normal e L → post P M N k Q (.exit id) e L
  | [], _, h, _ => by cases h
  | .blk j :: k, k', h, H => by
    simp only [popTo] at h
    show (if id = j then post P M N k Q .normal e L else post P M N k Q (.exit id) e L)
    cases hb : Nat.beq j id with
    | true => rw [hb] at h; cases h; rw [if_pos (Nat.eq_of_beq_eq_true hb).symm]; exact H
    | false =>
      rw [hb] at h
      have : id ≠ j := fun e => by subst e; simp at hb
      rw [if_neg this]
      exact post_pop h H
  | .c _ :: k, k', h, H => post_pop (k := k) h H
  | .ops _ _ :: k, k', h, H => post_pop (k := k) h H
  | .dr _ _ :: k, k', h, H => post_pop (k := k) h H
  | .chk _ _ _ :: k, k', h, H => post_pop (k := k) h H

theorem opT.pure {op : Op} {ρ : Operand → Value} {v : Value} {K : Value → List HP → Prop} {dst : Option Nat} {ty : TypeId} {pos : String} {aft : Array Edge} {gd : Option (Nat × Bool)}
    (h : pv T op ρ = some v) (hk : K v L) : opT P M (execOp ρ ⟨dst, op, ty, pos, aft, gd⟩) L K := by
  intro F w s
  rw [pv_sound h w]
  exact ⟨.refl w, L, s, hk⟩

/-- An operation without a guard. -/
theorem Exec.op {arr : Array Oper} {dst : Option Nat} {op : Op} {ty : TypeId} {pos : String} {aft : Array Edge} {l : List Oper}
    (h : opT P M (execOp (ev N e) ⟨dst, op, ty, pos, aft, none⟩) L fun v L' => Exec P M N (.ops arr l :: k) (upd e dst v) L' Q) : Exec P M N (.ops arr (⟨dst, op, ty, pos, aft, none⟩ :: l) :: k) e L Q := h
/-- An operation whose guard lets it by. -/
theorem Exec.opOn {arr : Array Oper} {dst : Option Nat} {op : Op} {ty : TypeId} {pos : String} {aft : Array Edge} {l : List Oper} {g : Nat × Bool}
    (hg : gb arr N e g.1 = some g.2) (h : Exec P M N (.ops arr (⟨dst, op, ty, pos, aft, none⟩ :: l) :: k) e L Q) : Exec P M N (.ops arr (⟨dst, op, ty, pos, aft, some g⟩ :: l) :: k) e L Q := by
  have hw : wantedE arr N e ⟨dst, op, ty, pos, aft, some g⟩ = true := by simp [wantedE, Region.wanted, hg]
  change RunOps P M N arr (⟨dst, op, ty, pos, aft, some g⟩ :: l) e L (post P M N k Q .normal)
  simp only [RunOps, stepL]
  rw [if_pos hw]
  exact h
/-- An operation whose guard bars it. -/
theorem Exec.opOff {arr : Array Oper} {dst : Option Nat} {op : Op} {ty : TypeId} {pos : String} {aft : Array Edge} {l : List Oper} {g : Nat × Bool}
    (hg : gb arr N e g.1 = some (!g.2)) (h : Exec P M N (.ops arr l :: k) (upd e dst undef) L Q) : Exec P M N (.ops arr (⟨dst, op, ty, pos, aft, some g⟩ :: l) :: k) e L Q := by
  have hw : wantedE arr N e ⟨dst, op, ty, pos, aft, some g⟩ = false := by simp [wantedE, Region.wanted, hg]
  change RunOps P M N arr (⟨dst, op, ty, pos, aft, some g⟩ :: l) e L (post P M N k Q .normal)
  simp only [RunOps, stepL]
  rw [if_neg (by rw [hw]; simp)]
  exact h
theorem Exec.opCase {arr : Array Oper} {dst : Option Nat} {op : Op} {ty : TypeId} {pos : String} {aft : Array Edge} {l : List Oper} {j : Nat} {b t : Bool}
    (hg : gb arr N e j = some t) (h1 : t = b → Exec P M N (.ops arr (⟨dst, op, ty, pos, aft, none⟩ :: l) :: k) e L Q) (h2 : t = (!b) → Exec P M N (.ops arr l :: k) (upd e dst undef) L Q) : Exec P M N (.ops arr (⟨dst, op, ty, pos, aft, some (j, b)⟩ :: l) :: k) e L Q := by
  by_cases h : t = b
  · exact Exec.opOn (g := (j, b)) (by rw [hg, h]) (h1 h)
  · have : t = (!b) := by cases t <;> cases b <;> simp_all
    exact Exec.opOff (g := (j, b)) (by rw [hg, this]) (h2 this)

theorem advance1_sound {k' : List It} {e' : TEnv} (h : advance1 T N k e = some (k', e')) (H : Exec P M N k' e' L Q) : Exec P M N k e L Q := by
  unfold advance1 at h
  split at h
  · rename_i x k
    split at h
    · cases h; exact Run.seq (Run.mono H fun x e' L' q => by cases x <;> exact q)
    · cases h; exact Run.skip H
    · cases h; exact Run.block (Run.mono H fun x e' L' q => by cases x <;> exact q)
    · split at h
      · rename_i hp; cases h; exact Run.exit (post_pop hp H)
      · cases h
    · cases h; exact Run.region H
    · cases h
  · cases h; exact H
  · cases h; exact H
  · split at h
    · rename_i hv; cases h; exact Exec.op (opT.pure hv H)
    · cases h
  · cases h
  · cases h; exact H
  · split at h
    · rename_i ho
      split at h
      · rename_i hv
        cases h
        exact ⟨_, _, ho, fun L' => .inl ⟨by simp [wantedE, Region.wanted], fun F w s => ⟨w, pv_sound hv w, rfl, .refl w⟩⟩, H⟩
      · cases h
    · cases h
  · split at h
    · rename_i o ho
      cases h
      refine ⟨o, ho, ?_⟩
      have H' : stepL P M N _ o e L fun e' L' => RunD P M N _ _ e' L' _ := H
      unfold stepL at H' ⊢
      split
      · rename_i hw; rw [if_pos hw] at H'; exact H'.mono fun v L' q => ⟨.inr (fun x hx => by cases hx), q⟩
      · rename_i hw; rw [if_neg hw] at H'; exact ⟨.inr (fun x hx => by cases hx), H'⟩
    · cases h
  · cases h
  · cases h
  · cases h

theorem Exec.go (T : TT P) (n : Nat) {k' : List It} {e' : TEnv} (h : advance T N n k e = (k', e')) (H : Exec P M N k' e' L Q) : Exec P M N k e L Q := by
  induction n generalizing k e with
  | zero => cases h; exact H
  | succ n ih =>
    unfold advance at h
    split at h
    · rename_i hx; exact advance1_sound hx (ih h)
    · cases h; exact H

/-- As far as it reckons; one step at least. -/
theorem g1 (T : TT P) (n : Nat) {k1 k' : List It} {e1 e' : TEnv} (h0 : advance1 T N k e = some (k1, e1)) (h : advance T N n k1 e1 = (k', e')) (H : Exec P M N k' e' L Q) : Exec P M N k e L Q :=
  advance1_sound h0 (Exec.go T n h H)
/-- A Bool becomes a literal in its slot. -/
theorem Exec.bsplit (d : Nat) {t : Bool} (hd : ev N e (.tmp d) = .bool t) (h1 : t = true → Exec P M N k (upd e (some d) (.bool true)) L Q) (h2 : t = false → Exec P M N k (upd e (some d) (.bool false)) L Q) : Exec P M N k e L Q := by
  have hs : ∀ b, t = b → upd e (some d) (.bool b) = e := by
    intro b hb
    funext x
    simp only [upd]
    cases hx : Nat.beq x d with
    | false => rfl
    | true =>
      have := Nat.eq_of_beq_eq_true hx
      subst this; subst hb
      simp only [ev] at hd
      cases hn : Nat.ble (x + 1) N with
      | true => rw [hn] at hd; exact hd.symm
      | false => rw [hn] at hd; cases hd
  cases t with
  | true => have := h1 rfl; rw [hs true rfl] at this; exact this
  | false => have := h2 rfl; rw [hs false rfl] at this; exact this

theorem Exec.cond {c : Operand} {x y : Code} {b : Bool} (hc : ev N e c = .bool b) (h1 : b = true → Exec P M N (.c x :: k) e L Q) (h2 : b = false → Exec P M N (.c y :: k) e L Q) : Exec P M N (.c (.cond c x y) :: k) e L Q :=
  Run.cond hc h1 h2
theorem Exec.condT {c : Operand} {x y : Code} (hc : ev N e c = .bool true) (h : Exec P M N (.c x :: k) e L Q) : Exec P M N (.c (.cond c x y) :: k) e L Q :=
  Run.cond hc (fun _ => h) (fun h => by cases h)
theorem Exec.condF {c : Operand} {x y : Code} (hc : ev N e c = .bool false) (h : Exec P M N (.c y :: k) e L Q) : Exec P M N (.c (.cond c x y) :: k) e L Q :=
  Run.cond hc (fun h => by cases h) (fun _ => h)
theorem Exec.ret (h : post P M N k Q .ret e L) : Exec P M N (.c .ret :: k) e L Q := Run.ret h
theorem post_ret : ∀ {k : List It}, Q .ret e L → post P M N k Q .ret e L
  | [], h => h
  | .c _ :: k, h => post_ret (k := k) h
  | .ops _ _ :: k, h => post_ret (k := k) h
  | .dr _ _ :: k, h => post_ret (k := k) h
  | .chk _ _ _ :: k, h => post_ret (k := k) h
  | .blk _ :: k, h => post_ret (k := k) h
theorem Exec.done (h : Q .normal e L) : Exec P M N [] e L Q := h
theorem Exec.mono {Q' : Exit → TEnv → List HP → Prop} (hq : ∀ x e L, Q x e L → Q' x e L) : ∀ {k : List It} {x : Exit} {e : TEnv} {L : List HP}, post P M N k Q x e L → post P M N k Q' x e L
  | [], _, _, _, h => hq _ _ _ h
  | .c c :: k, x, e, L, h => by
    cases x with
    | normal => exact Run.mono h fun _ _ _ q => Exec.mono hq (k := k) q
    | _ => exact Exec.mono hq (k := k) h
  | .ops arr l :: k, x, e, L, h => by
    have key : ∀ (l : List Oper) e L, RunOps P M N arr l e L (post P M N k Q .normal) → RunOps P M N arr l e L (post P M N k Q' .normal) := by
      intro l
      induction l with
      | nil => exact fun e L h => Exec.mono hq (k := k) h
      | cons o l ih =>
        intro e L h
        simp only [RunOps, stepL] at h ⊢
        split
        · rename_i hw; rw [if_pos hw] at h; exact h.mono fun _ _ q => ih _ _ q
        · rename_i hw; rw [if_neg hw] at h; exact ih _ _ h
    cases x with
    | normal => exact key l e L h
    | _ => exact Exec.mono hq (k := k) h
  | .dr arr l :: k, x, e, L, h => by
    have key : ∀ (l : Tr) e L, RunD P M N arr l e L (post P M N k Q .normal) → RunD P M N arr l e L (post P M N k Q' .normal) := by
      intro l
      induction l with
      | nil => exact fun e L h => Exec.mono hq (k := k) h
      | cons s l ih =>
        intro e L h
        cases s with
        | rd i => obtain ⟨o, v, h1, h2, h3⟩ := h; exact ⟨o, v, h1, h2, ih _ _ h3⟩
        | pu i => obtain ⟨o, v, h1, h2, h3⟩ := h; exact ⟨o, v, h1, h2, ih _ _ h3⟩
        | ef i xs =>
          obtain ⟨o, h1, h2⟩ := h
          refine ⟨o, h1, ?_⟩
          unfold stepL at h2 ⊢
          split
          · rename_i hw; rw [if_pos hw] at h2; exact h2.mono fun _ _ q => ⟨q.1, ih _ _ q.2⟩
          · rename_i hw; rw [if_neg hw] at h2; exact ⟨h2.1, ih _ _ h2.2⟩
      | alt i xs r1 r2 ih1 ih2 =>
        intro e L h
        obtain ⟨⟨o, h1, h2⟩, h3⟩ := h
        refine ⟨⟨o, h1, ?_⟩, ih2 _ _ h3⟩
        unfold stepL at h2 ⊢
        split
        · rename_i hw; rw [if_pos hw] at h2; exact h2.mono fun _ _ q => ⟨q.1, ih1 _ _ q.2⟩
        · rename_i hw; rw [if_neg hw] at h2; exact ⟨h2.1, ih1 _ _ h2.2⟩
    cases x with
    | normal => exact key l e L h
    | _ => exact Exec.mono hq (k := k) h
  | .chk arr xs L0 :: k, x, e, L, h => by
    cases x with
    | normal => exact ⟨h.1, Exec.mono hq (k := k) h.2⟩
    | _ => exact Exec.mono hq (k := k) h
  | .blk id :: k, x, e, L, h => by
    cases x with
    | exit j =>
      simp only [post, inBlockE] at h ⊢
      split
      · rename_i hj; rw [if_pos hj] at h; exact Exec.mono hq (k := k) h
      · rename_i hj; rw [if_neg hj] at h; exact Exec.mono hq (k := k) h
    | _ => exact Exec.mono hq (k := k) h

theorem g2 {arr : Array Oper} {dst : Option Nat} {op : Op} {ty : TypeId} {pos : String} {aft : Array Edge} {l : List Oper} {g : Nat × Bool}
    (hg : gb arr N e g.1 = some g.2) (h : Exec P M N (.ops arr (⟨dst, op, ty, pos, aft, none⟩ :: l) :: k) e L Q) : Exec P M N (.ops arr (⟨dst, op, ty, pos, aft, some g⟩ :: l) :: k) e L Q := Exec.opOn hg h
theorem g3 {arr : Array Oper} {dst : Option Nat} {op : Op} {ty : TypeId} {pos : String} {aft : Array Edge} {l : List Oper} {g : Nat × Bool}
    (hg : gb arr N e g.1 = some (!g.2)) (h : Exec P M N (.ops arr l :: k) (upd e dst undef) L Q) : Exec P M N (.ops arr (⟨dst, op, ty, pos, aft, some g⟩ :: l) :: k) e L Q := Exec.opOff hg h
theorem g4 {c : Operand} {x y : Code} (hc : ev N e c = .bool true) (h : Exec P M N (.c x :: k) e L Q) : Exec P M N (.c (.cond c x y) :: k) e L Q := Exec.condT hc h
theorem g5 {c : Operand} {x y : Code} (hc : ev N e c = .bool false) (h : Exec P M N (.c y :: k) e L Q) : Exec P M N (.c (.cond c x y) :: k) e L Q := Exec.condF hc h

/-- A region that draws its order, walked in this one. -/
theorem gD {id : Nat} {arr : Array Oper} (hm : P.follows .mixedOrders = true) (l : Tr) (ok : (Nat.ble l.depth arr.size && okSt arr (ancOf arr) [] l) = true) (h : Exec P M N (.dr arr l :: k) e L Q) : Exec P M N (.c (.region id arr true) :: k) e L Q :=
  Run.regionD hm l ok h

/-- One that acts, in such a region, with reads that may come behind it. -/
theorem gE {arr : Array Oper} {i x : Nat} {xs : List Nat} {l : Tr} {o : Oper} (ho : arr[i]? = some o) (H : Exec P M N (.ops arr [o] :: .chk arr (x :: xs) L :: .dr arr l :: k) e L Q) : Exec P M N (.dr arr (.cons (.ef i (x :: xs)) l) :: k) e L Q :=
  ⟨o, ho, H⟩
/-- Several of which each may be the next one. -/
theorem gAlt {arr : Array Oper} {i : Nat} {xs : List Nat} {l l2 : Tr} {o : Oper} (ho : arr[i]? = some o) (H : Exec P M N (.ops arr [o] :: .chk arr xs L :: .dr arr l :: k) e L Q) (H2 : Exec P M N (.dr arr l2 :: k) e L Q) : Exec P M N (.dr arr (.alt i xs l l2) :: k) e L Q :=
  ⟨⟨o, ho, H⟩, H2⟩
theorem gC {arr : Array Oper} {xs : List Nat} {L0 : List HP} (h : Ent L L0) (H : Exec P M N k e L Q) : Exec P M N (.chk arr xs L0 :: k) e L Q := ⟨.inl h, H⟩
theorem gC2 {arr : Array Oper} {xs : List Nat} {L0 : List HP} (h : ∀ x, x ∈ xs → ∀ o, arr[x]? = some o → Still P M N arr o (dstV N e o) e L) (H : Exec P M N k e L Q) : Exec P M N (.chk arr xs L0 :: k) e L Q := ⟨.inr h, H⟩

/-- A pure operation in such a region, its guard decided. -/
def pvw {P : Program} (T : TT P) (arr : Array Oper) (N : Nat) (e : TEnv) (i : Nat) : Option (Option Nat × Value) :=
  match arr[i]? with
  | some ⟨dst, op, _, _, _, some (j, b)⟩ => match gb arr N e j with
    | some t => bif t == b then (match pv T op (ev N e) with | some v => some (dst, v) | none => none) else some (dst, undef)
    | none => none
  | _ => none
theorem g6 {arr : Array Oper} {i : Nat} {l : Tr} {d : Option Nat} {v : Value} (T : TT P) (h : pvw T arr N e i = some (d, v)) (H : Exec P M N (.dr arr l :: k) (upd e d v) L Q) : Exec P M N (.dr arr (.cons (.pu i) l) :: k) e L Q := by
  unfold pvw at h
  split at h
  · rename_i dst op ty pos aft j b ho
    split at h
    · rename_i t hg
      cases hb : (t == b) with
      | true =>
        rw [hb] at h
        simp only [cond_true] at h
        split at h
        · rename_i hv
          cases h
          have : t = b := by simpa using hb
          subst this
          exact ⟨_, _, ho, fun L' => .inl ⟨by simp [wantedE, Region.wanted, hg], fun F w s => ⟨w, pv_sound hv w, rfl, .refl w⟩⟩, H⟩
        · cases h
      | false =>
        rw [hb] at h
        cases h
        exact ⟨_, _, ho, fun L' => .inr ⟨by
          have : t ≠ b := by simpa using hb
          simp [wantedE, Region.wanted, hg, this], rfl⟩, H⟩
    · cases h
  · cases h
/-- A read in such a region, its guard off. -/
theorem g7 {arr : Array Oper} {i j : Nat} {b : Bool} {l : Tr} {dst : Option Nat} {op : Op} {ty : TypeId} {pos : String} {aft : Array Edge} (ho : arr[i]? = some ⟨dst, op, ty, pos, aft, some (j, b)⟩) (hg : gb arr N e j = some (!b)) (H : Exec P M N (.dr arr l :: k) (upd e dst undef) L Q) : Exec P M N (.dr arr (.cons (.rd i) l) :: k) e L Q :=
  ⟨_, _, ho, .inr ⟨by simp [wantedE, Region.wanted, hg], rfl⟩, H⟩

/-- A body begins. -/
theorem Spec.start {f : FuncId} {args : List Value} {pre : List HP} {K : Value → List HP → Prop} {fn : Func} {c : Code} (N : Nat)
    (hf : P.funcs[f]? = some fn) (hb : fn.body = some c) (hN : args.length + (fn.ntmps - args.length) = N)
    (h : Exec P M N [.c c] (e0 args) pre (retE P M N fn K)) : Spec P M f args pre K :=
  Spec.of_run hf hb hN (Run.mono h fun x e L q => by cases x <;> exact q)
end
end Go.Gv
