/- Regions that draw their order: one walk of a fit order serves every order. -/
import Derived.Test.YtnennjhbajpbfaaGreatDoorGvB
namespace Go.Gv
set_option linter.unusedVariables false
set_option linter.unusedSimpArgs false
set_option linter.unusedSectionVars false

/-- In the order of the walk: an operation that only reads (its value is one, as long as the list stays), one that looks at nothing but its operands, one that acts (and which reads are to be looked at again behind it). -/
inductive St where
  | rd (i : Nat)
  | pu (i : Nat)
  | ef (i : Nat) (xs : List Nat)
def St.ix : St → Nat
  | .rd i | .pu i | .ef i _ => i

/-- An order; where several that act do not wait for each other, each of them may be the next one (all the first ones of such a chain are its heads). -/
inductive Tr where
  | nil
  | cons (s : St) (r : Tr)
  | alt (i : Nat) (xs : List Nat) (r1 r2 : Tr)
def Tr.depth : Tr → Nat
  | .nil => 0
  | .cons _ r => r.depth + 1
  | .alt _ _ r1 r2 => max (r1.depth + 1) r2.depth
def Tr.heads : Tr → List Nat
  | .cons (.ef i _) _ => [i]
  | .alt i _ _ r2 => i :: r2.heads
  | _ => []
def Tr.brs : Tr → List (Nat × List Nat × Tr)
  | .cons (.ef i xs) r => [(i, xs, r)]
  | .alt i xs r1 r2 => (i, xs, r1) :: r2.brs
  | _ => []

def Still (P : Program) (M : Heap) (N : Nat) (ops : Array Oper) (o : Oper) (v : Value) (e : TEnv) (L : List HP) : Prop :=
  (wantedE ops N e o = true ∧ ∀ F w, Sat M (L ++ F) w → ∃ w', (execOp (ev N e) o).run P w = .ok (.value v) w' ∧ w'.heap = w.heap ∧ Env w w') ∨ (wantedE ops N e o = false ∧ v = undef)

def dstV (N : Nat) (e : TEnv) (o : Oper) : Value := match o.dst with
  | some d => e d
  | none => undef

/-- The walk. -/
def RunD (P : Program) (M : Heap) (N : Nat) (ops : Array Oper) : Tr → TEnv → List HP → (TEnv → List HP → Prop) → Prop
  | .nil, e, L, K => K e L
  | .cons (.rd i) r, e, L, K => ∃ o v, ops[i]? = some o ∧ Still P M N ops o v e L ∧ RunD P M N ops r (upd e o.dst v) L K
  | .cons (.pu i) r, e, L, K => ∃ o v, ops[i]? = some o ∧ (∀ L', Still P M N ops o v e L') ∧ RunD P M N ops r (upd e o.dst v) L K
  | .cons (.ef i xs) r, e, L, K => ∃ o, ops[i]? = some o ∧ stepL P M N ops o e L fun e' L' => (Ent L' L ∨ ∀ x, x ∈ xs → ∀ ox, ops[x]? = some ox → Still P M N ops ox (dstV N e' ox) e' L') ∧ RunD P M N ops r e' L' K
  | .alt i xs r1 r2, e, L, K => (∃ o, ops[i]? = some o ∧ stepL P M N ops o e L fun e' L' => (Ent L' L ∨ ∀ x, x ∈ xs → ∀ ox, ops[x]? = some ox → Still P M N ops ox (dstV N e' ox) e' L') ∧ RunD P M N ops r1 e' L' K) ∧ RunD P M N ops r2 e L K

/-- Whatever order is picked from here on. -/
def anyL (P : Program) (M : Heap) (N : Nat) (ops : Array Oper) (K : TEnv → List HP → Prop) : Nat → Array Bool → TEnv → List HP → Prop
  | 0, listed, e, L => Region.ready .any ops listed = [] ∧ K e L
  | n + 1, listed, e, L => (Region.ready .any ops listed = [] → K e L) ∧ ∀ i ∈ Region.ready .any ops listed, ∃ o, ops[i]? = some o ∧ stepL P M N ops o e L fun e' L' => anyL P M N ops K n (listed.setIfInBounds i true) e' L'

section
variable {P : Program} {M : Heap} {N : Nat} {ops : Array Oper} {K : TEnv → List HP → Prop}

theorem anyL_sound {F : List HP} {w0 : World} {Q : Exit → TEnv → List HP → Prop} : ∀ (n : Nat) (listed : Array Bool) (e : TEnv) (L : List HP) (w : World), anyL P M N ops (Q .normal) n listed e L → Sat M (L ++ F) w → Env w0 w →
    wpAny P .any ops (fun x a' w' => ∃ e' L', a' = actOf N e' ∧ Env w0 w' ∧ Sat M (L' ++ F) w' ∧ Q x e' L') n listed (actOf N e) w
  | 0, listed, e, L, w, h, s, v => ⟨h.1, e, L, rfl, v, s, h.2⟩
  | n + 1, listed, e, L, w, h, s, v => by
    refine ⟨fun hr => ⟨e, L, rfl, v, s, h.1 hr⟩, fun i hi => ?_⟩
    obtain ⟨o, ho, hs⟩ := h.2 i hi
    exact stepL.wpOp ho hs s fun e' L' w' ve se he => anyL_sound n _ e' L' w' he se (v.trans ve)

/-! ### What is asked of an order, by reckoning -/
def predsB (o : Oper) : List Nat := (o.after.toList.filter (Region.binds .any)).map (·.on)
/-- For each operation those that it waits for, also through others (in the order of their numbers; an edge to a later one is not counted). -/
def ancs (l : List Oper) (acc : List (List Nat)) : List (List Nat) := match l with
  | [] => acc
  | o :: r => ancs r (acc ++ [((predsB o) ++ (predsB o).flatMap (fun j => acc.getD j [])).eraseDups])
def ancOf (ops : Array Oper) : List (List Nat) := ancs ops.toList []

/-- i waits for j. -/
inductive Waits (ops : Array Oper) : Nat → Nat → Prop where
  | one {i j : Nat} {o : Oper} : ops[i]? = some o → j ∈ predsB o → Waits ops i j
  | more {i j m : Nat} {o : Oper} : ops[i]? = some o → m ∈ predsB o → Waits ops m j → Waits ops i j

theorem ancs_spec : ∀ (l : List Oper) (acc : List (List Nat)), (∀ i, i < acc.length → ∀ j, j ∈ acc.getD i [] → Waits ops i j) →
    (∀ i, l[i]? = ops[acc.length + i]?) → ∀ i j, j ∈ (ancs l acc).getD i [] → Waits ops i j := by
  intro l
  induction l with
  | nil =>
    intro acc h _ i j hj
    by_cases hi : i < acc.length
    · exact h i hi j hj
    · simp [ancs, List.getD_eq_getElem?_getD, List.getElem?_eq_none (Nat.le_of_not_lt hi)] at hj
  | cons o r ih =>
    intro acc h hl i j hj
    simp only [ancs] at hj
    refine ih _ ?_ ?_ i j hj
    · intro i hi j hj
      by_cases hlt : i < acc.length
      · refine h i hlt j ?_
        rw [List.getD_eq_getElem?_getD, List.getElem?_append_left hlt, ← List.getD_eq_getElem?_getD] at hj
        exact hj
      · have hi' : i = acc.length := by simp at hi; omega
        subst hi'
        have ho : ops[acc.length]? = some o := by simpa using (hl 0).symm
        rw [List.getD_eq_getElem?_getD, List.getElem?_append_right (Nat.le_refl _)] at hj
        simp only [Nat.sub_self, List.getElem?_cons_zero, Option.getD_some, List.mem_eraseDups, List.mem_append, List.mem_flatMap] at hj
        rcases hj with hj | ⟨m, hm, hj⟩
        · exact .one ho hj
        · by_cases hml : m < acc.length
          · exact .more ho hm (h m hml j hj)
          · simp [List.getD_eq_getElem?_getD, List.getElem?_eq_none (Nat.le_of_not_lt hml)] at hj
    · intro i
      have := hl (i + 1)
      simpa [Nat.add_assoc, Nat.add_comm 1 i] using this

theorem ancOf_spec {i j : Nat} (h : j ∈ (ancOf ops).getD i []) : Waits ops i j :=
  ancs_spec ops.toList [] (fun i hi => by simp at hi) (fun i => by simp) i j h

def noSel (o : Oper) : Bool := match o.op with
  | .select .. => false
  | _ => true
theorem noSel_spec {o : Oper} (h : noSel o = true) (cs : Array SelectCase) (b : Bool) : o.op ≠ .select cs b := fun e => by simp [noSel, e] at h

/-- t stands ahead of s: s waits for t where it looks at what t leaves; and s does not write what t looks at or writes, where s is not one that acts. -/
def pairB (ops : Array Oper) (anc : List (List Nat)) (s t : St) : Bool :=
  match ops[s.ix]?, ops[t.ix]? with
  | some os, some ot =>
    (match ot.dst with
     | some d => !(os.looksAt ops).contains d || (anc.getD s.ix []).contains t.ix
     | none => true) &&
    (match os.dst with
     | some d => (!(ot.looksAt ops).contains d && ot.dst != some d) || (match s with | .ef .. => (anc.getD s.ix []).contains t.ix | _ => false)
     | none => true)
  | _, _ => false

def okIt (ops : Array Oper) (anc : List (List Nat)) (seen : List St) (s : St) : Bool :=
  (match ops[s.ix]? with
    | some o => noSel o && !seen.any (·.ix == s.ix) && (predsB o).all (fun j => seen.any (·.ix == j)) && seen.all (pairB ops anc s) &&
      (match o.dst with | some d => !(o.looksAt ops).contains d || (match s with | .ef .. => true | _ => false) | none => true)
    | none => false) &&
    (match s with
     | .ef i xs => seen.all (fun t => (anc.getD i []).contains t.ix || (match t with | .pu _ => true | .rd j => xs.contains j | .ef .. => true))
     | _ => true)
/-- Each that is left is a head, or waits for one. -/
def okHd (ops : Array Oper) (anc : List (List Nat)) (seen : List St) (H : List Nat) : Bool :=
  (List.range ops.size).all fun u => seen.any (·.ix == u) || H.contains u || H.any fun j => (anc.getD u []).contains j
def okT (ops : Array Oper) (anc : List (List Nat)) : Bool → List St → Tr → Bool
  | _, seen, .nil => (List.range ops.size).all fun i => seen.any (·.ix == i)
  | top, seen, .cons s r => okIt ops anc seen s && (match s with | .ef i _ => !top || okHd ops anc seen [i] | _ => top) && okT ops anc true (s :: seen) r
  | top, seen, .alt i xs r1 r2 => okIt ops anc seen (.ef i xs) && (!top || okHd ops anc seen (i :: r2.heads)) && okT ops anc true (.ef i xs :: seen) r1 && okT ops anc false seen r2
def okSt (ops : Array Oper) (anc : List (List Nat)) (seen : List St) (T : Tr) : Bool := okT ops anc true seen T

theorem ev_congr {e e' : TEnv} {x : Operand} (h : ∀ t, x = .tmp t → e t = e' t) : ev N e x = ev N e' x := by
  cases x with
  | tmp t => simp only [ev, h t rfl]
  | _ => rfl
theorem looks_operand {o : Oper} {x : Operand} {t : Nat} (hx : x ∈ o.op.operands) (ht : x = .tmp t) : t ∈ o.looksAt ops := by
  subst ht
  unfold Oper.looksAt
  refine List.mem_append.2 (.inl (List.mem_filterMap.2 ⟨.tmp t, by simpa using hx, rfl⟩))
theorem execOp_agree {o : Oper} (hs : noSel o = true) {e e' : TEnv} (h : ∀ t, t ∈ o.looksAt ops → e t = e' t) : execOp (ev N e) o = execOp (ev N e') o :=
  execOp_congr o (noSel_spec hs) fun x hx => ev_congr fun t ht => h t (looks_operand hx ht)
theorem wantedE_agree {o : Oper} {e e' : TEnv} (h : ∀ t, t ∈ o.looksAt ops → e t = e' t) : wantedE ops N e o = wantedE ops N e' o := by
  unfold wantedE Region.wanted
  cases hg : o.guard with
  | none => rfl
  | some g =>
    obtain ⟨j, b⟩ := g
    simp only [gb]
    cases hd : (ops[j]?).bind (·.dst) with
    | none => rfl
    | some d =>
      have : d ∈ o.looksAt ops := by
        unfold Oper.looksAt
        refine List.mem_append.2 (.inr ?_)
        simp [hg, hd]
      have h1 : ev N e (.tmp d) = ev N e' (.tmp d) := ev_congr fun t ht => by cases ht; exact h d this
      simp only [h1]
theorem Still.agree {o : Oper} {v : Value} {e e' : TEnv} {L : List HP} (hs : noSel o = true) (h : ∀ t, t ∈ o.looksAt ops → e t = e' t) (s : Still P M N ops o v e L) : Still P M N ops o v e' L := by
  unfold Still at *
  rw [← execOp_agree (ops := ops) hs h, ← wantedE_agree h]
  exact s
theorem Still.ent {o : Oper} {v : Value} {e : TEnv} {L L' : List HP} (s : Still P M N ops o v e L) (h : Ent L' L) : Still P M N ops o v e L' := by
  rcases s with ⟨hw, hv⟩ | h2
  · exact .inl ⟨hw, fun F w x => hv F w (x.ent h.app)⟩
  · exact .inr h2
theorem Still.step {o : Oper} {v : Value} {e : TEnv} {L : List HP} {K : TEnv → List HP → Prop} (s : Still P M N ops o v e L) (h : K (upd e o.dst v) L) : stepL P M N ops o e L K := by
  unfold stepL
  rcases s with ⟨hw, hv⟩ | ⟨hw, rfl⟩
  · rw [if_pos hw]
    intro F w x
    obtain ⟨w', r, hh, ve⟩ := hv F w x
    rw [r]
    exact ⟨ve, L, x.same hh, h⟩
  · rw [if_neg (by rw [hw]; simp)]; exact h
theorem upd_ne {e : TEnv} {d : Option Nat} {v : Value} {t : Nat} (h : d ≠ some t) : upd e d v t = e t := by
  cases d with
  | none => rfl
  | some d =>
    simp only [upd]
    cases hb : Nat.beq t d with
    | false => rfl
    | true => exact absurd (by rw [Nat.eq_of_beq_eq_true hb]) h
theorem upd_eq {e : TEnv} {d : Nat} {v : Value} : upd e (some d) v d = v := by simp [upd]

def pendOk (P : Program) (M : Heap) (N : Nat) (ops : Array Oper) (s : St) (ec : TEnv) (L : List HP) : Prop :=
  ∃ o v, ops[s.ix]? = some o ∧ noSel o = true ∧ (∀ d, o.dst = some d → d ∉ o.looksAt ops ∧ ec d = v) ∧ match s with
    | .rd _ => Still P M N ops o v ec L
    | .pu _ => ∀ L', Still P M N ops o v ec L'
    | .ef _ _ => False

def chained (ops : Array Oper) : List St → Prop
  | [] => True
  | s :: r => (∃ o, ops[s.ix]? = some o ∧ ∀ j, j ∈ predsB o → ∃ t, t ∈ r ∧ t.ix = j) ∧ chained ops r

/-- Where the walk is (seen, ec) and where a run is (listed, ea): D is what the walk has done and the run has not. -/
structure At (P : Program) (M : Heap) (N : Nat) (ops : Array Oper) (seen D : List St) (listed : Array Bool) (ea ec : TEnv) (L : List HP) : Prop where
  sz : listed.size = ops.size
  sub : ∀ i, listed.getD i false = true → ∃ s, s ∈ seen ∧ s.ix = i
  clo : ∀ i o, listed.getD i false = true → ops[i]? = some o → ∀ j, j ∈ predsB o → listed.getD j false = true
  cov : ∀ s, s ∈ seen → listed.getD s.ix false = true ∨ s ∈ D
  inD : ∀ s, s ∈ D → s ∈ seen ∧ listed.getD s.ix false = false
  pend : ∀ s, s ∈ D → pendOk P M N ops s ec L
  env : ∀ t, (∀ s, s ∈ D → ∀ o, ops[s.ix]? = some o → o.dst ≠ some t) → ea t = ec t
  pair : seen.Pairwise fun s t => pairB ops (ancOf ops) s t = true
  chn : chained ops seen

theorem waits_listed {seen D : List St} {listed : Array Bool} {ea ec : TEnv} {L : List HP} (a : At P M N ops seen D listed ea ec L) {i j : Nat} (h : Waits ops i j) :
    (∀ o, ops[i]? = some o → ∀ m, m ∈ predsB o → listed.getD m false = true) → listed.getD j false = true := by
  induction h with
  | one ho hj => exact fun hp => hp _ ho _ hj
  | more ho hm _ ih => exact fun hp => ih fun o ho' m hm' => a.clo _ o (hp _ ho _ hm) ho' m hm'

theorem ready_spec {listed : Array Bool} {i : Nat} (h : i ∈ Region.ready .any ops listed) : i < ops.size ∧ listed.getD i true = false ∧ ∀ o, ops[i]? = some o → ∀ m, m ∈ predsB o → listed.getD m false = true := by
  unfold Region.ready at h
  obtain ⟨h1, h2⟩ := List.mem_filter.1 h
  simp only [Bool.and_eq_true] at h2
  refine ⟨by simpa using h1, by simpa using h2.1, fun o ho m hm => ?_⟩
  have h3 := h2.2
  rw [ho] at h3
  simp only [Option.map_some, Option.getD_some, Array.all_eq_true'] at h3
  unfold predsB at hm
  obtain ⟨ed, he, rfl⟩ := List.mem_map.1 hm
  obtain ⟨he1, he2⟩ := List.mem_filter.1 he
  have := h3 ed (by simpa using he1)
  simpa [he2] using this

theorem okSt_nil {seen : List St} (h : okSt ops (ancOf ops) seen .nil = true) : ∀ i, i < ops.size → ∃ s, s ∈ seen ∧ s.ix = i := fun i hi => by
  simp only [okSt, okT, List.all_eq_true] at h
  have := h i (by simpa using hi)
  obtain ⟨s, hs, e⟩ := List.any_eq_true.1 this
  exact ⟨s, hs, by simpa using e⟩

/-- What the reckoning says of one. -/
def ItOk (ops : Array Oper) (seen : List St) (s : St) : Prop := ∃ o, ops[s.ix]? = some o ∧ noSel o = true ∧ (∀ t, t ∈ seen → t.ix ≠ s.ix) ∧ (∀ j, j ∈ predsB o → ∃ t, t ∈ seen ∧ t.ix = j) ∧
    (∀ t, t ∈ seen → pairB ops (ancOf ops) s t = true) ∧ (∀ d, o.dst = some d → (∀ i xs, s ≠ .ef i xs) → d ∉ o.looksAt ops) ∧
    (∀ i xs, s = .ef i xs → ∀ t, t ∈ seen → t.ix ∈ (ancOf ops).getD i [] ∨ (∃ j, t = .pu j) ∨ (∃ j ys, t = .ef j ys) ∨ ∃ j, t = .rd j ∧ j ∈ xs)
theorem okIt_spec {s : St} {seen : List St} (h : okIt ops (ancOf ops) seen s = true) : ItOk ops seen s := by
  simp only [okIt, Bool.and_eq_true] at h
  obtain ⟨h1, h2⟩ := h
  unfold ItOk
  cases ho : ops[s.ix]? with
  | none => rw [ho] at h1; cases h1
  | some o =>
    rw [ho] at h1
    simp only [Bool.and_eq_true] at h1
    obtain ⟨⟨⟨⟨a1, a2⟩, a3⟩, a4⟩, a5⟩ := h1
    refine ⟨o, rfl, a1, ?_, ?_, ?_, ?_, ?_⟩
    · intro t ht e
      have : seen.any (·.ix == s.ix) = true := List.any_eq_true.2 ⟨t, ht, by simp [e]⟩
      rw [this] at a2; cases a2
    · intro j hj
      obtain ⟨t, ht, e⟩ := List.any_eq_true.1 (List.all_eq_true.1 a3 j hj)
      exact ⟨t, ht, by simpa using e⟩
    · exact fun t ht => List.all_eq_true.1 a4 t ht
    · intro d hd hne
      rw [hd] at a5
      cases s with
      | ef i xs => exact absurd rfl (hne i xs)
      | rd j => simpa using a5
      | pu j => simpa using a5
    · intro i xs e
      subst e
      intro t ht
      have := List.all_eq_true.1 h2 t ht
      rw [Bool.or_eq_true] at this
      rcases this with h | h
      · exact .inl (by simpa using h)
      · cases t with
        | pu j => exact .inr (.inl ⟨j, rfl⟩)
        | rd j => exact .inr (.inr (.inr ⟨j, rfl, by simpa using h⟩))
        | ef j ys => exact .inr (.inr (.inl ⟨j, ys, rfl⟩))
theorem okSt_cons {s : St} {r : Tr} {seen : List St} (h : okSt ops (ancOf ops) seen (.cons s r) = true) : ItOk ops seen s ∧ okSt ops (ancOf ops) (s :: seen) r = true := by
  simp only [okSt, okT, Bool.and_eq_true] at h
  exact ⟨okIt_spec h.1.1, h.2⟩
theorem okT_br {i : Nat} {xs : List Nat} {r : Tr} {seen : List St} : ∀ {T : Tr} {top : Bool}, okT ops (ancOf ops) top seen T = true → (i, xs, r) ∈ T.brs → ItOk ops seen (.ef i xs) ∧ okSt ops (ancOf ops) (.ef i xs :: seen) r = true
  | .nil, _, _, hb => by cases hb
  | .cons s r', top, h, hb => by
    cases s with
    | ef j ys =>
      simp only [Tr.brs, List.mem_singleton] at hb
      cases hb
      simp only [okT, Bool.and_eq_true] at h
      exact ⟨okIt_spec h.1.1, h.2⟩
    | rd j => cases hb
    | pu j => cases hb
  | .alt j ys r1 r2, top, h, hb => by
    simp only [okT, Bool.and_eq_true] at h
    rcases List.mem_cons.1 hb with hb | hb
    · cases hb; exact ⟨okIt_spec h.1.1.1, h.1.2⟩
    · exact okT_br h.2 hb
theorem heads_brs {j : Nat} : ∀ {T : Tr}, j ∈ T.heads → ∃ xs r, (j, xs, r) ∈ T.brs
  | .nil, h => by cases h
  | .cons s r', h => by
    cases s with
    | ef i xs => simp only [Tr.heads, List.mem_singleton] at h; subst h; exact ⟨xs, r', List.mem_cons_self⟩
    | rd i => cases h
    | pu i => cases h
  | .alt i xs r1 r2, h => by
    rcases List.mem_cons.1 h with rfl | h
    · exact ⟨xs, r1, List.mem_cons_self⟩
    · obtain ⟨ys, r, h⟩ := heads_brs h; exact ⟨ys, r, List.mem_cons_of_mem _ h⟩
theorem depth_br {i : Nat} {xs : List Nat} {r : Tr} : ∀ {T : Tr}, (i, xs, r) ∈ T.brs → r.depth + 1 ≤ T.depth
  | .nil, h => by cases h
  | .cons s r', h => by
    cases s with
    | ef j ys => simp only [Tr.brs, List.mem_singleton] at h; cases h; exact Nat.le_refl _
    | rd j => cases h
    | pu j => cases h
  | .alt j ys r1 r2, h => by
    rcases List.mem_cons.1 h with h | h
    · cases h; exact Nat.le_max_left _ _
    · exact Nat.le_trans (depth_br h) (Nat.le_max_right _ _)
theorem run_br {i : Nat} {xs : List Nat} {r : Tr} {e : TEnv} {L : List HP} : ∀ {T : Tr}, RunD P M N ops T e L K → (i, xs, r) ∈ T.brs → ∃ o, ops[i]? = some o ∧ stepL P M N ops o e L fun e' L' => (Ent L' L ∨ ∀ x, x ∈ xs → ∀ ox, ops[x]? = some ox → Still P M N ops ox (dstV N e' ox) e' L') ∧ RunD P M N ops r e' L' K
  | .nil, _, h => by cases h
  | .cons s r', h, hb => by
    cases s with
    | ef j ys => simp only [Tr.brs, List.mem_singleton] at hb; cases hb; exact h
    | rd j => cases hb
    | pu j => cases hb
  | .alt j ys r1 r2, h, hb => by
    rcases List.mem_cons.1 hb with hb | hb
    · cases hb; exact h.1
    · exact run_br h.2 hb
/-- One that acts is the next one: the heads. -/
def isHd : Tr → Bool
  | .cons (.ef ..) _ => true
  | .alt .. => true
  | _ => false
theorem okHd_of {T : Tr} {seen : List St} (h : okSt ops (ancOf ops) seen T = true) (ht : isHd T = true) : okHd ops (ancOf ops) seen T.heads = true := by
  cases T with
  | nil => cases ht
  | cons s r =>
    cases s with
    | ef i xs => simp only [okSt, okT, Bool.and_eq_true, Bool.not_true, Bool.false_or] at h; exact h.1.2
    | rd i => cases ht
    | pu i => cases ht
  | alt i xs r1 r2 => simp only [okSt, okT, Bool.and_eq_true, Bool.not_true, Bool.false_or] at h; exact h.1.1.2

theorem pairB_spec {s t : St} {os ot : Oper} (h : pairB ops (ancOf ops) s t = true) (hs : ops[s.ix]? = some os) (ht : ops[t.ix]? = some ot) :
    (∀ d, ot.dst = some d → d ∈ os.looksAt ops → t.ix ∈ (ancOf ops).getD s.ix []) ∧
    (∀ d, os.dst = some d → (d ∉ ot.looksAt ops ∧ ot.dst ≠ some d) ∨ ((∃ i xs, s = .ef i xs) ∧ t.ix ∈ (ancOf ops).getD s.ix [])) := by
  unfold pairB at h
  rw [hs, ht] at h
  simp only [Bool.and_eq_true] at h
  constructor
  · intro d hd hm
    have h1 := h.1
    rw [hd] at h1
    simp only [Bool.or_eq_true] at h1
    rcases h1 with h1 | h1
    · exact absurd hm (by simpa using h1)
    · simpa using h1
  · intro d hd
    have h2 := h.2
    rw [hd] at h2
    simp only [Bool.or_eq_true, Bool.and_eq_true] at h2
    rcases h2 with ⟨h2, h3⟩ | h2
    · exact .inl ⟨by simpa using h2, by simpa using h3⟩
    · right
      cases s with
      | ef i xs => exact ⟨⟨i, xs, rfl⟩, by simpa using h2⟩
      | rd j => cases h2
      | pu j => cases h2

/-- The walk does one that reads: it is pending. -/
theorem At.read {seen D : List St} {r : Tr} {s : St} {listed : Array Bool} {ea ec : TEnv} {L : List HP} (a : At P M N ops seen D listed ea ec L) (ok : okSt ops (ancOf ops) seen (.cons s r) = true) (hne : ∀ i xs, s ≠ .ef i xs)
    (h : RunD P M N ops (.cons s r) ec L K) : ∃ ec', At P M N ops (s :: seen) (s :: D) listed ea ec' L ∧ RunD P M N ops r ec' L K := by
  obtain ⟨⟨o, ho, hsel, hnew, hpre, hpair, hself, _⟩, ok'⟩ := okSt_cons ok
  have hun : listed.getD s.ix false = false := by
    cases hl : listed.getD s.ix false with
    | false => rfl
    | true => obtain ⟨t, ht, e⟩ := a.sub _ hl; exact absurd e (hnew t ht)
  obtain ⟨v, hv, hr⟩ : ∃ v, (match s with | .rd _ => Still P M N ops o v ec L | .pu _ => ∀ L', Still P M N ops o v ec L' | .ef _ _ => False) ∧ RunD P M N ops r (upd ec o.dst v) L K := by
    cases s with
    | rd j => obtain ⟨o', v, ho', hv, hr⟩ := h; have : o' = o := by rw [show (St.rd j).ix = j from rfl, ho'] at ho; exact Option.some.inj ho
              subst this; exact ⟨v, hv, hr⟩
    | pu j => obtain ⟨o', v, ho', hv, hr⟩ := h; have : o' = o := by rw [show (St.pu j).ix = j from rfl, ho'] at ho; exact Option.some.inj ho
              subst this; exact ⟨v, hv, hr⟩
    | ef j xs => exact absurd rfl (hne j xs)
  refine ⟨upd ec o.dst v, ⟨a.sz, fun i hi => let ⟨t, ht, e⟩ := a.sub i hi; ⟨t, List.mem_cons_of_mem _ ht, e⟩, a.clo, ?_, ?_, ?_, ?_, ?_, ⟨o, ho, hpre⟩, a.chn⟩, hr⟩
  · intro t ht
    rcases List.mem_cons.1 ht with rfl | ht
    · exact .inr List.mem_cons_self
    · rcases a.cov t ht with h | h
      · exact .inl h
      · exact .inr (List.mem_cons_of_mem _ h)
  · intro t ht
    rcases List.mem_cons.1 ht with rfl | ht
    · exact ⟨List.mem_cons_self, hun⟩
    · exact ⟨List.mem_cons_of_mem _ (a.inD t ht).1, (a.inD t ht).2⟩
  · intro t ht
    rcases List.mem_cons.1 ht with rfl | ht
    · refine ⟨o, v, ho, hsel, fun d hd => ⟨hself d hd hne, by rw [hd]; exact upd_eq⟩, ?_⟩
      have hag : ∀ u, u ∈ o.looksAt ops → ec u = upd ec o.dst v u := fun u hu => by
        rw [upd_ne]; intro e; exact hself u e hne hu
      cases t with
      | rd j => exact hv.agree hsel hag
      | pu j => exact fun L' => (hv L').agree hsel hag
      | ef j xs => exact hv
    · obtain ⟨o', v', ho', hsel', hd', hk⟩ := a.pend t ht
      have hp := pairB_spec (hpair t (a.inD t ht).1) ho ho'
      have apart : ∀ d, o.dst = some d → d ∉ o'.looksAt ops ∧ o'.dst ≠ some d := fun d hd => by
        rcases hp.2 d hd with h | ⟨⟨i, xs, e⟩, _⟩
        · exact h
        · exact absurd e (hne i xs)
      have hag : ∀ u, u ∈ o'.looksAt ops → ec u = upd ec o.dst v u := fun u hu => by
        rw [upd_ne]; intro e; exact (apart u e).1 hu
      refine ⟨o', v', ho', hsel', fun d hd => ⟨(hd' d hd).1, ?_⟩, ?_⟩
      · rw [upd_ne]
        · exact (hd' d hd).2
        · intro e; exact (apart d e).2 hd
      · cases t with
        | rd j => exact hk.agree hsel' hag
        | pu j => exact fun L' => (hk L').agree hsel' hag
        | ef j xs => exact hk
  · intro t ht
    rw [upd_ne (ht s List.mem_cons_self o ho)]
    exact a.env t fun u hu => ht u (List.mem_cons_of_mem _ hu)
  · exact List.pairwise_cons.2 ⟨hpair, a.pair⟩

theorem At.head {seen D : List St} {listed : Array Bool} {ea ec : TEnv} {L : List HP} {i : Nat} {T : Tr} (a : At P M N ops seen D listed ea ec L) (hi : i ∈ Region.ready .any ops listed) (hD : ¬ ∃ s, s ∈ D ∧ s.ix = i) (ok : okSt ops (ancOf ops) seen T = true) (ht : isHd T = true) : ∃ xs r, (i, xs, r) ∈ T.brs := by
  obtain ⟨hlt, hun, hpr⟩ := ready_spec hi
  have hh := List.all_eq_true.1 (okHd_of ok ht) i (by simpa using hlt)
  simp only [Bool.or_eq_true] at hh
  rcases hh with (hh | hh) | hh
  · exfalso
    obtain ⟨t, ht, e⟩ := List.any_eq_true.1 hh
    have e : t.ix = i := by simpa using e
    rcases a.cov t ht with h' | h'
    · rw [e] at h'
      have : i < listed.size := by rw [a.sz]; exact hlt
      simp [this] at h' hun
      rw [hun] at h'; cases h'
    · exact hD ⟨t, h', e⟩
  · exact heads_brs (by simpa using hh)
  · exfalso
    obtain ⟨j, hj, e⟩ := List.any_eq_true.1 hh
    have e : j ∈ (ancOf ops).getD i [] := by simpa using e
    have hl := waits_listed a (ancOf_spec e) fun o' ho' m hm => hpr o' ho' m hm
    obtain ⟨u, hu, e'⟩ := a.sub j hl
    obtain ⟨xs, r, hb⟩ := heads_brs hj
    obtain ⟨⟨o, ho, _, hnew, _⟩, _⟩ := okT_br ok hb
    exact hnew u hu e'

/-- The walk goes on, over reads alone, to the one that the run takes. -/
theorem At.peel {listed : Array Bool} {ea : TEnv} {L : List HP} {i : Nat} (hi : i ∈ Region.ready .any ops listed) : ∀ {items : Tr} {seen D : List St} {ec : TEnv}, At P M N ops seen D listed ea ec L → okSt ops (ancOf ops) seen items = true → RunD P M N ops items ec L K →
    ∃ items' seen' D' ec', At P M N ops seen' D' listed ea ec' L ∧ okSt ops (ancOf ops) seen' items' = true ∧ RunD P M N ops items' ec' L K ∧ D'.length + items'.depth = D.length + items.depth ∧
      ((∃ s, s ∈ D' ∧ s.ix = i) ∨ ∃ xs r, (i, xs, r) ∈ items'.brs)
  | .nil, seen, D, ec, a, ok, h => by
    obtain ⟨hlt, hun, _⟩ := ready_spec hi
    obtain ⟨s, hs, e⟩ := okSt_nil ok i hlt
    rcases a.cov s hs with h' | h'
    · rw [e] at h'
      have : i < listed.size := by rw [a.sz]; exact hlt
      simp [this] at h' hun
      rw [hun] at h'; cases h'
    · exact ⟨.nil, seen, D, ec, a, ok, h, rfl, .inl ⟨s, h', e⟩⟩
  | .alt j ys r1 r2, seen, D, ec, a, ok, h => by
    by_cases hD : ∃ s, s ∈ D ∧ s.ix = i
    · exact ⟨_, seen, D, ec, a, ok, h, rfl, .inl hD⟩
    · exact ⟨_, seen, D, ec, a, ok, h, rfl, .inr (a.head hi hD ok rfl)⟩
  | .cons s r, seen, D, ec, a, ok, h => by
    by_cases hD : ∃ s, s ∈ D ∧ s.ix = i
    · exact ⟨.cons s r, seen, D, ec, a, ok, h, rfl, .inl hD⟩
    by_cases hef : ∃ j xs, s = .ef j xs
    · obtain ⟨j, xs, rfl⟩ := hef
      exact ⟨_, seen, D, ec, a, ok, h, rfl, .inr (a.head hi hD ok rfl)⟩
    · have hne : ∀ j xs, s ≠ .ef j xs := fun j xs e => hef ⟨j, xs, e⟩
      obtain ⟨ec', a', h'⟩ := a.read ok hne h
      obtain ⟨_, ok'⟩ := okSt_cons ok
      obtain ⟨items', seen', D', ec2, x1, x2, x3, x4, x5⟩ := At.peel hi a' ok' h'
      exact ⟨items', seen', D', ec2, x1, x2, x3, by rw [x4]; simp only [List.length_cons, Tr.depth]; omega, x5⟩

theorem getD_flip {listed : Array Bool} {i : Nat} (hi : i < listed.size) : listed.getD i true = listed.getD i false := by simp [hi]
theorem mem_ready' {listed : Array Bool} {i : Nat} {o : Oper} (hi : i < ops.size) (hs : listed.size = ops.size) (ho : ops[i]? = some o) (hu : listed.getD i false = false) (hp : ∀ j, j ∈ predsB o → listed.getD j false = true) : i ∈ Region.ready .any ops listed := by
  unfold Region.ready
  refine List.mem_filter.2 ⟨by simpa using hi, ?_⟩
  simp only [Bool.and_eq_true]
  refine ⟨by rw [getD_flip (by omega), hu]; rfl, ?_⟩
  rw [ho]
  simp only [Option.map_some, Option.getD_some, Array.all_eq_true']
  intro ed he
  cases hb : Region.binds .any ed with
  | false => rfl
  | true =>
    have : ed.on ∈ predsB o := List.mem_map.2 ⟨ed, List.mem_filter.2 ⟨by simpa using he, hb⟩, rfl⟩
    simp [hp _ this]
theorem lt_of_some {i : Nat} {o : Oper} (h : ops[i]? = some o) : i < ops.size := (Array.getElem?_eq_some_iff.1 h).1

theorem chained_ready {listed : Array Bool} (hs : listed.size = ops.size) : ∀ {l : List St}, chained ops l → (∃ s, s ∈ l ∧ listed.getD s.ix false = false) → Region.ready .any ops listed ≠ []
  | [], _, ⟨_, h, _⟩ => by cases h
  | s :: r, ⟨⟨o, ho, hp⟩, hc⟩, ⟨t, ht, hu⟩ => by
    by_cases hr : ∃ s, s ∈ r ∧ listed.getD s.ix false = false
    · exact chained_ready hs hc hr
    · rcases List.mem_cons.1 ht with rfl | ht
      · have : t.ix ∈ Region.ready .any ops listed := mem_ready' (lt_of_some ho) hs ho hu fun j hj => by
          obtain ⟨u, hu', e⟩ := hp j hj
          cases hl : listed.getD j false with
          | true => rfl
          | false => exact absurd ⟨u, hu', by rw [e]; exact hl⟩ hr
        exact fun e => by rw [e] at this; cases this
      · exact absurd ⟨t, ht, hu⟩ hr

theorem pairwise_or {α : Type} {R : α → α → Prop} : ∀ {l : List α}, l.Pairwise R → ∀ {a b : α}, a ∈ l → b ∈ l → a = b ∨ R a b ∨ R b a
  | [], _, _, _, h, _ => by cases h
  | x :: l, h, a, b, ha, hb => by
    obtain ⟨h1, h2⟩ := List.pairwise_cons.1 h
    rcases List.mem_cons.1 ha with rfl | ha
    · rcases List.mem_cons.1 hb with rfl | hb
      · exact .inl rfl
      · exact .inr (.inl (h1 _ hb))
    · rcases List.mem_cons.1 hb with rfl | hb
      · exact .inr (.inr (h1 _ (by assumption)))
      · exact pairwise_or h2 (by assumption) hb

theorem getD_set {listed : Array Bool} {i j : Nat} (h : listed.getD j false = true) : (listed.setIfInBounds i true).getD j false = true := Go.getD_set_true h
theorem getD_set_self {listed : Array Bool} {i : Nat} (h : i < listed.size) : (listed.setIfInBounds i true).getD i false = true := by simp [h]

/-- All is done, where nothing is ready. -/
theorem At.over {seen D : List St} {items : Tr} {listed : Array Bool} {ea ec : TEnv} {L : List HP} (a : At P M N ops seen D listed ea ec L) (ok : okSt ops (ancOf ops) seen items = true) (h : RunD P M N ops items ec L K) (hr : Region.ready .any ops listed = []) : K ea L := by
  have hD : D = [] := by
    cases D with
    | nil => rfl
    | cons s D => exact absurd hr (chained_ready a.sz a.chn ⟨s, a.inD s List.mem_cons_self⟩)
  subst hD
  have key : ∀ s, ItOk ops seen s → False := by
    rintro s ⟨o, ho, _, hnew, hpre, _⟩
    have hu : listed.getD s.ix false = false := by
      cases hl : listed.getD s.ix false with
      | false => rfl
      | true => obtain ⟨t, ht, e⟩ := a.sub _ hl; exact absurd e (hnew t ht)
    have : s.ix ∈ Region.ready .any ops listed := mem_ready' (lt_of_some ho) a.sz ho hu fun j hj => by
      obtain ⟨t, ht, e⟩ := hpre j hj
      rcases a.cov t ht with h' | h'
      · rw [← e]; exact h'
      · cases h'
    rw [hr] at this; cases this
  have hit : items = .nil := by
    cases items with
    | nil => rfl
    | cons s r => exact (key s (okSt_cons ok).1).elim
    | alt i xs r1 r2 => exact (key _ (okT_br ok List.mem_cons_self).1).elim
  subst hit
  have : ea = ec := funext fun t => a.env t fun s hs => by cases hs
  rw [this]; exact h

theorem anyL_of_RunD : ∀ (n : Nat) {items : Tr} {seen D : List St} {listed : Array Bool} {ea ec : TEnv} {L : List HP}, At P M N ops seen D listed ea ec L → okSt ops (ancOf ops) seen items = true → RunD P M N ops items ec L K → D.length + items.depth ≤ n → anyL P M N ops K n listed ea L := by
  intro n
  induction n with
  | zero =>
    intro items seen D listed ea ec L a ok h hn
    have hr : Region.ready .any ops listed = [] := by
      cases hr : Region.ready .any ops listed with
      | nil => rfl
      | cons i l =>
        obtain ⟨items', seen', D', ec', _, _, _, e, hx⟩ := At.peel (i := i) (by rw [hr]; exact List.mem_cons_self) a ok h
        have h1 : D' = [] := List.eq_nil_of_length_eq_zero (by omega)
        subst h1
        rcases hx with ⟨s, hs, _⟩ | ⟨_, _, e⟩
        · cases hs
        · have := depth_br e; omega
    exact ⟨hr, a.over ok h hr⟩
  | succ n ih =>
    intro items seen D listed ea ec L a ok h hn
    refine ⟨fun hr => a.over ok h hr, fun i hi => ?_⟩
    obtain ⟨hlt, hun, hpr⟩ := ready_spec hi
    obtain ⟨items', seen', D', ec', a', ok', h', e, hx⟩ := At.peel hi a ok h
    have hun' : listed.getD i false = false := by rw [← getD_flip (by rw [a.sz]; exact hlt)]; exact hun
    rcases hx with ⟨s, hs, rfl⟩ | ⟨xs, r, hbr⟩
    · obtain ⟨o, v, ho, hsel, hd, hk⟩ := a'.pend s hs
      refine ⟨o, ho, ?_⟩
      have hst : Still P M N ops o v ec' L := by
        cases s with
        | rd j => exact hk
        | pu j => exact hk L
        | ef j xs => exact hk.elim
      have hag : ∀ t, t ∈ o.looksAt ops → ec' t = ea t := fun t ht => (a'.env t fun y hy oy hoy hdy => by
        rcases pairwise_or a'.pair (a'.inD s hs).1 (a'.inD y hy).1 with rfl | hp | hp
        · rw [ho] at hoy; cases hoy; exact (hd t hdy).1 ht
        · have := ancOf_spec ((pairB_spec hp ho hoy).1 t hdy ht)
          have := waits_listed a' this fun o' ho' m hm => hpr o' ho' m hm
          rw [(a'.inD y hy).2] at this; cases this
        · rcases (pairB_spec hp hoy ho).2 t hdy with h2 | ⟨⟨j, xs, e2⟩, _⟩
          · exact h2.1 ht
          · obtain ⟨_, _, _, _, _, hk'⟩ := a'.pend y hy
            rw [e2] at hk'; exact hk').symm
      refine (hst.agree hsel hag).step ?_
      refine ih (D := D'.filter fun t => t.ix != s.ix) (seen := seen') (items := items') (ec := ec') ?_ ok' h' ?_
      · refine ⟨by simp [a'.sz], ?_, ?_, ?_, ?_, ?_, ?_, a'.pair, a'.chn⟩
        · intro j hj
          by_cases hji : j = s.ix
          · exact ⟨s, (a'.inD s hs).1, hji.symm⟩
          · rw [getD_set_ne false (Ne.symm hji)] at hj; exact a'.sub j hj
        · intro j oj hj hoj m hm
          by_cases hji : j = s.ix
          · subst hji; exact getD_set (hpr oj hoj m hm)
          · rw [getD_set_ne false (Ne.symm hji)] at hj; exact getD_set (a'.clo j oj hj hoj m hm)
        · intro t ht
          by_cases hts : t.ix = s.ix
          · left; rw [hts]; exact getD_set_self (by rw [a'.sz]; exact hlt)
          · rcases a'.cov t ht with h2 | h2
            · exact .inl (getD_set h2)
            · exact .inr (List.mem_filter.2 ⟨h2, by simpa using hts⟩)
        · intro t ht
          obtain ⟨h1, h2⟩ := List.mem_filter.1 ht
          have hts : s.ix ≠ t.ix := fun e => by simp [e] at h2
          exact ⟨(a'.inD t h1).1, by rw [getD_set_ne false hts]; exact (a'.inD t h1).2⟩
        · exact fun t ht => a'.pend t (List.mem_filter.1 ht).1
        · intro t ht
          by_cases hdt : o.dst = some t
          · rw [hdt, upd_eq]; exact (hd t hdt).2.symm
          · rw [upd_ne hdt]
            refine a'.env t fun y hy oy hoy => ?_
            by_cases hys : y.ix = s.ix
            · rw [hys, ho] at hoy; cases hoy; exact hdt
            · exact ht y (List.mem_filter.2 ⟨hy, by simpa using hys⟩) oy hoy
      · have : (D'.filter fun t => t.ix != s.ix).length < D'.length := by
          rw [List.length_filter_lt_length_iff_exists]
          exact ⟨s, hs, by simp⟩
        omega
    · obtain ⟨⟨o, ho, hsel, hnew, hpre, hpair, hself, hef⟩, ok2⟩ := okT_br ok' hbr
      obtain ⟨o', ho', hstep⟩ := run_br h' hbr
      have ho2 : ops[i]? = some o := ho
      have : o' = o := by rw [ho'] at ho2; exact Option.some.inj ho2
      subst this
      refine ⟨o', ho', ?_⟩
      have hwait : ∀ y, y ∈ D' → y.ix ∉ (ancOf ops).getD i [] := fun y hy hm => by
        have := waits_listed a' (ancOf_spec hm) fun o2 ho2 m hm => hpr o2 ho2 m hm
        rw [(a'.inD y hy).2] at this; cases this
      have hag : ∀ t, t ∈ o'.looksAt ops → ec' t = ea t := fun t ht => (a'.env t fun y hy oy hoy hdy =>
        hwait y hy ((pairB_spec (hpair y (a'.inD y hy).1) ho hoy).1 t hdy ht)).symm
      have cont : ∀ v L', ((Ent L' L ∨ ∀ x, x ∈ xs → ∀ ox, ops[x]? = some ox → Still P M N ops ox (dstV N (upd ec' o'.dst v) ox) (upd ec' o'.dst v) L') ∧ RunD P M N ops r (upd ec' o'.dst v) L' K) →
          (∀ s, s ∈ D' → ∀ j, s = .rd j → j ∉ xs → pendOk P M N ops s (upd ec' o'.dst v) L') → anyL P M N ops K n (listed.setIfInBounds i true) (upd ea o'.dst v) L' := by
        rintro v L' ⟨hre, hrun⟩ hrest
        refine ih (D := D') (seen := .ef i xs :: seen') (items := r) (ec := upd ec' o'.dst v) ?_ ok2 hrun ?_
        · refine ⟨by simp [a'.sz], ?_, ?_, ?_, ?_, ?_, ?_, List.pairwise_cons.2 ⟨hpair, a'.pair⟩, ⟨o', ho, hpre⟩, a'.chn⟩
          · intro j hj
            by_cases hji : j = i
            · exact ⟨_, List.mem_cons_self, hji.symm⟩
            · rw [getD_set_ne false (Ne.symm hji)] at hj
              obtain ⟨t, ht, e2⟩ := a'.sub j hj
              exact ⟨t, List.mem_cons_of_mem _ ht, e2⟩
          · intro j oj hj hoj m hm
            by_cases hji : j = i
            · subst hji; exact getD_set (hpr oj hoj m hm)
            · rw [getD_set_ne false (Ne.symm hji)] at hj; exact getD_set (a'.clo j oj hj hoj m hm)
          · intro t ht
            rcases List.mem_cons.1 ht with rfl | ht
            · exact .inl (getD_set_self (by rw [a'.sz]; exact hlt))
            · exact (a'.cov t ht).imp getD_set id
          · intro t ht
            refine ⟨List.mem_cons_of_mem _ (a'.inD t ht).1, ?_⟩
            have : i ≠ t.ix := fun e2 => hnew t (a'.inD t ht).1 e2.symm
            rw [getD_set_ne false this]; exact (a'.inD t ht).2
          · intro t ht
            obtain ⟨ot, vt, hot, hselt, hdt, hkt⟩ := a'.pend t ht
            have hp := pairB_spec (hpair t (a'.inD t ht).1) ho hot
            have apart : ∀ d, o'.dst = some d → d ∉ ot.looksAt ops ∧ ot.dst ≠ some d := fun d hd => by
              rcases hp.2 d hd with h2 | ⟨_, h2⟩
              · exact h2
              · exact absurd h2 (hwait t ht)
            have hag2 : ∀ u, u ∈ ot.looksAt ops → ec' u = upd ec' o'.dst v u := fun u hu => by
              rw [upd_ne]; intro e2; exact (apart u e2).1 hu
            have hd2 : ∀ d, ot.dst = some d → d ∉ ot.looksAt ops ∧ upd ec' o'.dst v d = vt := fun d hd => ⟨(hdt d hd).1, by
              rw [upd_ne]
              · exact (hdt d hd).2
              · intro e2; exact (apart d e2).2 hd⟩
            cases t with
            | pu j => exact ⟨ot, vt, hot, hselt, hd2, fun L2 => (hkt L2).agree hselt hag2⟩
            | ef j ys => exact hkt.elim
            | rd j =>
              rcases hre with hE | hre
              · exact ⟨ot, vt, hot, hselt, hd2, (hkt.ent hE).agree hselt hag2⟩
              by_cases hjx : j ∈ xs
              · have h3 := hre j hjx ot hot
                refine ⟨ot, _, hot, hselt, fun d hd => ⟨(hdt d hd).1, ?_⟩, h3⟩
                simp only [dstV, hd]
              · exact hrest _ ht j rfl hjx
          · intro t ht
            have h1 : ea t = ec' t := a'.env t fun s hs os hos => ht s hs os hos
            cases hdt : o'.dst with
            | none => simpa [upd] using h1
            | some d =>
              simp only [upd, h1]
        · have := depth_br hbr; omega
      have hrest : ∀ (v : Value) (L' : List HP) (s : St), s ∈ D' → ∀ j, s = .rd j → j ∉ xs → pendOk P M N ops s (upd ec' o'.dst v) L' := by
        intro v L' s hs j e2 hjx
        exfalso
        rcases hef i xs rfl s (a'.inD s hs).1 with h2 | ⟨j', h2⟩ | ⟨j', ys, h2⟩ | ⟨j', h2, h3⟩
        · exact hwait s hs h2
        · rw [e2] at h2; cases h2
        · rw [e2] at h2; cases h2
        · rw [e2] at h2; cases h2; exact hjx h3
      unfold stepL at hstep ⊢
      rw [← wantedE_agree hag, ← execOp_agree (ops := ops) hsel hag]
      split
      · rename_i hw
        rw [if_pos hw] at hstep
        exact hstep.mono fun v L' q => cont v L' q (hrest v L')
      · rename_i hw
        rw [if_neg hw] at hstep
        exact cont _ _ hstep (hrest _ _)

/-- **A region that draws its order.** -/
theorem Run.regionD {id : Nat} {e : TEnv} {L : List HP} {Q : Exit → TEnv → List HP → Prop} (hm : P.follows .mixedOrders = true) (items : Tr) (ok : (Nat.ble items.depth ops.size && okSt ops (ancOf ops) [] items) = true) (h : RunD P M N ops items e L (Q .normal)) : Run P M N (.region id ops true) e L Q := by
  intro F w s
  refine wp_region_any hm ?_
  have h0 : ∀ i, (Array.replicate ops.size false).getD i false = false := fun i => by
    by_cases hi : i < ops.size <;> simp [hi]
  rw [Bool.and_eq_true] at ok
  have hl : items.depth ≤ ops.size := Nat.le_of_ble_eq_true ok.1
  have a0 : At P M N ops [] [] (Array.replicate ops.size false) e e L :=
    { sz := by simp
      sub := fun i hi => (by rw [h0] at hi; cases hi)
      clo := fun i o hi => (by rw [h0] at hi; cases hi)
      cov := fun s hs => (by cases hs)
      inD := fun s hs => (by cases hs)
      pend := fun s hs => (by cases hs)
      env := fun _ _ => rfl
      pair := List.Pairwise.nil
      chn := trivial }
  have key := anyL_of_RunD ops.size a0 ok.2 h (by simpa using hl)
  exact anyL_sound (Q := Q) ops.size _ e L _ key (s.same rfl) ⟨rfl, rfl, rfl, Nat.le_refl _⟩
end
end Go.Gv
