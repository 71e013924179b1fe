/- Loops; small words for loads, stores and picks. -/
import Derived.Test.YtnennjhbajpbfaaGreatDoorGvI
namespace Go.Gv
set_option linter.unusedVariables false
set_option linter.unusedSimpArgs false
set_option linter.unusedSectionVars false

section
variable {P : Program} {M : Heap} {N : Nat} {e : TEnv} {L L' F : List HP} {Q : Exit → TEnv → List HP → Prop} {T : TT P} {k : List It} {w : World}
variable {arr : Array Oper} {dst : Option Nat} {ty : TypeId} {pos : String} {aft : Array Edge} {l : List Oper}

/-! ### Loops -/
def lq (P : Program) (M : Heap) (N : Nat) (k : List It) (Q : Exit → TEnv → List HP → Prop) (C : TEnv → List HP → Prop) : Exit → TEnv → List HP → Prop
  | .normal, e, L => C e L
  | x, e, L => post P M N k Q x e L
def puts (e : TEnv) : List (Nat × Value) → TEnv
  | [] => e
  | (d, v) :: r => upd (puts e r) (some d) v
def holds (e : TEnv) : List (Nat × Value) → Prop
  | [] => True
  | (d, v) :: r => e d = v ∧ holds e r
theorem puts_of_holds {e : TEnv} : ∀ {r : List (Nat × Value)}, holds e r → puts e r = e
  | [], _ => rfl
  | (d, v) :: r, ⟨h, h2⟩ => by
    rw [puts, puts_of_holds h2]
    funext t
    simp only [upd]
    cases hb : Nat.beq t d with
    | false => rfl
    | true => rw [Nat.eq_of_beq_eq_true hb, h]; rfl
/-- A loop: its state s, what stands in which slot, what is owned, a measure. -/
theorem gLoop {σ : Type} {body : Code} (φ : σ → Prop) (vals : σ → List (Nat × Value)) (Ls : σ → List HP) (μ : σ → Nat) (s0 : σ) (h0 : φ s0) (hv : holds e (vals s0)) (en : Ent L (Ls s0))
    (round : ∀ s base, φ s → Exec P M N [.c body] (puts base (vals s)) (Ls s) (lq P M N k Q fun e' L' => ∃ s', φ s' ∧ μ s' < μ s ∧ holds e' (vals s') ∧ Ent L' (Ls s'))) : Exec P M N (.c (.loop body) :: k) e L Q := by
  refine Run.loop (fun n e' L' => ∃ s, φ s ∧ μ s = n ∧ holds e' (vals s) ∧ Ent L' (Ls s)) ?_ ⟨s0, h0, rfl, hv, en⟩
  rintro n e' L1 ⟨s, hs, rfl, hh, he⟩
  have := round s e' hs
  rw [puts_of_holds hh] at this
  refine Run.ent (Run.mono this ?_) he
  intro x e2 L2 q
  cases x with
  | normal => obtain ⟨s', a, b, c, d⟩ := q; exact ⟨_, b, s', a, rfl, c, d⟩
  | _ => exact q
/-- A round's end. -/
theorem gNext {C : TEnv → List HP → Prop} (h : C e L) : Exec P M N [] e L (lq P M N k Q C) := h
theorem post_none {id : Nat} : ∀ {k : List It}, popTo id k = none → Q (.exit id) e L → post P M N k Q (.exit id) e L
  | [], _, h => h
  | .blk j :: k, hp, h => by
    simp only [popTo] at hp
    cases hb : Nat.beq j id with
    | true => rw [hb] at hp; cases hp
    | false =>
      rw [hb] at hp
      show (if id = j then post P M N k Q .normal e L else post P M N k Q (.exit id) e L)
      have : id ≠ j := fun e => by subst e; simp at hb
      rw [if_neg this]
      exact post_none hp h
  | .c _ :: k, hp, h => post_none (k := k) hp h
  | .ops _ _ :: k, hp, h => post_none (k := k) hp h
  | .dr _ _ :: k, hp, h => post_none (k := k) hp h
  | .chk _ _ _ :: k, hp, h => post_none (k := k) hp h
/-- Out of a loop. -/
theorem gOut {id : Nat} {C : TEnv → List HP → Prop} {kin k' : List It} (h1 : popTo id kin = none) (h2 : popTo id k = some k') (H : Exec P M N k' e L Q) : Exec P M N (.c (.exit id) :: kin) e L (lq P M N k Q C) :=
  Run.exit (post_none h1 (post_pop h2 H))
/-- Out of two loops. -/
theorem gOut2 {id : Nat} {C C2 : TEnv → List HP → Prop} {kin k2 k' : List It} (h1 : popTo id kin = none) (h3 : popTo id k2 = none) (h2 : popTo id k = some k') (H : Exec P M N k' e L Q) : Exec P M N (.c (.exit id) :: kin) e L (lq P M N k2 (lq P M N k Q C) C2) :=
  Run.exit (post_none h1 (post_none h3 (post_pop h2 H)))

/-! ### Return, through loops -/
theorem postR {fn : Func} {rs : List ResultVar} {vs : List Value} {L2 : List HP} {K : Value → List HP → Prop} (T : TT P) (hr : fn.results.toList = rs) (h : resV M N e L T rs vs) (en : Ent L L2) (hk : K (retOf vs) L2) : post P M N k (retE P M N fn K) .ret e L :=
  post_ret (results_gen T hr h en hk _ (.inr rfl))
theorem postL {C : TEnv → List HP → Prop} {kin : List It} (h : post P M N k Q .ret e L) : post P M N kin (lq P M N k Q C) .ret e L := post_ret h

theorem rv0 : resV M N e L T [] [] := trivial
theorem rv1 {t : Nat} {v : Value} (h : ev N e (.tmp t) = v) : resV M N e L T [.tmp t] [v] := ⟨h, trivial⟩
theorem rv2 {t u : Nat} {v v2 : Value} (h : ev N e (.tmp t) = v) (h2 : ev N e (.tmp u) = v2) : resV M N e L T [.tmp t, .tmp u] [v, v2] := ⟨h, h2, trivial⟩
theorem rv3 {t u x : Nat} {v v2 v3 : Value} (h : ev N e (.tmp t) = v) (h2 : ev N e (.tmp u) = v2) (h3 : ev N e (.tmp x) = v3) : resV M N e L T [.tmp t, .tmp u, .tmp x] [v, v2, v3] := ⟨h, h2, h3, trivial⟩
theorem rvc {t ty n : Nat} {a : Go.Addr} {c : List Value} (h : ev N e (.tmp t) = .pointer (some a)) (h1 : aggT T ty = some (true, n)) (h2 : LdN M L a c) (h3 : Nat.beq c.length n = true) {rs : List ResultVar} {vs : List Value} (hr : resV M N e L T rs vs) : resV M N e L T (.cell t ty :: rs) (.agg c.toArray :: vs) :=
  ⟨⟨a, h, .inr ⟨c, by rw [Nat.eq_of_beq_eq_true h3]; exact h1, h2, rfl⟩⟩, hr⟩

/-! ### Loads and stores in short -/
section
variable {A0 A1 A2 A3 A4 A5 A6 : HP} {b o n : Nat} {c : List Value} {v : Value}
theorem ld0 (h : c[o]? = some v) : Ld M (blk b c :: L) ⟨b, o, none⟩ v := .head h
theorem ld1 (h : c[o]? = some v) : Ld M (A0 :: blk b c :: L) ⟨b, o, none⟩ v := .tail (.head h)
theorem ld2 (h : c[o]? = some v) : Ld M (A0 :: A1 :: blk b c :: L) ⟨b, o, none⟩ v := .tail (ld1 h)
theorem ld3 (h : c[o]? = some v) : Ld M (A0 :: A1 :: A2 :: blk b c :: L) ⟨b, o, none⟩ v := .tail (ld2 h)
theorem ld4 (h : c[o]? = some v) : Ld M (A0 :: A1 :: A2 :: A3 :: blk b c :: L) ⟨b, o, none⟩ v := .tail (ld3 h)
theorem ld5 (h : c[o]? = some v) : Ld M (A0 :: A1 :: A2 :: A3 :: A4 :: blk b c :: L) ⟨b, o, none⟩ v := .tail (ld4 h)
theorem ld6 (h : c[o]? = some v) : Ld M (A0 :: A1 :: A2 :: A3 :: A4 :: A5 :: blk b c :: L) ⟨b, o, none⟩ v := .tail (ld5 h)
theorem ld7 (h : c[o]? = some v) : Ld M (A0 :: A1 :: A2 :: A3 :: A4 :: A5 :: A6 :: blk b c :: L) ⟨b, o, none⟩ v := .tail (ld6 h)
theorem lw0 : LdN M (blk b c :: L) ⟨b, 0, none⟩ c := .whole
theorem lw1 : LdN M (A0 :: blk b c :: L) ⟨b, 0, none⟩ c := .tail .whole
theorem lw2 : LdN M (A0 :: A1 :: blk b c :: L) ⟨b, 0, none⟩ c := .tail lw1
theorem lw3 : LdN M (A0 :: A1 :: A2 :: blk b c :: L) ⟨b, 0, none⟩ c := .tail lw2
theorem lw4 : LdN M (A0 :: A1 :: A2 :: A3 :: blk b c :: L) ⟨b, 0, none⟩ c := .tail lw3
theorem lw5 : LdN M (A0 :: A1 :: A2 :: A3 :: A4 :: blk b c :: L) ⟨b, 0, none⟩ c := .tail lw4
theorem lw6 : LdN M (A0 :: A1 :: A2 :: A3 :: A4 :: A5 :: blk b c :: L) ⟨b, 0, none⟩ c := .tail lw5
/-- A part of a block, n cells. -/
theorem lp0 (n : Nat) (h : Nat.ble (o + n) c.length = true) : LdN M (blk b c :: L) ⟨b, o, none⟩ ((c.drop o).take n) := .head rfl (Nat.le_of_ble_eq_true h)
theorem lp1 (n : Nat) (h : Nat.ble (o + n) c.length = true) : LdN M (A0 :: blk b c :: L) ⟨b, o, none⟩ ((c.drop o).take n) := .tail (lp0 n h)
theorem lp2 (n : Nat) (h : Nat.ble (o + n) c.length = true) : LdN M (A0 :: A1 :: blk b c :: L) ⟨b, o, none⟩ ((c.drop o).take n) := .tail (lp1 n h)
theorem lp3 (n : Nat) (h : Nat.ble (o + n) c.length = true) : LdN M (A0 :: A1 :: A2 :: blk b c :: L) ⟨b, o, none⟩ ((c.drop o).take n) := .tail (lp2 n h)
theorem lp4 (n : Nat) (h : Nat.ble (o + n) c.length = true) : LdN M (A0 :: A1 :: A2 :: A3 :: blk b c :: L) ⟨b, o, none⟩ ((c.drop o).take n) := .tail (lp3 n h)
theorem lp5 (n : Nat) (h : Nat.ble (o + n) c.length = true) : LdN M (A0 :: A1 :: A2 :: A3 :: A4 :: blk b c :: L) ⟨b, o, none⟩ ((c.drop o).take n) := .tail (lp4 n h)
variable {vs : List Value}
theorem st0 (h : (vs.all plain && Nat.ble (o + vs.length) c.length) = true) : StL M (blk b c :: L) ⟨b, o, none⟩ vs (blk b (setAll c o vs) :: L) := by
  rw [Bool.and_eq_true] at h; exact .head h.1 (Nat.le_of_ble_eq_true h.2)
theorem st1 (h : (vs.all plain && Nat.ble (o + vs.length) c.length) = true) : StL M (A0 :: blk b c :: L) ⟨b, o, none⟩ vs (A0 :: blk b (setAll c o vs) :: L) := .tail (st0 h)
theorem st2 (h : (vs.all plain && Nat.ble (o + vs.length) c.length) = true) : StL M (A0 :: A1 :: blk b c :: L) ⟨b, o, none⟩ vs (A0 :: A1 :: blk b (setAll c o vs) :: L) := .tail (st1 h)
theorem st3 (h : (vs.all plain && Nat.ble (o + vs.length) c.length) = true) : StL M (A0 :: A1 :: A2 :: blk b c :: L) ⟨b, o, none⟩ vs (A0 :: A1 :: A2 :: blk b (setAll c o vs) :: L) := .tail (st2 h)
theorem st4 (h : (vs.all plain && Nat.ble (o + vs.length) c.length) = true) : StL M (A0 :: A1 :: A2 :: A3 :: blk b c :: L) ⟨b, o, none⟩ vs (A0 :: A1 :: A2 :: A3 :: blk b (setAll c o vs) :: L) := .tail (st3 h)
theorem st5 (h : (vs.all plain && Nat.ble (o + vs.length) c.length) = true) : StL M (A0 :: A1 :: A2 :: A3 :: A4 :: blk b c :: L) ⟨b, o, none⟩ vs (A0 :: A1 :: A2 :: A3 :: A4 :: blk b (setAll c o vs) :: L) := .tail (st4 h)
/-- What is laid down is a struct. -/
theorem gW1 {t n : Nat} {g : Bool} {x y : Operand} {a : Go.Addr} {vs : List Value} (T : TT P)
    (ht : aggT T t = some (g, n)) (hx : ev N e x = .pointer (some a)) (hy : (ev N e y).cells.toList = vs) (hn : Nat.beq vs.length n = true) (hs : StL M L a vs L') (h : Exec P M N (.ops arr l :: k) (upd e dst undef) L' Q) :
    Exec P M N (.ops arr (⟨dst, .store t x y, ty, pos, aft, none⟩ :: l) :: k) e L Q := gW T ht hx hy (Nat.eq_of_beq_eq_true hn) hs h
end

/-- An element's address, its place a natural number. -/
theorem gIn {t el sz by_ n c b o i : Nat} {kd : IntKind} {x ix : Operand} (T : TT P) (ht : elemT T t = some (el, sz, by_)) (hx : ev N e x = .slice (some ⟨b, o, none⟩) n c) (hi : ev N e ix = .int kd (i : Int)) (h1 : i < n)
    (H : Exec P M N (.ops arr l :: k) (upd e dst (.pointer (some ⟨b, o + i * sz, none⟩))) L Q) : Exec P M N (.ops arr (⟨dst, .indexAddr t x ix, ty, pos, aft, none⟩ :: l) :: k) e L Q :=
  gI T ht hx hi (by omega) (by omega) (by simpa using H)
/-- An element of a slice, read: a cell of it; the whole of it. -/
theorem RS.elem {α : Type} {enc : α → List Value} {kk : Nat} {v : Value} {xs : List α} (hf : Flat enc kk) (r : RS enc kk M v xs) (hne : xs ≠ []) :
    ∃ b o cap, v = .slice (some ⟨b, o, none⟩) xs.length cap ∧ (∀ i x, xs[i]? = some x → ∀ j, j < kk → ∀ L u, (enc x)[j]? = some u → Ld M L ⟨b, o + i * kk + j, none⟩ u) ∧ ∀ i x, xs[i]? = some x → ∀ L, LdN M L ⟨b, o + i * kk, none⟩ (enc x) := by
  obtain ⟨a, cap, rfl, h1, h2, h3⟩ := r
  rcases h3 with h3 | ⟨b, o, l, t, fz, rfl, hb, h4⟩
  · exact absurd h3 hne
  · refine ⟨b, o, cap, rfl, fun i x hx j hj L u hu w s => ?_, fun i x hx L w s j hj => ?_⟩
    · rw [cell_of_block (s.imm _ _ hb), cells_get hf h4 hx hj, hu]
    · rw [add_none, cell_of_block (s.imm _ _ hb), cells_get hf h4 hx (by rw [← hf x]; exact hj)]

theorem RS.of_blk {α : Type} {enc : α → List Value} {kk b n : Nat} {l : List Value} {xs : List α} (r : Ro M (blk b l)) (hn : n = xs.length) (hm : n ≤ maxI) (hf : Flat enc kk) (hl : l = xs.flatMap enc) : RS enc kk M (.slice (some ⟨b, 0, none⟩) n n) xs :=
  RS.of_ro (let ⟨h, hs, hb⟩ := r; ⟨h, hs, OS.of_blk hn hm hf hl h hb⟩)

/-! ### Addresses in a region that draws -/
def ixw (T : TT P) (arr : Array Oper) (N : Nat) (e : TEnv) (i : Nat) : Option (Option Nat × Nat × Nat × Nat × Nat × Int) :=
  match arr[i]? with
  | some ⟨dst, .indexAddr t x ix, _, _, _, gd⟩ => bif onB arr N e gd then (match elemT T t with
    | some (_, sz, _) => match ev N e x with
      | .slice (some ⟨b, o, none⟩) n _ => match ev N e ix with
        | .int _ iv => some (dst, b, o, n, sz, iv)
        | _ => none
      | _ => none
    | none => none) else none
  | _ => none
theorem gI6 {arr : Array Oper} {i b o n sz : Nat} {iv : Int} {l : Tr} {d : Option Nat} (T : TT P) (h : ixw T arr N e i = some (d, b, o, n, sz, iv)) (h0 : 0 ≤ iv) (h1 : iv < n)
    (H : Exec P M N (.dr arr l :: k) (upd e d (.pointer (some ⟨b, o + iv.toNat * sz, none⟩))) L Q) : Exec P M N (.dr arr (.cons (.pu i) l) :: k) e L Q := by
  unfold ixw at h
  split at h
  · rename_i dst t x ix ty pos aft gd ho
    cases hb : onB arr N e gd with
    | false => rw [hb] at h; cases h
    | true =>
      rw [hb] at h
      simp only [cond_true] at h
      split at h
      · rename_i el sz' by_ he
        split at h
        · rename_i hx
          split at h
          · rename_i hi
            cases h
            obtain ⟨h2, h3, _⟩ := elemT_spec he
            refine ⟨_, _, ho, fun L' => .inl ⟨onB_wanted hb, fun F w s => ⟨w, ?_, rfl, .refl w⟩⟩, H⟩
            simp only [execOp, hx, hi, Instr.indexAt, asIntOf, Sem.run_bind, Sem.run_pure, Result.andThen_ok, h2, h0, h1, and_self, if_true, h3, add_none]
          · cases h
        · cases h
      · cases h
  · cases h
theorem gI6n {arr : Array Oper} {i b o n sz m : Nat} {l : Tr} {d : Option Nat} (T : TT P) (h : ixw T arr N e i = some (d, b, o, n, sz, (m : Int))) (h1 : m < n)
    (H : Exec P M N (.dr arr l :: k) (upd e d (.pointer (some ⟨b, o + m * sz, none⟩))) L Q) : Exec P M N (.dr arr (.cons (.pu i) l) :: k) e L Q :=
  gI6 T h (by omega) (by omega) (by simpa using H)

theorem stars_one {A : HP} {g : Heap} (h : A g) : stars [A] g := ⟨g, fun _ => none, fun _ => .inr rfl, .refl _, (fun _ _ e => by cases e), h, trivial⟩
theorem OS.shaped {α : Type} {enc : α → List Value} {kk : Nat} {v : Value} {xs : List α} : ∀ g, OS enc kk v xs g → ∃ _ : {p : Option Go.Addr × Nat // v = .slice p.1 xs.length p.2}, stars [OS enc kk v xs] g := by
  intro g h
  have h' := h
  obtain ⟨a, cap, hv, _⟩ := h
  exact ⟨⟨(a, cap), hv⟩, stars_one h'⟩

/-! ### A slice of one's own, its block laid open -/
section
variable {α : Type} {enc : α → List Value} {kk : Nat} {v : Value} {xs : List α}
structure OSo (enc : α → List Value) (kk : Nat) (v : Value) (xs : List α) where
  b : Nat
  o : Nat
  cap : Nat
  l : List Value
  hv : v = .slice (some ⟨b, o, none⟩) xs.length cap
  h1 : xs.length ≤ cap
  h2 : cap ≤ maxI
  h3 : o + cap * kk ≤ l.length
  h4 : (l.drop o).take (xs.length * kk) = xs.flatMap enc
theorem OS.opened (hne : xs ≠ []) : ∀ g, OS enc kk v xs g → ∃ x : OSo enc kk v xs, stars [blk x.b x.l] g := by
  rintro g ⟨a, cap, hv, h1, h2, h3⟩
  rcases h3 with ⟨rfl, rfl⟩ | ⟨b, o, l, t, rfl, hb, h4, h5⟩
  · exact absurd (List.eq_nil_of_length_eq_zero (by omega)) hne
  · exact ⟨⟨b, o, cap, l, hv, h1, h2, h4, h5⟩, g, fun _ => none, fun _ => .inr rfl, .refl _, (fun _ _ e => by cases e), ⟨t, hb⟩, trivial⟩
/-- An element has been written. -/
theorem OSo.close (x : OSo enc kk v xs) (hf : Flat enc kk) {i : Nat} {y : α} (hi : i < xs.length) : ∀ g, blk x.b (setAll x.l (x.o + i * kk) (enc y)) g → OS enc kk v (xs.set i y) g := by
  rintro g ⟨t, hb⟩
  have hle : (i + 1) * kk ≤ xs.length * kk := Nat.mul_le_mul_right kk hi
  have hle2 : xs.length * kk ≤ x.cap * kk := Nat.mul_le_mul_right kk x.h1
  rw [Nat.succ_mul] at hle
  have hyl : (enc y).length = kk := hf y
  have hx3 := x.h3
  refine ⟨_, x.cap, by rw [List.length_set]; exact x.hv, by rw [List.length_set]; exact x.h1, x.h2, .inr ⟨x.b, x.o, _, t, rfl, hb, ?_, ?_⟩⟩
  · rw [setAll_length]; exact x.h3
  · rw [List.length_set]
    have hlen : (xs.flatMap enc).length = xs.length * kk := flat_len hf xs
    apply List.ext_getElem?
    intro m
    by_cases hm : m < xs.length * kk
    · rw [List.getElem?_take_of_lt hm, List.getElem?_drop, setAll_eq (by rw [hyl]; omega)]
      have hkk : 0 < kk := by
        rcases Nat.eq_zero_or_pos kk with h | h
        · subst h; simp at hm
        · exact h
      have hq : m / kk < xs.length := (Nat.div_lt_iff_lt_mul hkk).2 hm
      have hmod : m % kk < kk := Nat.mod_lt _ hkk
      have hdm : m = m / kk * kk + m % kk := by rw [Nat.mul_comm]; exact (Nat.div_add_mod m kk).symm
      have horig : x.l[x.o + m]? = (enc (xs[m / kk]))[m % kk]? := by
        have := cells_get hf x.h4 (List.getElem?_eq_getElem hq) hmod
        rw [← this]; congr 1; omega
      have hgoal : ((xs.set i y).flatMap enc)[m]? = (enc ((xs.set i y)[m / kk]'(by simpa using hq)))[m % kk]? := by
        have := flat_get hf (xs := xs.set i y) (i := m / kk) (j := m % kk) (List.getElem?_eq_getElem (by simpa using hq)) hmod
        rw [← this]; congr 1
      rw [hgoal, List.getElem_set]
      by_cases hmi : m / kk = i
      · subst hmi
        rw [if_pos rfl]
        have hb1 : x.o + m / kk * kk ≤ x.l.length := by omega
        rw [List.append_assoc, List.getElem?_append_right (by simp; omega), List.getElem?_append_left (by simp [hyl]; omega)]
        congr 1
        simp; omega
      · rw [if_neg (fun h => hmi h.symm), ← horig]
        by_cases hlt : m / kk < i
        · have : (m / kk + 1) * kk ≤ i * kk := Nat.mul_le_mul_right kk hlt
          rw [Nat.succ_mul] at this
          rw [List.append_assoc, List.getElem?_append_left (by simp; omega), List.getElem?_take_of_lt (by omega)]
        · have : (i + 1) * kk ≤ m / kk * kk := Nat.mul_le_mul_right kk (by omega)
          rw [Nat.succ_mul] at this
          rw [List.getElem?_append_right (by simp [hyl]; omega), List.getElem?_drop]
          congr 1
          simp [hyl]; omega
    · rw [List.getElem?_eq_none (by simp; omega), List.getElem?_eq_none (by rw [flat_len hf]; simp; omega)]
theorem OSo.same (x : OSo enc kk v xs) : ∀ g, blk x.b x.l g → OS enc kk v xs g := by
  rintro g ⟨t, hb⟩
  exact ⟨_, x.cap, x.hv, x.h1, x.h2, .inr ⟨x.b, x.o, _, t, rfl, hb, x.h3, x.h4⟩⟩
theorem OSo.get (x : OSo enc kk v xs) (hf : Flat enc kk) {i j : Nat} {y : α} (hi : xs[i]? = some y) (hj : j < kk) : x.l[x.o + i * kk + j]? = (enc y)[j]? := cells_get hf x.h4 hi hj
end
end
end Go.Gv
