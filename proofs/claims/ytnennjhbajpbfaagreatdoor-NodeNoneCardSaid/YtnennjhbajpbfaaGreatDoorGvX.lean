/- What the values and objects of the machine that reckons mean. -/
import Derived.Test.YtnennjhbajpbfaaGreatDoorGvW
namespace Go.Gv
set_option linter.unusedVariables false
set_option linter.unusedSimpArgs false
set_option linter.unusedSectionVars false

structure Loc where
  b : Nat
  o : Nat
  cap : Nat
abbrev Rho := Nat → Loc
def room (ρ : Rho) (c lw : Nat) : Nat := Nat.max (ρ c).cap lw
def sCap (ρ : Rho) (c o sz : Nat) (cap : Option Nat) (lw : Nat) : Nat := match cap with
  | some k => k
  | none => room ρ c lw - o / sz
def sOff (ρ : Rho) (c o sz : Nat) (cap : Option Nat) (lw bk : Nat) : Nat := match cap with
  | some _ => o
  | none => if room ρ c lw = o / sz then o - bk else o
mutual
def den (ρ : Rho) : SV → Value
  | .v x => x
  | .p c o => .pointer (some ⟨(ρ c).b, (ρ c).o + o, none⟩)
  | .g b o => .pointer (some ⟨b, o, none⟩)
  | .s c o sz n cap lw bk => .slice (some ⟨(ρ c).b, (ρ c).o + sOff ρ c o sz cap lw bk, none⟩) n (sCap ρ c o sz cap lw)
  | .m c => .map (some (ρ c).b)
  | .f fn a b => .func fn (dens ρ a).toArray (dens ρ b).toArray
  | .a l => .agg (dens ρ l).toArray
  | .t l => .tuple (dens ρ l).toArray
  | .i ty x => .iface ty (den ρ x)
def dens (ρ : Rho) : List SV → List Value
  | [] => []
  | x :: l => den ρ x :: dens ρ l
end
theorem dens_map (ρ : Rho) : ∀ l, dens ρ l = l.map (den ρ)
  | [] => rfl
  | x :: l => by simp [dens, dens_map ρ l]

mutual
def okV (D : Nat → Prop) : SV → Prop
  | .p c _ => D c
  | .s c _ _ _ _ _ _ => D c
  | .m c => D c
  | .f _ a b => okVs D a ∧ okVs D b
  | .a l => okVs D l
  | .t l => okVs D l
  | .i _ x => okV D x
  | .v _ => True
  | .g _ _ => True
def okVs (D : Nat → Prop) : List SV → Prop
  | [] => True
  | x :: l => okV D x ∧ okVs D l
end
theorem okVs_iff {D : Nat → Prop} : ∀ {l : List SV}, okVs D l ↔ ∀ x ∈ l, okV D x
  | [] => by simp [okVs]
  | x :: l => by simp [okVs, okVs_iff (l := l)]
mutual
theorem den_congr {ρ ρ' : Rho} {D : Nat → Prop} (h : ∀ c, D c → ρ c = ρ' c) : ∀ x, okV D x → den ρ x = den ρ' x
  | .v _, _ => rfl
  | .p c _, k => by simp only [okV] at k; simp only [den, h c k]
  | .g _ _, _ => rfl
  | .s c o sz n cap lw bk, k => by simp only [okV] at k; unfold den sOff sCap room; rw [h c k]
  | .m c, k => by simp only [okV] at k; simp only [den, h c k]
  | .f _ a b, k => by simp only [okV] at k; simp only [den, dens_congr h a k.1, dens_congr h b k.2]
  | .a l, k => by simp only [okV] at k; simp only [den, dens_congr h l k]
  | .t l, k => by simp only [okV] at k; simp only [den, dens_congr h l k]
  | .i _ x, k => by simp only [okV] at k; simp only [den, den_congr h x k]
theorem dens_congr {ρ ρ' : Rho} {D : Nat → Prop} (h : ∀ c, D c → ρ c = ρ' c) : ∀ l, okVs D l → dens ρ l = dens ρ' l
  | [], _ => rfl
  | x :: l, k => by simp only [okVs] at k; simp only [dens, den_congr h x k.1, dens_congr h l k.2]
end
mutual
theorem okV_up {D D' : Nat → Prop} (h : ∀ c, D c → D' c) : ∀ x, okV D x → okV D' x
  | .v _, _ => trivial
  | .p c _, k => h c k
  | .g _ _, _ => trivial
  | .s c o sz n cap lw bk, k => h c k
  | .m c, k => h c k
  | .f _ a b, k => ⟨okVs_up h a k.1, okVs_up h b k.2⟩
  | .a l, k => okVs_up h l k
  | .t l, k => okVs_up h l k
  | .i _ x, k => okV_up h x k
theorem okVs_up {D D' : Nat → Prop} (h : ∀ c, D c → D' c) : ∀ l, okVs D l → okVs D' l
  | [], _ => trivial
  | x :: l, k => ⟨okV_up h x k.1, okVs_up h l k.2⟩
end

/-! ### Objects -/
def entryOf (ρ : Rho) (e : SV × SV × Nat) : MapEntry := { key := den ρ e.1, val := den ρ e.2.1, born := e.2.2 }
def opnOk (ρ : Rho) (c k n : Nat) : Option (Nat × Nat) → Prop
  | none => n = k ∧ (ρ c).o = 0
  | some (sz, lw) => room ρ c lw * sz ≤ n
def objP (ρ : Rho) (c : Nat) : SO → HP
  | .cells el l opn fz => fun h => ∃ (pre post : List Value) (z : Nat × Nat), h (ρ c).b = some (.cells (pre ++ dens ρ l ++ post).toArray el z) ∧ pre.length = (ρ c).o ∧
      (z.1 = z.2 ∨ z.2 ≤ (ρ c).o + fz) ∧ opnOk ρ c l.length (l.length + post.length) opn
  | .map es clk => fun h => h (ρ c).b = some (.map (es.map (entryOf ρ)).toArray clk)
  | .mit m since seen last => fun h => h (ρ c).b = some (.mapIter (m.map fun c => (ρ c).b) since seen.toArray last) ∧ (ρ c).o = 0
  | .sit s pos => fun h => h (ρ c).b = some (.stringIter ⟨⟨s⟩⟩ pos) ∧ (ρ c).o = 0
  | .gone => fun _ => True
theorem objP_up {ρ : Rho} {c : Nat} {o : SO} {g g' : Heap} (h : objP ρ c o g) (s : Hsub g g') : objP ρ c o g' := by
  cases o with
  | cells el l opn fz => obtain ⟨pre, post, z, h1, h2⟩ := h; exact ⟨pre, post, z, s _ _ h1, h2⟩
  | map es clk => exact s _ _ h
  | mit m since seen last => exact ⟨s _ _ h.1, h.2⟩
  | sit t pos => exact ⟨s _ _ h.1, h.2⟩
  | gone => trivial
def okO (D : Nat → Prop) : SO → Prop
  | .cells _ l _ _ => okVs D l
  | .map es _ => ∀ e ∈ es, okV D e.1 ∧ okV D e.2.1
  | .mit m _ _ _ => ∀ c, m = some c → D c
  | _ => True
theorem okO_up {D D' : Nat → Prop} (h : ∀ c, D c → D' c) {o : SO} (k : okO D o) : okO D' o := by
  cases o with
  | cells el l opn fz => exact okVs_up h l k
  | map es clk => exact fun e he => ⟨okV_up h _ (k e he).1, okV_up h _ (k e he).2⟩
  | mit m since seen last => exact fun c e => h _ (k c e)
  | _ => trivial
theorem objP_congr {ρ ρ' : Rho} {D : Nat → Prop} (h : ∀ c, D c → ρ c = ρ' c) {c : Nat} {o : SO} (hc : D c) (k : okO D o) : objP ρ c o = objP ρ' c o := by
  cases o with
  | cells el l opn fz =>
    funext g
    have e : ∀ k n, opnOk ρ c k n opn = opnOk ρ' c k n opn := fun k n => by
      cases opn with
      | none => simp only [opnOk, h c hc]
      | some x => simp only [opnOk, room, h c hc]
    simp only [objP, dens_congr h l k, h c hc, e]
  | map es clk =>
    funext g
    have : es.map (entryOf ρ) = es.map (entryOf ρ') := List.map_congr_left fun e he => by
      simp only [entryOf, den_congr h _ (k e he).1, den_congr h _ (k e he).2]
    simp only [objP, this, h c hc]
  | mit m since seen last =>
    funext g
    have : m.map (fun c => (ρ c).b) = m.map (fun c => (ρ' c).b) := by
      cases m with
      | none => rfl
      | some x => simp only [Option.map_some, h x (k x rfl)]
    simp only [objP, this, h c hc]
  | sit t pos => funext g; simp only [objP, h c hc]
  | gone => rfl

/-! ### Tries -/
section
variable {α : Type}
theorem Tri.get_nd_odd {l r : Tri α} {v : Option α} (m : Nat) : (Tri.nd l v r).get (2 * m + 1) = l.get m := by
  have h1 : Nat.beq (Nat.mod (2 * m) 2) 0 = true := by
    have : Nat.mod (2 * m) 2 = 0 := by show 2 * m % 2 = 0; omega
    rw [this]; rfl
  have h2 : Nat.div (2 * m) 2 = m := by show 2 * m / 2 = m; omega
  simp only [Tri.get, h1, h2, cond_true]
theorem Tri.get_nd_even {l r : Tri α} {v : Option α} (m : Nat) : (Tri.nd l v r).get (2 * m + 1 + 1) = r.get m := by
  have h1 : Nat.beq (Nat.mod (2 * m + 1) 2) 0 = false := by
    have : Nat.mod (2 * m + 1) 2 = 1 := by show (2 * m + 1) % 2 = 1; omega
    rw [this]; rfl
  have h2 : Nat.div (2 * m + 1) 2 = m := by show (2 * m + 1) / 2 = m; omega
  simp only [Tri.get, h1, h2, cond_false]
theorem nat3 (n : Nat) : n = 0 ∨ (∃ m, n = 2 * m + 1) ∨ ∃ m, n = 2 * m + 1 + 1 := by
  rcases Nat.eq_zero_or_pos n with h | h
  · exact .inl h
  · rcases Nat.mod_two_eq_zero_or_one n with e | e
    · exact .inr (.inr ⟨n / 2 - 1, by omega⟩)
    · exact .inr (.inl ⟨n / 2, by omega⟩)
theorem Tri.set_lf_odd {d m : Nat} {x : α} : Tri.set (d + 1) .lf (2 * m + 1) x = .nd (Tri.set d .lf m x) none .lf := by
  have h1 : Nat.beq (Nat.mod (2 * m) 2) 0 = true := by
    have : Nat.mod (2 * m) 2 = 0 := by show 2 * m % 2 = 0; omega
    rw [this]; rfl
  have h2 : Nat.div (2 * m) 2 = m := by show 2 * m / 2 = m; omega
  simp only [Tri.set, h1, h2, cond_true]
theorem Tri.set_lf_even {d m : Nat} {x : α} : Tri.set (d + 1) .lf (2 * m + 1 + 1) x = .nd .lf none (Tri.set d .lf m x) := by
  have h1 : Nat.beq (Nat.mod (2 * m + 1) 2) 0 = false := by
    have : Nat.mod (2 * m + 1) 2 = 1 := by show (2 * m + 1) % 2 = 1; omega
    rw [this]; rfl
  have h2 : Nat.div (2 * m + 1) 2 = m := by show (2 * m + 1) / 2 = m; omega
  simp only [Tri.set, h1, h2, cond_false]
theorem Tri.set_nd_odd {d m : Nat} {x : α} {l r : Tri α} {v : Option α} : Tri.set (d + 1) (.nd l v r) (2 * m + 1) x = .nd (Tri.set d l m x) v r := by
  have h1 : Nat.beq (Nat.mod (2 * m) 2) 0 = true := by
    have : Nat.mod (2 * m) 2 = 0 := by show 2 * m % 2 = 0; omega
    rw [this]; rfl
  have h2 : Nat.div (2 * m) 2 = m := by show 2 * m / 2 = m; omega
  simp only [Tri.set, h1, h2, cond_true]
theorem Tri.set_nd_even {d m : Nat} {x : α} {l r : Tri α} {v : Option α} : Tri.set (d + 1) (.nd l v r) (2 * m + 1 + 1) x = .nd l v (Tri.set d r m x) := by
  have h1 : Nat.beq (Nat.mod (2 * m + 1) 2) 0 = false := by
    have : Nat.mod (2 * m + 1) 2 = 1 := by show (2 * m + 1) % 2 = 1; omega
    rw [this]; rfl
  have h2 : Nat.div (2 * m + 1) 2 = m := by show (2 * m + 1) / 2 = m; omega
  simp only [Tri.set, h1, h2, cond_false]
theorem pow_half {d k : Nat} (h : k + 2 ≤ 2 ^ (d + 1)) : ∀ m, (k = 2 * m + 1 ∨ k = 2 * m + 1 + 1) → m + 2 ≤ 2 ^ d := by
  intro m hm
  rw [Nat.pow_succ] at h
  omega
theorem Tri.get_set_eq : ∀ (d : Nat) (t : Tri α) (n : Nat) (x : α), n + 2 ≤ 2 ^ d → (Tri.set d t n x).get n = some x
  | 0, t, n, x, h => by simp at h
  | d + 1, .lf, n, x, h => by
    rcases nat3 n with rfl | ⟨m, rfl⟩ | ⟨m, rfl⟩
    · rfl
    · rw [Tri.set_lf_odd, Tri.get_nd_odd]; exact Tri.get_set_eq d _ m x (pow_half h m (.inl rfl))
    · rw [Tri.set_lf_even, Tri.get_nd_even]; exact Tri.get_set_eq d _ m x (pow_half h m (.inr rfl))
  | d + 1, .nd l v r, n, x, h => by
    rcases nat3 n with rfl | ⟨m, rfl⟩ | ⟨m, rfl⟩
    · rfl
    · rw [Tri.set_nd_odd, Tri.get_nd_odd]; exact Tri.get_set_eq d _ m x (pow_half h m (.inl rfl))
    · rw [Tri.set_nd_even, Tri.get_nd_even]; exact Tri.get_set_eq d _ m x (pow_half h m (.inr rfl))
theorem Tri.get_lf (n : Nat) : (Tri.lf : Tri α).get n = none := rfl
theorem Tri.get_set_ne : ∀ (d : Nat) (t : Tri α) (n k : Nat) (x : α), k ≠ n → (Tri.set d t n x).get k = t.get k
  | 0, t, n, k, x, h => rfl
  | d + 1, .lf, n, k, x, h => by
    rcases nat3 n with rfl | ⟨m, rfl⟩ | ⟨m, rfl⟩ <;> rcases nat3 k with rfl | ⟨j, rfl⟩ | ⟨j, rfl⟩
    · exact absurd rfl h
    · show (Tri.nd .lf (some x) .lf).get _ = _; rw [Tri.get_nd_odd]; rfl
    · show (Tri.nd .lf (some x) .lf).get _ = _; rw [Tri.get_nd_even]; rfl
    · rw [Tri.set_lf_odd]; rfl
    · rw [Tri.set_lf_odd, Tri.get_nd_odd, Tri.get_set_ne d _ _ _ _ (by omega)]; rfl
    · rw [Tri.set_lf_odd, Tri.get_nd_even]; rfl
    · rw [Tri.set_lf_even]; rfl
    · rw [Tri.set_lf_even, Tri.get_nd_odd]; rfl
    · rw [Tri.set_lf_even, Tri.get_nd_even, Tri.get_set_ne d _ _ _ _ (by omega)]; rfl
  | d + 1, .nd l v r, n, k, x, h => by
    rcases nat3 n with rfl | ⟨m, rfl⟩ | ⟨m, rfl⟩ <;> rcases nat3 k with rfl | ⟨j, rfl⟩ | ⟨j, rfl⟩
    · exact absurd rfl h
    · show (Tri.nd l (some x) r).get _ = _; rw [Tri.get_nd_odd, Tri.get_nd_odd]
    · show (Tri.nd l (some x) r).get _ = _; rw [Tri.get_nd_even, Tri.get_nd_even]
    · rw [Tri.set_nd_odd]; rfl
    · rw [Tri.set_nd_odd, Tri.get_nd_odd, Tri.get_nd_odd, Tri.get_set_ne d _ _ _ _ (by omega)]
    · rw [Tri.set_nd_odd, Tri.get_nd_even, Tri.get_nd_even]
    · rw [Tri.set_nd_even]; rfl
    · rw [Tri.set_nd_even, Tri.get_nd_odd, Tri.get_nd_odd]
    · rw [Tri.set_nd_even, Tri.get_nd_even, Tri.get_nd_even, Tri.get_set_ne d _ _ _ _ (by omega)]
end

/-! ### The heap as a list of assertions -/
def one1 (ρ : Rho) : Option (Nat × SO) → List HP
  | some x => [objP ρ x.1 x.2]
  | none => []
def objs (ρ : Rho) : Hp → List HP
  | .lf => []
  | .nd l v r => one1 ρ v ++ (objs ρ l ++ objs ρ r)
def dom (h : Hp) (c : Nat) : Prop := Tri.get h c ≠ none
def okHp (h : Hp) : Prop := ∀ n c o, Tri.get h n = some (c, o) → c = n ∧ okO (dom h) o
theorem objs_congr {ρ ρ' : Rho} : ∀ {h : Hp}, (∀ n c o, Tri.get h n = some (c, o) → objP ρ c o = objP ρ' c o) → objs ρ h = objs ρ' h
  | .lf, _ => rfl
  | .nd l v r, k => by
    have h1 : objs ρ l = objs ρ' l := objs_congr fun n c o e => k (2 * n + 1) c o (by rw [Tri.get_nd_odd]; exact e)
    have h2 : objs ρ r = objs ρ' r := objs_congr fun n c o e => k (2 * n + 1 + 1) c o (by rw [Tri.get_nd_even]; exact e)
    have h3 : one1 ρ v = one1 ρ' v := by
      cases v with
      | none => rfl
      | some x => simp only [one1, k 0 x.1 x.2 rfl]
    simp only [objs, h1, h2, h3]
theorem objs_okHp {ρ ρ' : Rho} {h : Hp} (ok : okHp h) (e : ∀ c, dom h c → ρ c = ρ' c) : objs ρ h = objs ρ' h :=
  objs_congr fun n c o hg => by
    obtain ⟨rfl, k⟩ := ok n c o hg
    exact objP_congr e (by unfold dom; rw [hg]; simp) k
theorem objs_set (ρ : Rho) : ∀ (d : Nat) (t : Hp) (n c : Nat) (o : SO), n + 2 ≤ 2 ^ d → t.get n = some (c, o) →
    ∃ R, (objs ρ t).Perm (objP ρ c o :: R) ∧ ∀ c' o', (objs ρ (Tri.set d t n (c', o'))).Perm (objP ρ c' o' :: R)
  | 0, t, n, c, o, h, _ => by simp at h
  | d + 1, .lf, n, c, o, h, e => by cases e
  | d + 1, .nd l v r, n, c, o, h, e => by
    rcases nat3 n with rfl | ⟨m, rfl⟩ | ⟨m, rfl⟩
    · simp only [Tri.get] at e
      subst e
      exact ⟨objs ρ l ++ objs ρ r, .refl _, fun c' o' => .refl _⟩
    · rw [Tri.get_nd_odd] at e
      obtain ⟨R, p, q⟩ := objs_set ρ d l m c o (pow_half h m (.inl rfl)) e
      refine ⟨one1 ρ v ++ (R ++ objs ρ r), ?_, fun c' o' => ?_⟩
      · exact ((p.append_right (objs ρ r)).append_left (one1 ρ v)).trans List.perm_middle
      · rw [Tri.set_nd_odd]
        exact (((q c' o').append_right (objs ρ r)).append_left (one1 ρ v)).trans List.perm_middle
    · rw [Tri.get_nd_even] at e
      obtain ⟨R, p, q⟩ := objs_set ρ d r m c o (pow_half h m (.inr rfl)) e
      refine ⟨one1 ρ v ++ (objs ρ l ++ R), ?_, fun c' o' => ?_⟩
      · refine (((p.append_left (objs ρ l)).trans List.perm_middle).append_left (one1 ρ v)).trans List.perm_middle
      · rw [Tri.set_nd_even]
        exact ((((q c' o').append_left (objs ρ l)).trans List.perm_middle).append_left (one1 ρ v)).trans List.perm_middle
theorem objs_new (ρ : Rho) : ∀ (d : Nat) (t : Hp) (n c : Nat) (o : SO), n + 2 ≤ 2 ^ d → t.get n = none → (objs ρ (Tri.set d t n (c, o))).Perm (objP ρ c o :: objs ρ t)
  | 0, t, n, c, o, h, _ => by simp at h
  | d + 1, .lf, n, c, o, h, e => by
    rcases nat3 n with rfl | ⟨m, rfl⟩ | ⟨m, rfl⟩
    · exact .refl _
    · rw [Tri.set_lf_odd]
      have := objs_new ρ d .lf m c o (pow_half h m (.inl rfl)) rfl
      simpa [objs, one1] using this
    · rw [Tri.set_lf_even]
      have := objs_new ρ d .lf m c o (pow_half h m (.inr rfl)) rfl
      simpa [objs, one1] using this
  | d + 1, .nd l v r, n, c, o, h, e => by
    rcases nat3 n with rfl | ⟨m, rfl⟩ | ⟨m, rfl⟩
    · simp only [Tri.get] at e
      subst e
      exact .refl _
    · rw [Tri.get_nd_odd] at e
      rw [Tri.set_nd_odd]
      exact (((objs_new ρ d l m c o (pow_half h m (.inl rfl)) e).append_right (objs ρ r)).append_left (one1 ρ v)).trans List.perm_middle
    · rw [Tri.get_nd_even] at e
      rw [Tri.set_nd_even]
      exact ((((objs_new ρ d r m c o (pow_half h m (.inr rfl)) e).append_left (objs ρ l)).trans List.perm_middle).append_left (one1 ρ v)).trans List.perm_middle

theorem hget_spec {h : Hp} {c : Nat} {o : SO} (e : hget h c = some o) : h.get c = some (c, o) ∧ c ≤ 4000 := by
  unfold hget at e
  split at e
  · rename_i k o' hk
    cases hb : (Nat.beq k c && Nat.ble c 4000) with
    | false => rw [hb] at e; cases e
    | true =>
      rw [hb] at e
      simp only [cond_true, Option.some.injEq] at e
      subst e
      rw [Bool.and_eq_true] at hb
      obtain rfl := Nat.eq_of_beq_eq_true hb.1
      exact ⟨hk, Nat.le_of_ble_eq_true hb.2⟩
  · cases e
theorem p12 {c : Nat} (h : c ≤ 4000) : c + 2 ≤ 2 ^ 12 := by
  have : (2 : Nat) ^ 12 = 4096 := by decide
  omega
theorem hnew_spec {h h' : Hp} {c : Nat} {o : SO} (e : hnew h c o = some h') : h.get c = none ∧ c ≤ 4000 ∧ h' = hset h c o := by
  unfold hnew at e
  cases hb : Nat.ble c 4000 with
  | false => rw [hb] at e; cases e
  | true =>
    rw [hb] at e
    simp only [cond_true] at e
    split at e
    · rename_i hg; cases e; exact ⟨hg, Nat.le_of_ble_eq_true hb, rfl⟩
    · cases e

section
variable {M : Heap} {L F : List HP} {w w' : World} {ρ : Rho} {h : Hp} {c : Nat} {o o' : SO}
theorem Sat.objAt (s : Sat M (objs ρ h ++ F) w) (e : hget h c = some o) : objP ρ c o (hp w) := by
  obtain ⟨hg, hc⟩ := hget_spec e
  obtain ⟨R, p, _⟩ := objs_set ρ 12 h c c o (p12 hc) hg
  have s' : Sat M (objP ρ c o :: (R ++ F)) w := s.perm (p.append_right F)
  obtain ⟨_, g, gs, _, h1, _, _, s1, _, a, _⟩ := s'
  exact objP_up a (s1.trans gs)
/-- An object's block is another one. -/
theorem Sat.upd {A B : HP} {b : Nat} {ob' : Obj} (s : Sat M (A :: L) w) (hA : ∀ g, A g → ∃ ob, g b = some ob) (hw : ∀ x, w'.heap[x]? = if x = b then some ob' else w.heap[x]?) (hB : ∀ g : Heap, g b = some ob' → B g) : Sat M (B :: L) w' := by
  obtain ⟨hM, g, gs, gd, h1, h2, d, s1, s2, a, l⟩ := s
  obtain ⟨ob, hb⟩ := hA _ a
  have s' : Sat M (pts b ob :: L) w := ⟨hM, g, gs, gd, h1, h2, d, s1, s2, hb, l⟩
  exact (s'.set hw).ent (Ent.head hB)
theorem Sat.objSet {b : Nat} {ob' : Obj} (s : Sat M (objs ρ h ++ F) w) (e : hget h c = some o) (hA : ∀ g, objP ρ c o g → ∃ ob, g b = some ob) (hw : ∀ x, w'.heap[x]? = if x = b then some ob' else w.heap[x]?) (hB : ∀ g : Heap, g b = some ob' → objP ρ c o' g) : Sat M (objs ρ (hset h c o') ++ F) w' := by
  obtain ⟨hg, hc⟩ := hget_spec e
  obtain ⟨R, p, q⟩ := objs_set ρ 12 h c c o (p12 hc) hg
  have s' : Sat M (objP ρ c o :: (R ++ F)) w := s.perm (p.append_right F)
  have t : Sat M (objP ρ c o' :: (R ++ F)) w' := s'.upd hA hw hB
  exact t.perm ((q c o').append_right F).symm
theorem dom_set {h : Hp} {c k : Nat} {o : SO} (hk : dom h k) : dom (hset h c o) k := by
  unfold dom hset at *
  by_cases e : k = c
  · subst e
    intro hn
    have : ∀ (d : Nat) (t : Hp) (n : Nat), Tri.get t n ≠ none → ∀ x, (Tri.set d t n x).get n ≠ none := by
      intro d
      induction d with
      | zero => intro t n ht x; exact ht
      | succ d ih =>
        intro t n ht x
        cases t with
        | lf => exact absurd rfl ht
        | nd l v r =>
          rcases nat3 n with rfl | ⟨m, rfl⟩ | ⟨m, rfl⟩
          · simp [Tri.set, Tri.get]
          · rw [Tri.get_nd_odd] at ht; rw [Tri.set_nd_odd, Tri.get_nd_odd]; exact ih _ _ ht x
          · rw [Tri.get_nd_even] at ht; rw [Tri.set_nd_even, Tri.get_nd_even]; exact ih _ _ ht x
    exact this 12 h k hk (k, o) hn
  · rw [Tri.get_set_ne _ _ _ _ _ e]; exact hk
theorem dom_self {h : Hp} {c : Nat} {o : SO} (hc : c ≤ 4000) : dom (hset h c o) c := by
  unfold dom hset; rw [Tri.get_set_eq _ _ _ _ (p12 hc)]; simp
theorem okHp_set {h : Hp} {c : Nat} {o : SO} (ok : okHp h) (hc : c ≤ 4000) (k : okO (dom (hset h c o)) o) : okHp (hset h c o) := by
  intro n k' o' e
  by_cases hn : n = c
  · subst hn
    unfold hset at e
    rw [Tri.get_set_eq _ _ _ _ (p12 hc)] at e
    cases e
    exact ⟨rfl, k⟩
  · have e' := e
    unfold hset at e'
    rw [Tri.get_set_ne _ _ _ _ _ hn] at e'
    obtain ⟨h1, h2⟩ := ok n k' o' e'
    exact ⟨h1, okO_up (fun _ hd => dom_set hd) h2⟩
theorem dom_get {h : Hp} {c : Nat} {o : SO} (e : hget h c = some o) : dom h c := by
  unfold dom; rw [(hget_spec e).1]; simp
theorem okO_get {h : Hp} {c : Nat} {o : SO} (ok : okHp h) (e : hget h c = some o) : okO (dom h) o := (ok c c o (hget_spec e).1).2
end
end Go.Gv
