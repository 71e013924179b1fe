/- What acts: new objects, writing. -/
import Derived.Test.YtnennjhbajpbfaaGreatDoorGvY6
namespace Go.Gv
set_option linter.unusedVariables false
set_option linter.unusedSimpArgs false
set_option linter.unusedSectionVars false

structure Grew (h h' : Hp) (ρ ρ' : Rho) : Prop where
  dom : ∀ c, dom h c → dom h' c
  ext : ∀ c, Gv.dom h c → ρ c = ρ' c
  ok : okHp h'
theorem Grew.trans {h h1 h2 : Hp} {ρ ρ1 ρ2 : Rho} (a : Grew h h1 ρ ρ1) (b : Grew h1 h2 ρ1 ρ2) : Grew h h2 ρ ρ2 :=
  ⟨fun c k => b.dom c (a.dom c k), fun c k => (a.ext c k).trans (b.ext c (a.dom c k)), b.ok⟩
theorem Grew.refl {h : Hp} {ρ : Rho} (ok : okHp h) : Grew h h ρ ρ := ⟨fun _ k => k, fun _ _ => rfl, ok⟩
def bind1 (ρ : Rho) (id : Nat) (l : Loc) : Rho := fun c => if c = id then l else ρ c

section
variable {P : Program} {T : TT P} {E : EqT} {G : GT} {M : Heap} {ρ : Rho} {h h' : Hp} {F : List HP} {w w' : World}

theorem Sat.newA {L : List HP} {o : Obj} {A : HP} (s : Sat M L w) (hw : w'.heap = w.heap.push o) (hA : ∀ g : Heap, g w.heap.size = some o → A g) : Sat M (A :: L) w' :=
  (s.new o hw).ent (Ent.head hA)
theorem new_ok {id : Nat} {so : SO} {o : Obj} {loc : Loc} (s : Sat M (objs ρ h ++ F) w) (ok : okHp h) (e : hnew h id so = some h') (hko : okO (dom h') so) (hw : w'.heap = w.heap.push o)
    (hA : ∀ g : Heap, g w.heap.size = some o → objP (bind1 ρ id loc) id so g) : Sat M (objs (bind1 ρ id loc) h' ++ F) w' ∧ Grew h h' ρ (bind1 ρ id loc) := by
  obtain ⟨hn, hc, rfl⟩ := hnew_spec e
  have hext : ∀ c, dom h c → ρ c = bind1 ρ id loc c := fun c hd => by
    unfold bind1
    rw [if_neg]
    rintro rfl
    exact hd hn
  refine ⟨?_, ⟨fun c k => dom_set k, hext, okHp_set ok hc hko⟩⟩
  have s1 : Sat M (objP (bind1 ρ id loc) id so :: (objs ρ h ++ F)) w' := s.newA hw hA
  rw [objs_okHp ok hext] at s1
  exact s1.perm ((objs_new (bind1 ρ id loc) 12 h id id so (p12 hc) hn).symm.append_right F)
theorem new_dom {id : Nat} {so : SO} (e : hnew h id so = some h') : dom h' id ∧ ∀ c, dom h c → dom h' c := by
  obtain ⟨hn, hc, rfl⟩ := hnew_spec e
  exact ⟨dom_self hc, fun c k => dom_set k⟩
/-- A new row of cells. -/
theorem new_cells {id el : Nat} {l : List SV} {opn : Option (Nat × Nat)} {fz cap : Nat} {z : Nat × Nat} {post : List Value} (s : Sat M (objs ρ h ++ F) w) (ok : okHp h) (e : hnew h id (.cells el l opn fz) = some h') (hl : okVs (dom h) l)
    (hw : w'.heap = w.heap.push (.cells (dens ρ l ++ post).toArray el z)) (hz : z.1 = z.2 ∨ z.2 ≤ fz)
    (hop : ∀ sz lw, opn = some (sz, lw) → Nat.max cap lw * sz ≤ l.length + post.length) (hpost : opn = none → post = [] := by simp) :
    Sat M (objs (bind1 ρ id ⟨w.heap.size, 0, cap⟩) h' ++ F) w' ∧ Grew h h' ρ (bind1 ρ id ⟨w.heap.size, 0, cap⟩) := by
  have hd := new_dom e
  refine new_ok s ok e (okVs_up hd.2 l hl) hw fun g hg => ?_
  have hb : (bind1 ρ id ⟨w.heap.size, 0, cap⟩) id = ⟨w.heap.size, 0, cap⟩ := by simp [bind1]
  obtain ⟨hn, hc, rfl⟩ := hnew_spec e
  have hext : ∀ c, dom h c → ρ c = bind1 ρ id ⟨w.heap.size, 0, cap⟩ c := fun c hq => by
    unfold bind1
    rw [if_neg]
    intro q
    subst q
    exact hq hn
  refine ⟨[], post, z, ?_, ?_, ?_, ?_⟩
  · rw [hb, ← dens_congr hext l hl]; simpa using hg
  · rw [hb]; rfl
  · rw [hb]; rcases hz with q | q
    · exact .inl q
    · exact .inr (by simpa using q)
  · cases opn with
    | none => rw [hpost rfl]; exact ⟨by simp, by rw [hb]⟩
    | some x => simp only [opnOk, room, hb]; exact hop x.1 x.2 rfl

/-! ### Writing -/
theorem store_blk {b : Nat} {t : TypeId} {z : Nat × Nat} : ∀ {vs L : List Value} {q : Nat} {w : World}, vs.all plain = true → w.heap[b]? = some (.cells L.toArray t z) → q + vs.length ≤ L.length →
    (∀ j, q ≤ j → j < q + vs.length → ¬ (z.1 ≤ j ∧ j < z.2)) → ∀ i q0, q = q0 + i → ∃ w', (storeCells ⟨b, q0, none⟩ vs i).run P w = .ok () w' ∧ Env w w' ∧ ∀ x, w'.heap[x]? = if x = b then some (.cells (setAll L q vs).toArray t z) else w.heap[x]?
  | [], L, q, w, _, hb, _, _, i, q0, _ => ⟨w, rfl, .refl w, fun x => by by_cases hx : x = b <;> simp [hx, setAll, hb]⟩
  | v :: vs, L, q, w, hv, hb, hl, hz, i, q0, hq => by
    simp only [List.all_cons, Bool.and_eq_true] at hv
    simp only [List.length_cons] at hl hz
    have h1 : w.cell? ⟨b, q, none⟩ = some L[q] := by rw [cell_of_block hb, List.getElem?_eq_getElem (by omega)]
    have h2 : w.frozen? ⟨b, q, none⟩ = false := by
      have := hz q (Nat.le_refl _) (by omega)
      simp only [World.frozen?, hb]
      obtain ⟨z1, z2⟩ := z
      simp only [Bool.and_eq_false_iff, decide_eq_false_iff_not]
      simp only at this
      omega
    have r : (store ⟨b, q, none⟩ v).run P w = .ok () (w.setCell ⟨b, q, none⟩ v) := by
      cases v <;> first | (simp [plain] at hv; done) | simp [store, Sem.run, h1, h2]
    have hh : ∀ x, (w.setCell ⟨b, q, none⟩ v).heap[x]? = if x = b then some (.cells (L.set q v).toArray t z) else w.heap[x]? := fun x => by
      simp only [World.setCell, Array.getElem?_modify]
      by_cases hx : x = b
      · subst hx; simp [hb]
      · have : ¬ b = x := fun h => hx h.symm
        simp [hx, this]
    have hb' : (w.setCell ⟨b, q, none⟩ v).heap[b]? = some (.cells (L.set q v).toArray t z) := by rw [hh]; simp
    obtain ⟨w', r', e', k'⟩ := store_blk (q := q + 1) hv.2 hb' (by simp; omega) (fun j h1 h2 => hz j (by omega) (by omega)) (i + 1) q0 (by omega)
    refine ⟨w', ?_, Env.trans (b := w.setCell ⟨b, q, none⟩ v) ⟨rfl, rfl, rfl, ?_⟩ e', fun x => ?_⟩
    · simp only [storeCells, Sem.run_bind, add_none, ← hq, r, Result.andThen_ok]; exact r'
    · simp [World.setCell, Array.size_modify]
    · rw [k']
      by_cases hx : x = b
      · simp [hx, setAll]
      · simp [hx, hh]
theorem plain_den {x : SV} (e : scalar x = true) : plain (den ρ x) = true := by
  cases x with
  | v x => cases x <;> first | rfl | (simp [scalar] at e)
  | a l => simp [scalar] at e
  | t l => simp [scalar] at e
  | _ => rfl
theorem plain_dens {l : List SV} (e : l.all scalar = true) : (dens ρ l).all plain = true := by
  rw [dens_map, List.all_map]
  rw [List.all_eq_true] at e ⊢
  exact fun x hx => plain_den (e x hx)

/-- Cells of an object are written, perhaps into what is behind those that are known. -/
theorem store_obj {c el fz o : Nat} {l vs : List SV} {opn : Option (Nat × Nat)} (s : Sat M (objs ρ h ++ F) w) (ok : okHp h) (hg : hget h c = some (.cells el l opn fz)) (hvs : vs.all scalar = true) (hk : okVs (dom h) vs) (hfz : fz ≤ o) (ho : o ≤ l.length)
    (hroom : ∀ n, opnOk ρ c l.length (l.length + n) opn → o + vs.length ≤ l.length + n) :
    ∃ w', (storeCells ⟨(ρ c).b, (ρ c).o + o, none⟩ (dens ρ vs)).run P w = .ok () w' ∧ Env w w' ∧ Sat M (objs ρ (hset h c (.cells el (l.take o ++ vs ++ l.drop (o + vs.length)) opn fz)) ++ F) w' ∧
      Grew h (hset h c (.cells el (l.take o ++ vs ++ l.drop (o + vs.length)) opn fz)) ρ ρ := by
  obtain ⟨pre, post, z, hb, hl, hz, hop⟩ := s.objAt hg
  have hr := hroom _ hop
  have hdl : (dens ρ l).length = l.length := dens_len ρ l
  have hdv : (dens ρ vs).length = vs.length := dens_len ρ vs
  obtain ⟨w', r, e, k⟩ := store_blk (P := P) (q := (ρ c).o + o) (plain_dens (ρ := ρ) hvs) hb (by simp only [List.length_append, hdl, hdv]; omega)
    (fun j h1 h2 => by rw [hdv] at h2; rcases hz with q | q <;> omega) 0 _ rfl
  have hc := (hget_spec hg).2
  have kl := okO_get ok hg
  refine ⟨w', r, e, ?_, ⟨fun c k => dom_set k, fun _ _ => rfl, okHp_set ok hc ?_⟩⟩
  · refine s.objSet hg (fun g hgg => ?_) k fun g hgg => ?_
    · obtain ⟨p1, p2, p3, p4, _⟩ := hgg; exact ⟨_, p4⟩
    · have hset : setAll (pre ++ dens ρ l ++ post) ((ρ c).o + o) (dens ρ vs) = pre ++ dens ρ (l.take o ++ vs ++ l.drop (o + vs.length)) ++ post.drop (o + vs.length - l.length) := by
        rw [setAll_eq (by simp only [List.length_append, hdl, hdv]; omega)]
        have h1 : (pre ++ dens ρ l ++ post).take ((ρ c).o + o) = pre ++ (dens ρ l).take o := by
          rw [List.append_assoc, ← hl, List.take_append]
          have : pre.length + o - pre.length = o := by omega
          rw [this, List.take_of_length_le (by omega), List.take_append_of_le_length (by omega)]
        have h2 : (pre ++ dens ρ l ++ post).drop ((ρ c).o + o + vs.length) = (dens ρ l).drop (o + vs.length) ++ post.drop (o + vs.length - l.length) := by
          rw [List.append_assoc, ← hl, List.drop_append]
          have : pre.length + o + vs.length - pre.length = o + vs.length := by omega
          rw [this, List.drop_eq_nil_of_le (by omega), List.nil_append, List.drop_append, hdl]
        rw [hdv, h1, h2]
        simp [dens_map, List.append_assoc]
      rw [hset] at hgg
      have hlen : (l.take o ++ vs ++ l.drop (o + vs.length)).length + (post.drop (o + vs.length - l.length)).length = l.length + post.length := by
        simp only [List.length_append, List.length_take, List.length_drop]; omega
      refine ⟨pre, post.drop (o + vs.length - l.length), z, hgg, hl, hz, ?_⟩
      rw [hlen]
      cases opn with
      | none =>
        obtain ⟨hp1, hp2⟩ := hop
        have : (l.take o ++ vs ++ l.drop (o + vs.length)).length = l.length := by
          simp only [List.length_append, List.length_take, List.length_drop]; omega
        exact ⟨by rw [this]; exact hp1, hp2⟩
      | some x => exact hop
  · show okVs _ _
    exact okVs_app (okVs_app (okVs_take _ (okVs_up (fun _ hd => dom_set hd) _ kl)) (okVs_up (fun _ hd => dom_set hd) _ hk)) (okVs_drop _ (okVs_up (fun _ hd => dom_set hd) _ kl))
end
end Go.Gv
