/- The machine's reads are the model's. -/
import Derived.Test.YtnennjhbajpbfaaGreatDoorGvX
import Derived.Test.YtnennjhbajpbfaaGreatDoorGvI
import Derived.Laws.StructEq
namespace Go.Gv
set_option linter.unusedVariables false
set_option linter.unusedSimpArgs false
set_option linter.unusedSectionVars false

def EOk (P : Program) (E : EqT) : Prop := ∀ t fs, E t = some fs → P.underlying t = some (.struct (P.fieldsOf t)) ∧ P.stoodInHeld t = false ∧ P.eqGuardType P.depth t = false ∧
  (P.fieldsOf t).toList.map (fun f => (f.type, f.offset)) = fs ∧ ∀ f ∈ (P.fieldsOf t).toList, f.name ≠ "_"
def GOk (M : Heap) (G : GT) : Prop := ∀ b l, G b = some l → ∃ t z, M b = some (.cells l.toArray t z)
def mkv (ρ : Rho) (E : EqT) (t : Nat) (xs : List SV) : Value := match E t with
  | some _ => .agg (dens ρ xs).toArray
  | none => (dens ρ xs).headD undef

theorem u8l_iff : ∀ {l k : List UInt8}, u8l l k = true ↔ l = k
  | [], [] => by simp [u8l]
  | [], _ :: _ => by simp [u8l]
  | _ :: _, [] => by simp [u8l]
  | a :: l, b :: k => by
    simp only [u8l]
    cases h : Nat.beq a.toNat b.toNat with
    | true =>
      have : a = b := UInt8.toNat_inj.1 (Nat.eq_of_beq_eq_true h)
      simp [this, u8l_iff (l := l) (k := k)]
    | false =>
      have : a ≠ b := fun e => by subst e; simp at h
      simp [this]
theorem u8l_eq {l k : List UInt8} : u8l l k = (l == k) := by
  rw [Bool.eq_iff_iff, u8l_iff]; simp
theorem ba_list (a : ByteArray) : a.toList = bsOf a := by simp [bsOf, ByteArray.toList_eq]
theorem i0_eq {a b : Int} : i0 a b = (a == b) := by
  unfold i0; rw [Bool.eq_iff_iff]; simp
theorem dens_cut (ρ : Rho) (xs : List SV) (o n : Nat) : dens ρ (cut xs o n) = ((dens ρ xs).drop o).take n := by
  simp [dens_map, cut]
theorem dens_len (ρ : Rho) (xs : List SV) : (dens ρ xs).length = xs.length := by simp [dens_map]

section
variable {P : Program} {T : TT P} {E : EqT} {G : GT} {M : Heap} {ρ : Rho} {h : Hp} {F : List HP} {w : World}

theorem agg_of {t : Nat} {ti : TI P} (ht : T.get t = some ti) : ti.agg = (match ti.desc with | .struct _ => true | .array _ _ => true | _ => false) := by
  have h1 := TT.isa ht default
  have h2 : (isAgg t).run P default = .ok (match ti.desc with | .struct _ => true | .array _ _ => true | _ => false) default := by
    simp only [isAgg, Sem.run_bind, run_und ht, Result.andThen_ok]
    cases ti.desc <;> rfl
  rw [h1] at h2
  injection h2
theorem und_eq {t : Nat} {ti : TI P} {d : TypeDesc} (ht : T.get t = some ti) (hu : P.underlying t = some d) : ti.desc = d := by
  have := TT.und ht
  rw [hu] at this
  cases this; rfl

theorem eqT_sound (hE : EOk P E) : ∀ (d : Nat), (∀ t xs ys b, eqT T E d t xs ys = some b → ∀ n, d ≤ n → ∀ w, (Op.equalIn n t (mkv ρ E t xs) (mkv ρ E t ys)).run P w = .ok b w) ∧
    (∀ (fs : List Field) xs ys b, eqFs T E d (fs.map fun f => (f.type, f.offset)) xs ys = some b → (∀ f ∈ fs, f.name ≠ "_") → ∀ n, d ≤ n → ∀ w, (Op.eqFields n (dens ρ xs).toArray (dens ρ ys).toArray fs).run P w = .ok b w) := by
  intro d
  induction d with
  | zero => exact ⟨fun t xs ys b e => by simp [eqT] at e, fun fs xs ys b e => by cases fs <;> simp [eqFs] at e⟩
  | succ d ih =>
    refine ⟨fun t xs ys b e n hn w => ?_, fun fs xs ys b e hf n hn w => ?_⟩
    · obtain ⟨m, rfl⟩ : ∃ m, n = m + 1 := ⟨n - 1, by omega⟩
      simp only [eqT] at e
      cases hEt : E t with
      | some fs =>
        rw [hEt] at e
        simp only at e
        obtain ⟨hu, hp, _, hfs, hnm⟩ := hE t fs hEt
        simp only [mkv, hEt]
        rw [run_equalIn_struct w m t _ _ hu hp]
        subst hfs
        exact ih.2 _ xs ys b e hnm m (by omega) w
      | none =>
        rw [hEt] at e
        simp only at e
        cases hT : T.get t with
        | none => rw [hT] at e; cases e
        | some ti =>
          rw [hT] at e
          simp only at e
          have hu := TT.und hT
          split at e
          · rename_i k k1 a k2 b' hd
            rw [hd] at hu
            cases hk : (k1 == k2) with
            | false => rw [hk] at e; cases e
            | true =>
              rw [hk] at e
              simp only [cond_true, Option.some.injEq] at e
              obtain rfl := beq_iff_eq.1 hk
              simp only [mkv, hEt, dens, den, List.headD_cons]
              rw [run_equalIn_int w m t k1 k a b' hu, ← e, i0_eq]
          · rename_i a b' hd
            rw [hd] at hu
            cases e
            simp only [mkv, hEt, dens, den, List.headD_cons]
            rw [run_equalIn_string w m t a b' hu, ba_list, ba_list, ← u8l_eq]
          · rename_i a b' hd
            rw [hd] at hu
            cases e
            simp only [mkv, hEt, dens, den, List.headD_cons]
            rw [run_equalIn_bool w m t a b' hu]
          · cases e
    · cases fs with
      | nil => simp [eqFs] at e; subst e; simp [Op.eqFields]
      | cons f fs =>
        simp only [List.map_cons, eqFs] at e
        cases hT : T.get f.type with
        | none => rw [hT] at e; cases e
        | some ti =>
          rw [hT] at e
          simp only at e
          have hpart : ∀ (zs us : List SV) (bb : Bool), eqT T E d f.type (cut zs f.offset ti.size) us = some bb ∨ eqT T E d f.type us (cut zs f.offset ti.size) = some bb → ∀ w, (part f.type (dens ρ zs).toArray f.offset).run P w = .ok (mkv ρ E f.type (cut zs f.offset ti.size)) w := by
            intro zs us bb hb w
            have ha := agg_of hT
            cases hEf : E f.type with
            | some fs' =>
              have hd := und_eq hT (hE f.type fs' hEf).1
              rw [hd] at ha
              have hag := TT.isa hT w
              rw [ha] at hag
              simp only [part, Sem.run_bind, hag, Result.andThen_ok, if_true, TT.siz hT w, Sem.run_pure, mkv, hEf, dens_cut]
              congr 2
              apply Array.ext'
              simp [Array.toList_extract, List.take_drop]
            | none =>
              cases d with
              | zero => rcases hb with hb | hb <;> simp [eqT] at hb
              | succ d' =>
                have key : ti.agg = false ∧ ∃ v, cut zs f.offset ti.size = [.v v] := by
                  rcases hb with hb | hb <;> simp only [eqT, hEf, hT] at hb <;> split at hb <;> first
                    | (cases hb; done)
                    | (rw [ha, ‹ti.desc = _›]; exact ⟨rfl, _, ‹cut zs f.offset ti.size = _›⟩)
                obtain ⟨hagf, v, hc⟩ := key
                have hag := TT.isa hT w
                rw [hagf] at hag
                have hget : (dens ρ zs)[f.offset]? = some v := by
                  have h1 : ((dens ρ zs).drop f.offset).take ti.size = [v] := by rw [← dens_cut, hc]; rfl
                  have h2 : (((dens ρ zs).drop f.offset).take ti.size)[0]? = some v := by rw [h1]; rfl
                  rw [List.getElem?_take] at h2
                  split at h2
                  · simpa using h2
                  · cases h2
                simp only [part, Sem.run_bind, hag, Result.andThen_ok, Bool.false_eq_true, if_false, mkv, hEf, hc, dens, den, List.headD_cons, List.getElem?_toArray, hget, Sem.run_pure]
          have hnm := hf f (by simp)
          cases hq : eqT T E d f.type (cut xs f.offset ti.size) (cut ys f.offset ti.size) with
          | none => rw [hq] at e; cases e
          | some bb =>
            rw [hq] at e
            have p1 := hpart xs _ bb (.inl hq) w
            have p2 := hpart ys _ bb (.inr hq) w
            have p3 := ih.1 _ _ _ _ hq n (by omega) w
            simp only [Op.eqFields, hnm, ne_eq, not_false_eq_true, if_true, Sem.run_bind, p1, p2, p3, Result.andThen_ok]
            cases bb with
            | false => cases e; simp
            | true =>
              simp only [Bool.not_true, Bool.false_eq_true, if_false]
              exact ih.2 fs xs ys b e (fun g hg => hf g (by simp [hg])) n (by omega) w
end
theorem getN_eq : ∀ (l : List SV) (n : Nat), getN l n = l[n]?
  | [], n => by simp [getN]
  | x :: l, 0 => by simp [getN]
  | x :: l, n + 1 => by simp [getN, getN_eq l n]
theorem takeN_eq : ∀ {n : Nat} {l r : List SV}, takeN n l = some r → r = l.take n ∧ n ≤ l.length
  | 0, l, r, e => by simp [takeN] at e; subst e; simp
  | n + 1, [], r, e => by simp [takeN] at e
  | n + 1, x :: l, r, e => by
    simp only [takeN] at e
    split at e
    · rename_i r' h; cases e; obtain ⟨rfl, h2⟩ := takeN_eq h; simp; omega
    · cases e
theorem dropN_eq : ∀ (n : Nat) (l : List SV), dropN n l = l.drop n
  | 0, l => by simp [dropN]
  | n + 1, [] => by simp [dropN]
  | n + 1, x :: l => by simp [dropN, dropN_eq n l]
theorem span_eq {l r : List SV} {o n : Nat} (e : span l o n = some r) : r = (l.drop o).take n ∧ n ≤ l.length - o := by
  unfold span at e
  rw [dropN_eq] at e
  obtain ⟨h1, h2⟩ := takeN_eq e
  simp at h2
  exact ⟨h1, h2⟩
theorem okVs_mem {D : Nat → Prop} {l : List SV} (k : okVs D l) {i : Nat} {x : SV} (e : l[i]? = some x) : okV D x :=
  okVs_iff.1 k x (List.mem_of_getElem? e)
theorem okVs_sub {D : Nat → Prop} {l r : List SV} (k : okVs D l) (h : ∀ x ∈ r, x ∈ l) : okVs D r := okVs_iff.2 fun x hx => okVs_iff.1 k x (h x hx)

section
variable {P : Program} {T : TT P} {E : EqT} {G : GT} {M : Heap} {ρ : Rho} {h : Hp} {F : List HP} {w : World}

theorem objCell {c el fz : Nat} {l : List SV} {opn : Option (Nat × Nat)} (ho : objP ρ c (.cells el l opn fz) (hp w)) {i : Nat} {y : SV} (hy : l[i]? = some y) : w.cell? ⟨(ρ c).b, (ρ c).o + i, none⟩ = some (den ρ y) := by
  obtain ⟨pre, post, z, hb, hl, _⟩ := ho
  rw [cell_of_block (f := z) hb, ← hl, List.append_assoc, List.getElem?_append_right (by omega)]
  have hi : i < l.length := (List.getElem?_eq_some_iff.1 hy).1
  rw [show pre.length + i - pre.length = i by omega, List.getElem?_append_left (by rw [dens_len]; exact hi), dens_map, List.getElem?_map, hy]
  rfl
theorem objSpan {c el fz : Nat} {l r : List SV} {opn : Option (Nat × Nat)} (ho : objP ρ c (.cells el l opn fz) (hp w)) {o n : Nat} (hy : span l o n = some r) :
    (loadCells ⟨(ρ c).b, (ρ c).o + o, none⟩ n).run P w = .ok (dens ρ r).toArray w := by
  obtain ⟨rfl, hn⟩ := span_eq hy
  unfold loadCells
  rw [loadCellsFrom_run (vs := dens ρ ((l.drop o).take n)) (by rw [dens_len]; simp; omega) (fun j hj => by
    rw [Nat.zero_add, add_none, Nat.add_assoc]
    have hj2 : o + j < l.length := by omega
    have := objCell ho (List.getElem?_eq_getElem hj2)
    rw [this, dens_map, List.getElem?_map, List.getElem?_take_of_lt hj, List.getElem?_drop, List.getElem?_eq_getElem hj2]; rfl)]
  simp

theorem loadS_sound {t n : Nat} {ag : Bool} {x y : SV} (hG : GOk M G) (ok : okHp h) (ht : aggT T t = some (ag, n)) (e : loadS G h x ag n = some y) :
    (∀ F w, Sat M (objs ρ h ++ F) w → ∃ a, den ρ x = .pointer (some a) ∧ (loadVar t a).run P w = .ok (den ρ y) w) ∧ okV (dom h) y := by
  unfold loadS at e
  split at e
  · rename_i c o
    split at e
    · rename_i el l opn fz hg
      have kl : okVs (dom h) l := okO_get ok hg
      cases ag with
      | true =>
        simp only [cond_true] at e
        split at e
        · rename_i k hk
          cases e
          refine ⟨fun F w s => ⟨_, rfl, ?_⟩, ?_⟩
          · have ho := s.objAt hg
            simp only [loadVar, Sem.run_bind, (aggT_isa ht).1 w, (aggT_isa ht).2 w, Result.andThen_ok, if_true, objSpan ho hk, Sem.run_pure, den]
          · obtain ⟨rfl, _⟩ := span_eq hk
            exact okVs_sub kl fun x hx => List.mem_of_mem_drop (List.mem_of_mem_take hx)
        · cases e
      | false =>
        simp only [cond_false] at e
        rw [getN_eq] at e
        refine ⟨fun F w s => ⟨_, rfl, ?_⟩, okVs_mem kl e⟩
        have ho := s.objAt hg
        have hl : (load ⟨(ρ c).b, (ρ c).o + o, none⟩).run P w = .ok (den ρ y) w := by simp [load, Sem.run, objCell ho e]
        simp only [loadVar, Sem.run_bind, (aggT_isa ht).1 w, Result.andThen_ok, Bool.false_eq_true, if_false, hl]
    · cases e
  · rename_i b o
    split at e
    · rename_i l hl
      obtain ⟨t', z, hM⟩ := hG b l hl
      cases ag with
      | true => cases e
      | false =>
        simp only [cond_false] at e
        split at e
        · rename_i v hv
          cases e
          refine ⟨fun F w s => ⟨_, rfl, ?_⟩, trivial⟩
          have hc : w.cell? ⟨b, o, none⟩ = some v := by
            have hb : w.heap[b]? = some (.cells l.toArray t' z) := s.imm _ _ hM
            rw [cell_of_block hb, hv]
          have hld : (load ⟨b, o, none⟩).run P w = .ok v w := by simp [load, Sem.run, hc]
          simp only [loadVar, Sem.run_bind, (aggT_isa ht).1 w, Result.andThen_ok, Bool.false_eq_true, if_false, hld, den]
        · cases e
    · cases e
  · cases e

/-- What an operation that reads has to show. -/
def PuOk (P : Program) (M : Heap) (ρ : Rho) (h : Hp) (r : Operand → SV) (op : Op) (x : SV) : Prop :=
  (∀ F w, Sat M (objs ρ h ++ F) w → ∀ dst ty pos aft gd, (execOp (fun y => den ρ (r y)) ⟨dst, op, ty, pos, aft, gd⟩).run P w = .ok (.value (den ρ x)) w) ∧ okV (dom h) x
theorem PuOk.pv {r : Operand → SV} {op : Op} {x : SV} (e : pv T op (fun y => den ρ (r y)) = some (den ρ x)) (k : okV (dom h) x) : PuOk P M ρ h r op x :=
  ⟨fun F w s dst ty pos aft gd => pv_sound e w, k⟩

variable {r : Operand → SV} (hr : ∀ y, okV (dom h) (r y))
include hr

theorem evP_load {t : Nat} {x : Operand} {y : SV} (hG : GOk M G) (ok : okHp h) (e : evP T E G h r (.load t x) = some y) : PuOk P M ρ h r (.load t x) y := by
  simp only [evP] at e
  split at e
  · rename_i ag n ht
    obtain ⟨h1, h2⟩ := loadS_sound (ρ := ρ) hG ok ht e
    refine ⟨fun F w s dst ty pos aft gd => ?_, h2⟩
    obtain ⟨a, ha, hl⟩ := h1 F w s
    have : execOp (fun y => den ρ (r y)) ⟨dst, .load t x, ty, pos, aft, gd⟩ = (do pure (.value (← Instr.loadAt t (den ρ (r x))))) := rfl
    rw [this, ha]
    simp only [Instr.loadAt, Instr.sureAddr, Sem.run_bind, Sem.run_pure, Result.andThen_ok, hl]
  · cases e

theorem evP_small {op : Op} {y : SV} (hop : match op with | .move _ | .assign _ | .pick _ _ _ | .nilCheck _ | .fieldAddr _ _ _ | .unOp _ _ _ | .extract _ _ | .makeFunc _ _ _ | .makeInterface _ _ => True | _ => False)
    (e : evP T E G h r op = some y) : PuOk P M ρ h r op y := by
  cases op <;> simp only at hop <;> simp only [evP] at e
  case move x => cases e; exact ⟨fun _ _ _ _ _ _ _ _ => rfl, hr x⟩
  case assign x => cases e; exact ⟨fun _ _ _ _ _ _ _ _ => rfl, hr x⟩
  case pick c a b =>
    split at e
    · rename_i t hc
      cases e
      refine ⟨fun F w s dst ty pos aft gd => ?_, ?_⟩
      · cases t <;> simp [execOp, asBool, hc, den]
      · cases t
        · exact hr b
        · exact hr a
    · cases e
  case nilCheck x =>
    cases hb : ptrSome (r x) with
    | false => rw [hb] at e; cases e
    | true =>
      rw [hb] at e
      cases e
      refine ⟨fun F w s dst ty pos aft gd => ?_, hr x⟩
      unfold ptrSome at hb
      split at hb <;> first
        | (cases hb; done)
        | (rename_i hx; simp [execOp, hx, den])
  case fieldAddr s x f =>
    split at e
    · rename_i k hk
      split at e
      · rename_i c o hx
        cases e
        refine PuOk.pv (T := T) ?_ (by have := hr x; rw [hx] at this; exact this)
        simp only [pv, hx, den, hk]
        cases k <;> simp [Addr.plus, Nat.add_assoc]
      · rename_i b o hx
        cases e
        refine PuOk.pv (T := T) ?_ trivial
        simp only [pv, hx, den, hk]
        cases k <;> simp [Addr.plus]
      · cases e
    · cases e
  case unOp op t x =>
    unfold unS at e
    split at e
    · rename_i hx
      cases e
      exact ⟨fun F w s dst ty pos aft gd => by simp [execOp, hx, den, Op.unary], trivial⟩
    · rename_i hx
      cases e
      exact ⟨fun F w s dst ty pos aft gd => by simp [execOp, hx, den, Op.unary, Op.intArith], trivial⟩
    · rename_i hx
      cases e
      exact ⟨fun F w s dst ty pos aft gd => by simp [execOp, hx, den, Op.unary, Op.intBits], trivial⟩
    · cases e
  case extract x i =>
    split at e
    · rename_i vs hx
      rw [getN_eq] at e
      have hk := hr x
      rw [hx] at hk
      refine ⟨fun F w s dst ty pos aft gd => ?_, okVs_mem hk e⟩
      have : (dens ρ vs)[i]? = some (den ρ y) := by rw [dens_map, List.getElem?_map, e]; rfl
      simp only [execOp, hx, den, Instr.extract, List.getElem?_toArray, this, Sem.run_bind, Sem.run_pure, Result.andThen_ok]
    · cases e
  case makeFunc fn a b =>
    cases e
    refine ⟨fun F w s dst ty pos aft gd => ?_, ?_⟩
    · have h1 : ∀ a : Array Operand, (a.map fun y => den ρ (r y)) = (dens ρ (a.toList.map r)).toArray := fun a => by
        apply Array.ext'; simp [dens_map]
      simp [execOp, Instr.makeFunc, den, h1]
    · exact ⟨okVs_iff.2 fun x hx => by obtain ⟨y, _, rfl⟩ := List.mem_map.1 hx; exact hr y, okVs_iff.2 fun x hx => by obtain ⟨y, _, rfl⟩ := List.mem_map.1 hx; exact hr y⟩
  case makeInterface t x =>
    split at e
    · rename_i ti hti
      split at e
      · cases e
      · rename_i hne
        cases e
        refine ⟨fun F w s dst ty pos aft gd => ?_, hr x⟩
        simp only [execOp, Instr.makeInterface, Sem.run_bind, run_und hti, Result.andThen_ok, den]
        cases hd : ti.desc <;> first | (exact absurd hd (hne _)) | simp
    · cases e
end
end Go.Gv
