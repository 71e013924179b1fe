/- Slices: read for good (RS), owned (OS); index, slice expressions, append, make. -/
import Derived.Test.YtnennjhbajpbfaaGreatDoorGvF
namespace Go.Gv
set_option linter.unusedVariables false
set_option linter.unusedSimpArgs false
set_option linter.unusedSectionVars false

def maxI : Nat := 9223372036854775807

section
variable {α : Type} (enc : α → List Value) (k : Nat)
/-- Elements of k cells each. -/
def Flat : Prop := ∀ x, (enc x).length = k
/-- v reads as xs for good. -/
def RS (M : Heap) (v : Value) (xs : List α) : Prop :=
  ∃ a cap, v = .slice a xs.length cap ∧ xs.length ≤ cap ∧ cap ≤ maxI ∧
    (xs = [] ∨ ∃ (b o : Nat) (l : List Value) (t : TypeId) (fz : Nat × Nat), a = some ⟨b, o, none⟩ ∧ M b = some (.cells l.toArray t fz) ∧ (l.drop o).take (xs.length * k) = xs.flatMap enc)
/-- v is a slice of one's own that holds xs. -/
def OS (v : Value) (xs : List α) : HP := fun h =>
  ∃ a cap, v = .slice a xs.length cap ∧ xs.length ≤ cap ∧ cap ≤ maxI ∧
    ((a = none ∧ cap = 0) ∨ ∃ (b o : Nat) (l : List Value) (t : TypeId), a = some ⟨b, o, none⟩ ∧ h b = some (.cells l.toArray t (0, 0)) ∧ o + cap * k ≤ l.length ∧ (l.drop o).take (xs.length * k) = xs.flatMap enc)
end

section
variable {α : Type} {enc : α → List Value} {kk : Nat} {M : Heap} {v : Value} {xs : List α}
theorem RS.nil {c : Nat} (hc : c ≤ maxI) {a : Option Go.Addr} : RS enc kk M (.slice a 0 c) ([] : List α) := ⟨a, c, rfl, Nat.zero_le _, hc, .inl rfl⟩
theorem OS.nil (h : Heap) : OS enc kk (.slice none 0 0) ([] : List α) h := ⟨none, 0, rfl, Nat.le_refl _, Nat.zero_le _, .inl ⟨rfl, rfl⟩⟩
theorem RS.of_ro (r : Ro M (OS enc kk v xs)) : RS enc kk M v xs := by
  obtain ⟨h, hs, a, cap, rfl, h1, h2, h3⟩ := r
  refine ⟨a, cap, rfl, h1, h2, ?_⟩
  rcases h3 with ⟨rfl, rfl⟩ | ⟨b, o, l, t, rfl, hb, h4, h5⟩
  · left; exact List.eq_nil_of_length_eq_zero (by omega)
  · right; exact ⟨b, o, l, t, _, rfl, hs _ _ hb, h5⟩
theorem RS.up {M' : Heap} (r : RS enc kk M v xs) (h : Hsub M M') : RS enc kk M' v xs := by
  obtain ⟨a, cap, rfl, h1, h2, h3⟩ := r
  refine ⟨a, cap, rfl, h1, h2, ?_⟩
  rcases h3 with rfl | ⟨b, o, l, t, fz, rfl, hb, h5⟩
  · exact .inl rfl
  · exact .inr ⟨b, o, l, t, fz, rfl, h _ _ hb, h5⟩
theorem OS.len {h : Heap} (r : OS enc kk v xs h) : xs.length ≤ maxI := by
  obtain ⟨a, cap, rfl, h1, h2, h3⟩ := r; omega
theorem RS.len (r : RS enc kk M v xs) : xs.length ≤ maxI := by
  obtain ⟨a, cap, rfl, h1, h2, h3⟩ := r; omega

theorem flat_len (hf : Flat enc kk) : ∀ (xs : List α), (xs.flatMap enc).length = xs.length * kk
  | [] => by simp
  | x :: xs => by simp [List.flatMap_cons, hf x, flat_len hf xs, Nat.succ_mul, Nat.add_comm]
theorem flat_get (hf : Flat enc kk) : ∀ {xs : List α} {i j : Nat} {x : α}, xs[i]? = some x → j < kk → (xs.flatMap enc)[i * kk + j]? = (enc x)[j]?
  | [], i, j, x, h, _ => by simp at h
  | y :: ys, 0, j, x, h, hj => by
    simp at h; subst h
    rw [List.flatMap_cons, List.getElem?_append_left (by rw [hf]; omega)]
    simp
  | y :: ys, i + 1, j, x, h, hj => by
    rw [List.flatMap_cons, List.getElem?_append_right (by rw [hf, Nat.succ_mul]; omega)]
    have : (i + 1) * kk + j - (enc y).length = i * kk + j := by rw [hf, Nat.succ_mul]; omega
    rw [this]
    exact flat_get hf (by simpa using h) hj
/-- A cell of an element. -/
theorem cells_get (hf : Flat enc kk) {l : List Value} {o i j : Nat} {x : α} (h : (l.drop o).take (xs.length * kk) = xs.flatMap enc) (hx : xs[i]? = some x) (hj : j < kk) : l[o + i * kk + j]? = (enc x)[j]? := by
  have h1 := flat_get hf hx hj
  rw [← h] at h1
  have hi : i < xs.length := (List.getElem?_eq_some_iff.1 hx).1
  have h2 : i * kk + j < xs.length * kk := by
    have : (i + 1) * kk ≤ xs.length * kk := Nat.mul_le_mul_right kk hi
    rw [Nat.succ_mul] at this; omega
  rw [List.getElem?_take_of_lt h2, List.getElem?_drop] at h1
  rw [← h1]; congr 1; omega
end

/-! ### The operations -/
/-- The element's type of a slice's type, its cells, its bytes. -/
def elemT {P : Program} (T : TT P) (t : Nat) : Option (Nat × Nat × Nat) := match T.get t with
  | some ti => match ti.desc with
    | .slice el => match T.get el with
      | some te => some (el, te.size, te.info.bytes)
      | none => none
    | _ => none
  | none => none

section
variable {P : Program} {M : Heap} {N : Nat} {e : TEnv} {L L' F : List HP} {Q : Exit → TEnv → List HP → Prop} {T : TT P} {k : List It} {w : World}
variable {arr : Array Oper} {dst : Option Nat} {ty : TypeId} {pos : String} {aft : Array Edge} {l : List Oper}

theorem elemT_spec {t el sz by_ : Nat} (h : elemT T t = some (el, sz, by_)) : (∀ w, (underlying t).run P w = .ok (.slice el) w) ∧ (∀ w, (sizeOf el).run P w = .ok sz w) ∧ ∃ te : TI P, te.info.bytes = by_ ∧ te.size = sz ∧ (∀ w, (typeInfo el).run P w = .ok te.info w) ∧ ∀ w, (zeroValue el).run P w = .ok te.zero w := by
  unfold elemT at h
  split at h
  · rename_i ti hti
    split at h
    · rename_i el' hd
      split at h
      · rename_i te hte
        cases h
        exact ⟨fun w => by rw [run_und hti, hd], TT.siz hte, te, rfl, rfl, TT.inf hte, TT.zer hte⟩
      · cases h
    · cases h
  · cases h

/-- An element's address. -/
theorem gI {t el sz by_ n c b o : Nat} {kd : IntKind} {i : Int} {x ix : Operand} (T : TT P) (ht : elemT T t = some (el, sz, by_)) (hx : ev N e x = .slice (some ⟨b, o, none⟩) n c) (hi : ev N e ix = .int kd i) (h0 : 0 ≤ i) (h1 : i < n)
    (H : Exec P M N (.ops arr l :: k) (upd e dst (.pointer (some ⟨b, o + i.toNat * sz, none⟩))) L Q) : Exec P M N (.ops arr (⟨dst, .indexAddr t x ix, ty, pos, aft, none⟩ :: l) :: k) e L Q := by
  refine Exec.op (opT.of_value (SemT.still (a := .pointer (some ⟨b, o + i.toNat * sz, none⟩)) (fun F w s => ⟨w, ?_, rfl, .refl w⟩) H))
  obtain ⟨h2, h3, _⟩ := elemT_spec ht
  simp only [hx, hi, Instr.indexAt, asIntOf, Sem.run_bind, Sem.run_pure, Result.andThen_ok, h2, h0, h1, and_self, if_true, h3, add_none]
/-- A byte of a string. -/
theorem gIs {t : Nat} {kd : IntKind} {i : Int} {x ix : Operand} {s : ByteArray} (T : TT P) (ht : isStringT T t = true) (hx : ev N e x = .string s) (hi : ev N e ix = .int kd i) (h0 : 0 ≤ i) (h1 : i.toNat < s.size)
    (H : Exec P M N (.ops arr l :: k) (upd e dst (.int .u8 (s[i.toNat]'h1).toNat)) L Q) : Exec P M N (.ops arr (⟨dst, .index t x ix, ty, pos, aft, none⟩ :: l) :: k) e L Q := by
  refine Exec.op (opT.of_value (SemT.still (a := .int .u8 (s[i.toNat]'h1).toNat) (fun F w s' => ⟨w, ?_, rfl, .refl w⟩) H))
  have hu : ∀ w, (underlying t).run P w = .ok .string w := by
    unfold isStringT at ht
    split at ht
    · rename_i ti hti
      split at ht
      · rename_i hd; intro w; rw [run_und hti, hd]
      · cases ht
    · cases ht
  have : (if 0 ≤ i then s[i.toNat]? else none) = some (s[i.toNat]'h1) := by rw [if_pos h0]; exact getElem?_pos s i.toNat h1
  simp only [hx, hi, Instr.index, asIntOf, Sem.run_bind, Sem.run_pure, Result.andThen_ok, hu, this]

/-- Any operation on two operands whose value is shown by a law. -/
theorem gBin {op : BinOp} {t t2 : Nat} {x y : Operand} {v : Value} (h : ∀ w, (binOp op t (ev N e x) (ev N e y)).run P w = .ok v w) (hg : ∀ w, (eqGuard op t x y (ev N e x) (ev N e y)).run P w = .ok () w)
    (H : Exec P M N (.ops arr l :: k) (upd e dst v) L Q) : Exec P M N (.ops arr (⟨dst, .binOp op t x y t2, ty, pos, aft, none⟩ :: l) :: k) e L Q := by
  refine Exec.op ?_
  intro F w s
  have : (execOp (ev N e) ⟨dst, .binOp op t x y t2, ty, pos, aft, none⟩).run P w = .ok (.value v) w := by
    simp only [execOp, Sem.run_bind, hg w, h w, Result.andThen_ok]
    rfl
  rw [this]
  exact ⟨.refl w, L, s, H⟩
theorem gShr {t t2 : Nat} {kd kd2 : IntKind} {a b : Int} {x y : Operand} (hx : ev N e x = .int kd a) (hy : ev N e y = .int kd2 b) (h0 : 0 ≤ b)
    (H : Exec P M N (.ops arr l :: k) (upd e dst (.int kd (a.fdiv (2 ^ (min b.toNat kd.bits))))) L Q) : Exec P M N (.ops arr (⟨dst, .binOp .shr t x y t2, ty, pos, aft, none⟩ :: l) :: k) e L Q :=
  gBin (fun w => by rw [hx, hy]; simp only [binOp, Op.shift]; rw [if_neg (by omega)]; rfl) (fun w => by rw [hx, hy]; rfl) H

/-! ### Slice expressions -/
def subSlice (a : Option Go.Addr) (sz lo hi mx : Nat) : Value := .slice (if mx = lo then a else a.map (·.add (lo * sz))) (hi - lo) (mx - lo)
def optB (d : Nat) : Option Int → Nat
  | none => d
  | some i => i.toNat
theorem bound_run {v : Value} {kd : IntKind} {i : Int} {y : Nat} {c : BoundsCode} (hv : v = .int kd i) (h0 : 0 ≤ i) (h1 : i ≤ y) (w : World) : (Instr.sliceBound v y c).run P w = .ok i.toNat w := by
  subst hv
  simp [Instr.sliceBound, asIntOf, h0, h1]
/-- x[lo:hi:mx] of a slice; what is not written is none. -/
theorem gSl {t el sz by_ n c : Nat} {a : Option Go.Addr} {x : Operand} {lo hi mx : Option Operand} {il ih im : Option Int} (T : TT P) (ht : elemT T t = some (el, sz, by_)) (hx : ev N e x = .slice a n c)
    (hl : lo.map (ev N e) = il.map (Value.int .i64)) (hh : hi.map (ev N e) = ih.map (Value.int .i64)) (hm : mx.map (ev N e) = im.map (Value.int .i64)) (hmh : im.isSome = true → ih.isSome = true)
    (b0 : ∀ i, il = some i → 0 ≤ i) (b1 : optB 0 il ≤ optB n ih) (b2 : ∀ i, ih = some i → 0 ≤ i) (b3 : optB n ih ≤ optB c im) (b4 : ∀ i, im = some i → 0 ≤ i) (b5 : optB c im ≤ c)
    (H : Exec P M N (.ops arr l :: k) (upd e dst (subSlice a sz (optB 0 il) (optB n ih) (optB c im))) L Q) : Exec P M N (.ops arr (⟨dst, .slice t x lo hi mx, ty, pos, aft, none⟩ :: l) :: k) e L Q := by
  refine Exec.op (opT.of_value (SemT.still (a := subSlice a sz (optB 0 il) (optB n ih) (optB c im)) (fun F w s => ⟨w, ?_, rfl, .refl w⟩) H))
  obtain ⟨h2, h3, _⟩ := elemT_spec ht
  have hb : (Instr.sliceBounds true n c (il.map (Value.int .i64)) (ih.map (Value.int .i64)) (im.map (Value.int .i64))).run P w = .ok (optB 0 il, optB n ih, optB c im) w := by
    have toI : ∀ {i : Int} {m : Nat}, 0 ≤ i → i.toNat ≤ m → i ≤ m := fun h h' => by omega
    unfold Instr.sliceBounds
    cases im with
    | none =>
      cases ih with
      | none =>
        cases il with
        | none => simp [optB]
        | some i =>
          have := bound_run (P := P) (c := .sliceB) rfl (b0 i rfl) (toI (b0 i rfl) b1) w (kd := .i64)
          simp only [optB] at this
          simp [optB, this]
      | some j =>
        have hj := bound_run (P := P) (c := .sliceAcap) rfl (b2 j rfl) (toI (b2 j rfl) b3) w (kd := .i64)
        simp only [optB] at hj
        cases il with
        | none => simp [optB, hj]
        | some i =>
          have := bound_run (P := P) (c := .sliceB) rfl (b0 i rfl) (toI (b0 i rfl) b1) w (kd := .i64)
          simp only [optB] at this
          simp [optB, hj, this]
    | some m =>
      have hm := bound_run (P := P) (c := .slice3Acap) rfl (b4 m rfl) (toI (b4 m rfl) b5) w (kd := .i64)
      cases ih with
      | none => exact absurd (hmh rfl) (by simp)
      | some j =>
        have hj := bound_run (P := P) (c := .slice3B) rfl (b2 j rfl) (toI (b2 j rfl) b3) w (kd := .i64)
        simp only [optB] at hj
        cases il with
        | none => simp [optB, hm, hj]
        | some i =>
          have := bound_run (P := P) (c := .slice3C) rfl (b0 i rfl) (toI (b0 i rfl) b1) w (kd := .i64)
          simp only [optB] at this
          simp [optB, hm, hj, this]
  show (Instr.sliceAt t (ev N e x) (lo.map (ev N e)) (hi.map (ev N e)) (mx.map (ev N e))).run P w = _
  rw [hx, hl, hh, hm]
  simp only [Instr.sliceAt, Instr.slice, Sem.run_bind, h2, Result.andThen_ok, hb, h3, Sem.run_pure, subSlice]
/-- s[lo:hi] of a string. -/
theorem gSs {t : Nat} {s : ByteArray} {x : Operand} {lo hi : Option Operand} {il ih : Option Int} (T : TT P) (ht : isStringT T t = true) (hx : ev N e x = .string s)
    (hl : lo.map (ev N e) = il.map (Value.int .i64)) (hh : hi.map (ev N e) = ih.map (Value.int .i64)) (b0 : ∀ i, il = some i → 0 ≤ i) (b1 : optB 0 il ≤ optB s.size ih) (b2 : ∀ i, ih = some i → 0 ≤ i) (b3 : optB s.size ih ≤ s.size)
    (H : Exec P M N (.ops arr l :: k) (upd e dst (.string (s.extract (optB 0 il) (optB s.size ih)))) L Q) : Exec P M N (.ops arr (⟨dst, .slice t x lo hi none, ty, pos, aft, none⟩ :: l) :: k) e L Q := by
  refine Exec.op (opT.of_value (SemT.still (a := .string (s.extract (optB 0 il) (optB s.size ih))) (fun F w s' => ⟨w, ?_, rfl, .refl w⟩) H))
  have hu : ∀ w, (underlying t).run P w = .ok .string w := by
    unfold isStringT at ht
    split at ht
    · rename_i ti hti
      split at ht
      · rename_i hd; intro w; rw [run_und hti, hd]
      · cases ht
    · cases ht
  have hb : (Instr.sliceBounds false s.size s.size (il.map (Value.int .i64)) (ih.map (Value.int .i64)) none).run P w = .ok (optB 0 il, optB s.size ih, s.size) w := by
    have toI : ∀ {i : Int} {m : Nat}, 0 ≤ i → i.toNat ≤ m → i ≤ m := fun h h' => by omega
    unfold Instr.sliceBounds
    cases ih with
    | none =>
      cases il with
      | none => simp [optB]
      | some i =>
        have := bound_run (P := P) (c := .sliceB) rfl (b0 i rfl) (toI (b0 i rfl) b1) w (kd := .i64)
        simp only [optB] at this
        simp [optB, this]
    | some j =>
      have hj := bound_run (P := P) (c := .sliceAlen) rfl (b2 j rfl) (toI (b2 j rfl) b3) w (kd := .i64)
      cases il with
      | none => simp [optB, hj]
      | some i =>
        have := bound_run (P := P) (c := .sliceB) rfl (b0 i rfl) (toI (b0 i rfl) b1) w (kd := .i64)
        simp only [optB] at this
        simp [optB, hj, this]
  show (Instr.sliceAt t (ev N e x) (lo.map (ev N e)) (hi.map (ev N e)) (none : Option Value)).run P w = _
  rw [hx, hl, hh]
  simp only [Instr.sliceAt, Instr.slice, Sem.run_bind, hu, Result.andThen_ok, Option.isSome_none, Bool.false_eq_true, if_false, hb, Sem.run_pure]
end
end Go.Gv
