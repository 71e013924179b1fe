/- append; make; slices and structs written out. -/
import Derived.Test.YtnennjhbajpbfaaGreatDoorGvH
namespace Go.Gv
set_option linter.unusedVariables false
set_option linter.unusedSimpArgs false
set_option linter.unusedSectionVars false

theorem setAll_eq : ∀ {vs l : List Value} {p : Nat}, p + vs.length ≤ l.length → setAll l p vs = l.take p ++ vs ++ l.drop (p + vs.length)
  | [], l, p, h => by simp [setAll]
  | v :: vs, l, p, h => by
    simp only [List.length_cons] at h
    rw [setAll, setAll_eq (by simp; omega)]
    have h1 : (l.set p v).take (p + 1) = l.take p ++ [v] := by
      rw [List.take_set, List.take_succ_eq_append_getElem (by omega)]
      rw [List.set_append_right _ _ (by simp; omega)]
      simp [Nat.min_eq_left (show p ≤ l.length by omega)]
    have h2 : (l.set p v).drop (p + 1 + vs.length) = l.drop (p + (vs.length + 1)) := by
      rw [List.drop_set_of_lt (by omega)]; congr 1; omega
    rw [h1, h2]; simp
theorem take_setAll {vs l xs : List Value} {o m : Nat} (h : o + m + vs.length ≤ l.length) (hx : (l.drop o).take m = xs) : ((setAll l (o + m) vs).drop o).take (m + vs.length) = xs ++ vs := by
  rw [setAll_eq h]
  have h1 : (l.take (o + m)).drop o = xs := by rw [← hx, List.drop_take]; congr 1; omega
  have h2 : (l.take (o + m)).length = o + m := by simp; omega
  rw [List.append_assoc, List.drop_append_of_le_length (by omega), h1, ← List.append_assoc, List.take_append_of_le_length]
  · apply List.take_of_length_le
    simp [← hx]; omega
  · have : xs.length = m := by rw [← hx]; simp; omega
    simp [this]

section
variable {α : Type} {enc : α → List Value} {kk : Nat}
variable {P : Program} {M : Heap} {N : Nat} {e : TEnv} {L L' F : List HP} {Q : Exit → TEnv → List HP → Prop} {T : TT P} {k : List It} {w : World}
variable {arr : Array Oper} {dst : Option Nat} {ty : TypeId} {pos : String} {aft : Array Edge} {l : List Oper}

/-- What is appended, as cells. -/
def SrcOk (M : Heap) (L : List HP) (sz : Nat) (x : Value) (n : Nat) (cs : List Value) : Prop :=
  (∃ a c, x = .slice (some a) n c ∧ cs.length = n * sz ∧ LdN M L a cs) ∨ (n = 0 ∧ cs = [] ∧ ∃ c, x = .slice none 0 c) ∨ (∃ s : ByteArray, x = .string s ∧ n = s.size ∧ cs = s.data.toList.map fun b => .int .u8 b.toNat)

theorem firstCells_run {sz n : Nat} {x : Value} {cs : List Value} (h : SrcOk M L sz x n cs) (s : Sat M L w) : (Builtin.firstCells sz n x).run P w = .ok cs.toArray w ∧ (Builtin.lenOf x).run P w = .ok n w := by
  rcases h with ⟨a, c, rfl, hl, hld⟩ | ⟨rfl, rfl, c, rfl⟩ | ⟨b, rfl, rfl, rfl⟩
  · refine ⟨?_, rfl⟩
    show (loadCells a (n * sz)).run P w = _
    unfold loadCells
    rw [loadCellsFrom_run hl (fun j hj => by rw [Nat.zero_add]; exact hld w s j (by omega))]
    simp
  · exact ⟨rfl, rfl⟩
  · refine ⟨?_, rfl⟩
    simp only [Builtin.firstCells, Sem.run_pure]
    congr 1
    have : b.extract 0 b.size = b := by simp
    rw [this]
    apply Array.ext'
    simp

def notIntT (T : TT P) (t : Nat) : Bool := match T.get t with
  | some ti => match ti.desc with
    | .slice _ | .string => true
    | _ => false
  | none => false
theorem notIntT_spec {t : Nat} (h : notIntT T t = true) : (∀ w, (underlying t).run P w = .ok .string w) ∨ ∃ el, ∀ w, (underlying t).run P w = .ok (.slice el) w := by
  unfold notIntT at h
  split at h
  · rename_i ti hti
    split at h
    · rename_i hd; exact .inr ⟨_, fun w => by rw [run_und hti, hd]⟩
    · rename_i hd; exact .inl fun w => by rw [run_und hti, hd]
    · cases h
  · cases h

theorem growBy_le : ∀ (r c n : Nat), c < n → Builtin.growBy n r c ≤ 2 * n + 768
  | 0, c, n, h => by simp [Builtin.growBy]; omega
  | r + 1, c, n, h => by
    simp only [Builtin.growBy]
    split
    · omega
    · by_cases h2 : c + (c + 768) / 4 < n
      · exact growBy_le r _ n h2
      · have : Builtin.growBy n r (c + (c + 768) / 4) = c + (c + 768) / 4 := by
          cases r with
          | zero => rfl
          | succ r => simp only [Builtin.growBy]; rw [if_pos (by omega)]
        rw [this]; omega
theorem nextcap_le {need cap : Nat} (h : cap < need) : Builtin.nextslicecap need cap ≤ 2 * need + 768 := by
  unfold Builtin.nextslicecap
  split
  · omega
  · split
    · omega
    · exact growBy_le 4 cap need h

theorem append_run {t0 t1 el by_ : Nat} {s x : Value} {xs ys : List α} {z : List Value} (ht : elemT T t0 = some (el, kk, by_)) (h1 : notIntT T t1 = true) (hz : zeroT T el = some z) (hzl : z.length = kk) (hby : by_ ≤ 1024)
    (hf : Flat enc kk) (hp : ∀ y, (enc y).all plain = true) (hsrc : SrcOk M (OS enc kk s xs :: L) kk x ys.length (ys.flatMap enc)) (hn : xs.length + ys.length ≤ 4294967296) {K : Value → List HP → Prop} (hk : ∀ v, K v (OS enc kk v (xs ++ ys) :: L)) :
    SemT P M (Builtin.append_ #[t0, t1] ty #[s, x]) (OS enc kk s xs :: L) K := by
  intro F w sat
  obtain ⟨hsrc1, hsrc2⟩ := firstCells_run (P := P) hsrc sat.app_left
  obtain ⟨hu, hs, te, hb1, hb2, hinf, hzer⟩ := elemT_spec ht
  obtain ⟨z', hz1, hz2⟩ := zeroT_run hz
  -- the owned slice
  obtain ⟨a, cap, hs0, hlen, hcap, hcase⟩ : ∃ a cap, s = .slice a xs.length cap ∧ xs.length ≤ cap ∧ cap ≤ maxI ∧ ((a = none ∧ cap = 0 ∧ Sat M (L ++ F) w) ∨ ∃ (b o : Nat) (l : List Value), a = some ⟨b, o, none⟩ ∧ Sat M (blk b l :: (L ++ F)) w ∧ o + cap * kk ≤ l.length ∧ (l.drop o).take (xs.length * kk) = xs.flatMap enc) := by
    obtain ⟨hM, h, hs', hd', g1, g2, dd, s1, s2, ⟨a, cap, e1, e2, e3, e4⟩, rest⟩ := sat
    refine ⟨a, cap, e1, e2, e3, ?_⟩
    rcases e4 with ⟨rfl, rfl⟩ | ⟨b, o, l, t, rfl, hb, e5, e6⟩
    · exact .inl ⟨rfl, rfl, hM, h, hs', hd', stars_up rest s2⟩
    · exact .inr ⟨b, o, l, rfl, ⟨hM, h, hs', hd', g1, g2, dd, s1, s2, ⟨t, hb⟩, rest⟩, e5, e6⟩
  subst hs0
  have hold : ∀ w2 : World, w2.heap = w.heap → (Builtin.firstCells kk xs.length (.slice a xs.length cap)).run P w2 = .ok (xs.flatMap enc).toArray w2 := by
    intro w2 hw2
    rcases hcase with ⟨rfl, rfl, _⟩ | ⟨b, o, l, rfl, hsat, h5, h6⟩
    · have : xs = [] := List.eq_nil_of_length_eq_zero (by omega)
      subst this; rfl
    · show (loadCells ⟨b, o, none⟩ (xs.length * kk)).run P w2 = _
      unfold loadCells
      have hl : (xs.flatMap enc).length = xs.length * kk := flat_len hf xs
      have hle : xs.length * kk ≤ cap * kk := Nat.mul_le_mul_right kk hlen
      rw [loadCellsFrom_run hl (fun j hj => by rw [Nat.zero_add]; exact (LdN.head (L := L ++ F) h6 (by omega)) w2 (hsat.same hw2) j (by omega))]
      simp
  have hzc : z'.cells.size = kk := by rw [← hzl, ← hz1]; simp
  -- the common beginning
  have hbig : ¬ (((xs.length + ys.length : Nat) : Int) > IntKind.i64.max) := by simp [IntKind.max, IntKind.signed, IntKind.bits]; omega
  have hy : (ys.flatMap enc).length = ys.length * kk := flat_len hf ys
  have hx : (xs.flatMap enc).length = xs.length * kk := flat_len hf xs
  have fin : ∀ (f : Bool), f = false → ∃ a_1 w' L', (do
      let appended : Sem (Array Value) := if !f then Builtin.firstCells kk ys.length x else if ys.length * kk = 0 then pure #[] else do pure (Builtin.zeroCells (← zeroValue el).cells ys.length)
      let need := xs.length + ys.length
      if need ≤ cap then do
        let new ← appended
        if let some a := a then storeCells (a.add (xs.length * kk)) new.toList
        pure (.slice a need cap)
      else do
        if (need : Int) > IntKind.i64.max ∧ (f ∨ (← typeInfo el).bytes = 0) then runtimePanic (.error "growslice: len out of range")
        if Builtin.nextslicecap need cap * (← typeInfo el).bytes > 2 ^ 48 then (if f then runtimePanic (.error "growslice: len out of range") else do
          if !(← Builtin.mayShare kk xs.length ys.length a x) then mark .noRoom
          unsupported (.resourceLimit "append: a slice or a string whose bytes no memory bears"))
        let newCap ← choose (.appendCap need cap el)
        askRoom (newCap * (← typeInfo el).bytes)
        let old ← Builtin.firstCells kk xs.length (.slice a xs.length cap)
        let new ← appended
        let rest := Builtin.zeroCells (← zeroValue el).cells (newCap - need)
        pure (.slice (some (← newRow el (old ++ new ++ rest))) need newCap) : Sem Value).run P w = .ok a_1 w' ∧ Env w w' ∧ Sat M (L' ++ F) w' ∧ K a_1 L' := by
    rintro f rfl
    simp only [Bool.not_false, if_true]
    by_cases hfit : xs.length + ys.length ≤ cap
    · -- in place
      rw [if_pos hfit]
      rcases hcase with ⟨rfl, rfl, hsat⟩ | ⟨b, o, l, rfl, hsat, h5, h6⟩
      · have e1 : xs = [] := List.eq_nil_of_length_eq_zero (by omega)
        have e2 : ys = [] := List.eq_nil_of_length_eq_zero (by omega)
        subst e1; subst e2
        refine ⟨_, w, _, ?_, .refl w, ?_, hk (.slice none 0 0)⟩
        · simp only [Sem.run_bind, hsrc1, Result.andThen_ok, Sem.run_pure]; rfl
        · obtain ⟨hM, h, a1, a2, a3⟩ := hsat
          exact ⟨hM, h, a1, a2, fun _ => none, h, (fun _ => .inl rfl), (fun _ _ e => by cases e), .refl _, OS.nil _, a3⟩
      · have hle : (xs.length + ys.length) * kk ≤ cap * kk := Nat.mul_le_mul_right kk hfit
        rw [Nat.add_mul] at hle
        have hroom : o + xs.length * kk + (ys.flatMap enc).length ≤ l.length := by rw [hy]; omega
        have hpl : (ys.flatMap enc).all plain = true := by
          rw [List.all_flatMap]; exact List.all_eq_true.2 fun y _ => hp y
        obtain ⟨w', r, ve, hs'⟩ := StL.head (M := M) (L := L) (b := b) hpl hroom P F w hsat
        refine ⟨_, w', _, ?_, ve, ?_, hk (.slice (some ⟨b, o, none⟩) (xs.length + ys.length) cap)⟩
        · simp only [Sem.run_bind, hsrc1, Result.andThen_ok, Sem.run_pure, add_none]
          rw [r]; rfl
        · obtain ⟨hM, h, a1, a2, g1, g2, dd, s1, s2, ⟨t, hb⟩, rest⟩ := hs'
          refine ⟨hM, h, a1, a2, g1, g2, dd, s1, s2, ⟨_, cap, by rw [List.length_append], by rw [List.length_append]; exact hfit, hcap, .inr ⟨b, o, _, t, rfl, hb, ?_, ?_⟩⟩, rest⟩
          · rw [setAll_length]; exact h5
          · rw [List.length_append, Nat.add_mul, ← hy, List.flatMap_append]
            exact take_setAll hroom h6
    · rw [if_neg hfit]
      have hc1 : Builtin.nextslicecap (xs.length + ys.length) cap ≤ 2 * (xs.length + ys.length) + 768 := nextcap_le (by omega)
      have hc2 : ¬ (Builtin.nextslicecap (xs.length + ys.length) cap * te.info.bytes > 2 ^ 48) := by
        rw [hb1]
        have : Builtin.nextslicecap (xs.length + ys.length) cap * by_ ≤ (2 * (xs.length + ys.length) + 768) * 1024 := Nat.mul_le_mul hc1 hby
        omega
      have hni : ¬ (((xs.length + ys.length : Nat) : Int) > IntKind.i64.max ∧ (False ∨ te.info.bytes = 0)) := fun h => hbig h.1
      obtain ⟨nc, hnc, hnc1, hnc2⟩ : ∃ nc, (choose (.appendCap (xs.length + ys.length) cap el)).run P w = .ok nc { w with drawn := w.drawn + 1 } ∧ xs.length + ys.length ≤ nc ∧ nc ≤ maxI := by
        refine ⟨_, rfl, ?_, ?_⟩
        · simp [Question.cut]
        · have hlt : w.tape w.drawn (.appendCap (xs.length + ys.length) cap el) % (2 ^ 63 - (xs.length + ys.length)) < 2 ^ 63 - (xs.length + ys.length) := Nat.mod_lt _ (by omega)
          simp only [Question.cut, maxI]; omega
      have hsrcw := (firstCells_run (P := P) hsrc (sat.same (w' := { w with drawn := w.drawn + 1 }) rfl).app_left).1
      have hask : (askRoom (nc * te.info.bytes)).run P { w with drawn := w.drawn + 1 } = .ok () { w with drawn := w.drawn + 1 } := by
        unfold askRoom; split
        · simp [mark, Sem.run]
        · rfl
      have hrow : ∀ c : Array Value, (newRow el c).run P { w with drawn := w.drawn + 1 } = .ok ⟨w.heap.size, 0, none⟩ { w with drawn := w.drawn + 1, heap := w.heap.push (.cells c el) } := fun c => by simp [newRow, newObj, Sem.run]
      have hsL : Sat M (L ++ F) w := sat.tail
      refine ⟨.slice (some ⟨w.heap.size, 0, none⟩) (xs.length + ys.length) nc, { w with drawn := w.drawn + 1, heap := w.heap.push (.cells ((xs.flatMap enc).toArray ++ (ys.flatMap enc).toArray ++ Builtin.zeroCells z'.cells (nc - (xs.length + ys.length))) el) }, _, ?_, ⟨rfl, rfl, rfl, by simp⟩, ?_, hk _⟩
      · simp only [Sem.run_bind, hinf, Result.andThen_ok, Bool.false_eq_true, hni, if_false, hc2, hnc, hask, hold { w with drawn := w.drawn + 1 } rfl, hsrcw, hz2, hrow, Sem.run_pure]
      · have hs1 : Sat M (blk w.heap.size ((xs.flatMap enc).toArray ++ (ys.flatMap enc).toArray ++ Builtin.zeroCells z'.cells (nc - (xs.length + ys.length))).toList :: (L ++ F)) { w with drawn := w.drawn + 1, heap := w.heap.push (.cells ((xs.flatMap enc).toArray ++ (ys.flatMap enc).toArray ++ Builtin.zeroCells z'.cells (nc - (xs.length + ys.length))) el) } := hsL.newBlk (t := el) (by simp only [Array.toArray_toList])
        refine hs1.ent (Ent.head ?_)
        rintro g ⟨t, hg⟩
        refine ⟨_, nc, by rw [List.length_append], by rw [List.length_append]; exact hnc1, hnc2, .inr ⟨_, 0, _, t, rfl, hg, ?_, ?_⟩⟩
        · simp only [Array.toList_append, List.length_append, hx, hy, Builtin.zeroCells, Array.length_toList, Array.size_map, Array.size_range, hzc]
          rw [← Nat.add_mul, ← Nat.add_mul]
          have : xs.length + ys.length + (nc - (xs.length + ys.length)) = nc := by omega
          rw [this]; omega
        · rw [List.drop_zero, List.length_append, Nat.add_mul, List.flatMap_append]
          simp only [Array.toList_append]
          rw [List.take_append_of_le_length (by simp [hx, hy])]
          exact List.take_of_length_le (by simp [hx, hy])
  have hty := notIntT_spec h1 (P := P)
  unfold Builtin.append_
  rcases hty with hd1 | ⟨el', hd1⟩
  · simp only [List.getElem?_toArray, List.getElem?_cons_zero, List.getElem?_cons_succ, Sem.run_bind, hu, hs, hd1, Result.andThen_ok, Sem.run_pure, Bool.false_eq_true, if_false, hsrc2]
    have := fin false rfl
    simp only [Sem.run_bind, Bool.false_eq_true, if_false] at this
    exact this
  · simp only [List.getElem?_toArray, List.getElem?_cons_zero, List.getElem?_cons_succ, Sem.run_bind, hu, hs, hd1, Result.andThen_ok, Sem.run_pure, Bool.false_eq_true, if_false, hsrc2]
    have := fin false rfl
    simp only [Sem.run_bind, Bool.false_eq_true, if_false] at this
    exact this

/-- x = append(s, y...), s one's own, at the head of the list. -/
theorem gApp {t0 t1 el by_ : Nat} {s x : Value} {xs ys : List α} {z : List Value} {x1 x2 : Operand} (T : TT P) (ht : elemT T t0 = some (el, kk, by_)) (h1 : notIntT T t1 = true) (hz : zeroT T el = some z) (hzl : z.length = kk) (hby : by_ ≤ 1024)
    (hf : Flat enc kk) (hp : ∀ y, (enc y).all plain = true) (hs : ev N e x1 = s) (hx : ev N e x2 = x) (hsrc : SrcOk M (OS enc kk s xs :: L) kk x ys.length (ys.flatMap enc)) (hn : xs.length + ys.length ≤ 4294967296)
    (H : ∀ v, Exec P M N (.ops arr l :: k) (upd e dst v) (OS enc kk v (xs ++ ys) :: L) Q) : Exec P M N (.ops arr (⟨dst, .call ⟨.builtin .append, #[x1, x2], #[t0, t1]⟩, ty, pos, aft, none⟩ :: l) :: k) e (OS enc kk s xs :: L) Q := by
  refine Exec.op ?_
  intro F w sat
  have : execOp (ev N e) ⟨dst, .call ⟨.builtin .append, #[x1, x2], #[t0, t1]⟩, ty, pos, aft, none⟩ = (do pure (.value (← Builtin.append_ #[t0, t1] ty #[s, x]))) := by
    simp [execOp, resolve, invoke, builtin, hs, hx]
  rw [this]
  exact opT.of_value (append_run (ty := ty) ht h1 hz hzl hby hf hp hsrc hn H) F w sat

/-! ### Written out -/
theorem zeros_flat {len sz : Nat} {z' : Value} {z : List Value} (h1 : z.length = sz) (hz1 : z'.cells.toList = z) : ((Array.range (len * sz)).map (z'.cells[· % z'.cells.size]!)).toList = (List.replicate len z).flatten := by
  have hzs : z'.cells.size = sz := by rw [← h1, ← hz1]; simp
  apply List.ext_getElem?
  intro i
  have hlen : ((List.replicate len z).flatten).length = len * sz := by simp [h1]
  by_cases hi : i < len * sz
  · have hsz : 0 < sz := by
      rcases Nat.eq_zero_or_pos sz with h | h
      · subst h; simp at hi
      · exact h
    have hm : i % sz < z'.cells.size := by rw [hzs]; exact Nat.mod_lt _ hsz
    have hq : i / sz < len := (Nat.div_lt_iff_lt_mul hsz).2 hi
    have hfl : ∀ (n i : Nat), i < n * sz → ((List.replicate n z).flatten)[i]? = z[i % sz]? := by
      intro n
      induction n with
      | zero => intro i hi; simp at hi
      | succ n ih =>
        intro i hi
        rw [List.replicate_succ, List.flatten_cons]
        by_cases hlt : i < sz
        · rw [List.getElem?_append_left (by rw [h1]; exact hlt), Nat.mod_eq_of_lt hlt]
        · rw [List.getElem?_append_right (by rw [h1]; omega), h1, ih (i - sz) (by rw [Nat.succ_mul] at hi; omega)]
          congr 1
          exact (Nat.mod_eq_sub_mod (by omega)).symm
    rw [hfl len i hi]
    simp only [Array.toList_map, Array.toList_range, List.getElem?_map, List.getElem?_range hi, Option.map_some, hzs, ← hz1]
    have hm' : i % sz < z'.cells.size := hm
    simp [hm', getElem!_pos]
  · rw [List.getElem?_eq_none (by simp; omega), List.getElem?_eq_none (by omega)]
/-- A slice that is written out: a new block. -/
def bsT (T : TT P) (t len : Nat) (parts : List (Nat × Value)) : Option (List Value) :=
  match elemT T t with
  | some (el, sz, _) => match zeroT T el with
    | some z => bif (Nat.beq z.length sz && Nat.ble (len * sz) 65536) then fillL (fun i => some (i * sz, sz)) (List.replicate len z).flatten parts else none
    | none => none
  | none => none
theorem buildSlice_semT {t len : Nat} {ps : Array (Nat × Value)} {cs : List Value} {K : Value → List HP → Prop} (hb : bsT T t len ps.toList = some cs) (H : ∀ b, K (.slice (some ⟨b, 0, none⟩) len len) (blk b cs :: L)) : SemT P M (Instr.buildSlice t len ps) L K := by
  unfold bsT at hb
  split at hb
  · rename_i el sz by_ he
    split at hb
    · rename_i z hz
      cases hc : (Nat.beq z.length sz && Nat.ble (len * sz) 65536) with
      | false => rw [hc] at hb; cases hb
      | true =>
        rw [hc] at hb
        simp only [cond_true] at hb
        rw [Bool.and_eq_true] at hc
        have h1 := Nat.eq_of_beq_eq_true hc.1
        have h2 := Nat.le_of_ble_eq_true hc.2
        obtain ⟨hu, hs, _⟩ := elemT_spec he
        obtain ⟨z', hz1, hz2⟩ := zeroT_run hz
        have hcells := zeros_flat (len := len) h1 hz1
        have hf := fill_of_fillL (cells := (Array.range (len * sz)).map (z'.cells[· % z'.cells.size]!)) (by rw [hcells]; exact hb)
        have hbig : ¬ (len * sz > 2 ^ 24) := by
          have : (2 : Nat) ^ 24 = 16777216 := by decide
          omega
        unfold Instr.buildSlice
        refine SemT.bind (SemT.still (fun F w s => ⟨w, hu w, rfl, .refl w⟩) ?_)
        refine SemT.bind (SemT.still (fun F w s => ⟨w, hs w, rfl, .refl w⟩) ?_)
        rw [if_neg hbig]
        by_cases h0 : len * sz = 0
        · have e0 : (Array.range (len * sz)).map (fun x => (#[] : Array Value)[x % (#[] : Array Value).size]!) = (Array.range (len * sz)).map (z'.cells[· % z'.cells.size]!) := by rw [h0]; simp
          simp only [h0, if_true] at hf e0 ⊢
          refine SemT.bind (SemT.pure ?_)
          rw [e0, hf]
          exact SemT.bind (SemT.newRow rfl fun b => SemT.pure (H b))
        · simp only [h0, if_false]
          refine SemT.bind (SemT.still (fun F w s => ⟨w, hz2 w, rfl, .refl w⟩) ?_)
          refine SemT.bind (SemT.pure ?_)
          rw [hf]
          exact SemT.bind (SemT.newRow rfl fun b => SemT.pure (H b))
    · cases hb
  · cases hb
theorem gBs {t len : Nat} {parts : Array (Nat × Operand)} {cs : List Value} (T : TT P) (hb : bsT T t len (parts.toList.map fun p => (p.1, ev N e p.2)) = some cs)
    (H : ∀ b, Exec P M N (.ops arr l :: k) (upd e dst (.slice (some ⟨b, 0, none⟩) len len)) (blk b cs :: L) Q) : Exec P M N (.ops arr (⟨dst, .buildSlice t len parts, ty, pos, aft, none⟩ :: l) :: k) e L Q := by
  refine Exec.op ?_
  intro F w s
  have : execOp (ev N e) ⟨dst, .buildSlice t len parts, ty, pos, aft, none⟩ = (do pure (.value (← Instr.buildSlice t len (parts.map fun p => (p.1, ev N e p.2))))) := rfl
  rw [this]
  exact opT.of_value (buildSlice_semT (by rw [Array.toList_map]; exact hb) H) F w s

theorem wrap_small {n : Nat} (h : n ≤ 4294967296) : IntKind.i64.wrap (n : Int) = n := by simp [IntKind.wrap, IntKind.bits, IntKind.signed]; omega
theorem OS.of_blk {b n : Nat} {l : List Value} {xs : List α} (hn : n = xs.length) (hm : n ≤ maxI) (hf : Flat enc kk) (hl : l = xs.flatMap enc) : ∀ h, blk b l h → OS enc kk (.slice (some ⟨b, 0, none⟩) n n) xs h := by
  rintro h ⟨t, hb⟩
  subst hn; subst hl
  refine ⟨_, _, rfl, Nat.le_refl _, hm, .inr ⟨b, 0, _, t, rfl, hb, ?_, ?_⟩⟩
  · rw [flat_len hf]; omega
  · rw [List.drop_zero, ← flat_len hf]; exact List.take_length
theorem p48 : (2 : Int) ^ 48 = 281474976710656 := by decide
theorem makeSlice_semT {t el by_ n : Nat} {z : List Value} {zx : α} {kd kd2 : IntKind} {K : Value → List HP → Prop} (ht : elemT T t = some (el, kk, by_)) (hz : zeroT T el = some z) (hzx : z = enc zx) (hf : Flat enc kk) (hby : by_ ≤ 1024) (hn : n ≤ 4294967296)
    (H : ∀ b, K (.slice (some ⟨b, 0, none⟩) n n) (OS enc kk (.slice (some ⟨b, 0, none⟩) n n) (List.replicate n zx) :: L)) : SemT P M (Instr.makeSlice t (.int kd n) (.int kd2 n)) L K := by
  obtain ⟨hu, hs, te, hb1, hb2, hinf, _⟩ := elemT_spec ht
  obtain ⟨z', hz1, hz2⟩ := zeroT_run hz
  have hzl : z.length = kk := by rw [hzx]; exact hf zx
  have hcells := zeros_flat (len := n) hzl hz1
  have hbig : te.info.bytes * n ≤ 1024 * 4294967296 := by rw [hb1]; exact Nat.mul_le_mul hby hn
  have hbigI : ¬ ((te.info.bytes : Int) * (n : Int) > 281474976710656) := by
    have : (te.info.bytes : Int) * (n : Int) = ((te.info.bytes * n : Nat) : Int) := by simp
    rw [this]; omega
  have hw : IntKind.i64.wrap (n : Int) = n := wrap_small hn
  have h3 : ¬ ((n : Int) < 0) := by omega
  have h4 : ¬ ((n : Int) > (n : Int)) := by omega
  intro F w sat
  have hask : (askRoom (n * te.info.bytes)).run P w = .ok () w := by
    unfold askRoom; split
    · simp [mark, Sem.run]
    · rfl
  have hcl : ((Array.range (n * kk)).map (z'.cells[· % z'.cells.size]!)).toList = (List.replicate n zx).flatMap enc := by
    rw [hcells, hzx, List.flatMap_replicate]
  have fin : ∀ c : Array Value, c.toList = (List.replicate n zx).flatMap enc → ∃ a w' L', (do
        let a ← newRow el c
        pure (.slice (some a) n n) : Sem Value).run P w = .ok a w' ∧ Env w w' ∧ Sat M (L' ++ F) w' ∧ K a L' := by
    intro c hc
    have hs1 : Sat M (blk w.heap.size c.toList :: (L ++ F)) { w with heap := w.heap.push (.cells c el) } := sat.newBlk (t := el) (by simp only [Array.toArray_toList])
    refine ⟨_, { w with heap := w.heap.push (.cells c el) }, OS enc kk (.slice (some ⟨w.heap.size, 0, none⟩) n n) (List.replicate n zx) :: L, by simp [newRow, newObj, Sem.run], ⟨rfl, rfl, rfl, by simp⟩, ?_, H _⟩
    exact hs1.ent (Ent.head (OS.of_blk (by simp) (by unfold maxI; omega) hf hc))
  unfold Instr.makeSlice
  simp only [Sem.run_bind, hu, Result.andThen_ok, asInt, asIntOf, Sem.run_pure, hinf, p48, hw, h3, h4, hbigI, decide_false, Bool.or_false, Bool.false_eq_true, or_false, if_false, Int.toNat_natCast, hask, hs]
  by_cases h0 : n * kk = 0
  · simp only [h0, if_true, Sem.run_bind, Sem.run_pure, Result.andThen_ok]
    have e0 : ((Array.range 0).map (fun x => (#[] : Array Value)[x % (#[] : Array Value).size]!)).toList = (List.replicate n zx).flatMap enc := by
      rw [← hcl, h0]; simp
    have := fin _ e0
    simpa only [Sem.run_bind, Sem.run_pure] using this
  · simp only [h0, if_false, Sem.run_bind, hz2, Result.andThen_ok, Sem.run_pure]
    have := fin _ hcl
    simpa only [Sem.run_bind, Sem.run_pure] using this
/-- make([]T, n). -/
theorem gMk {t el by_ n : Nat} {z : List Value} {zx : α} {kd kd2 : IntKind} {x y : Operand} (T : TT P) (ht : elemT T t = some (el, kk, by_)) (hz : zeroT T el = some z) (hzx : z = enc zx) (hf : Flat enc kk) (hby : by_ ≤ 1024) (hx : ev N e x = .int kd n) (hy : ev N e y = .int kd2 n) (hn : n ≤ 4294967296)
    (H : ∀ v, Exec P M N (.ops arr l :: k) (upd e dst v) (OS enc kk v (List.replicate n zx) :: L) Q) : Exec P M N (.ops arr (⟨dst, .makeSlice t x y, ty, pos, aft, none⟩ :: l) :: k) e L Q := by
  refine Exec.op ?_
  intro F w s
  have : execOp (ev N e) ⟨dst, .makeSlice t x y, ty, pos, aft, none⟩ = (do pure (.value (← Instr.makeSlice t (.int kd n) (.int kd2 n)))) := by simp [execOp, hx, hy]
  rw [this]
  exact opT.of_value (makeSlice_semT ht hz hzx hf hby hn fun b => H _) F w s

theorem SrcOk.of_RS {v : Value} {xs : List α} (hf : Flat enc kk) (r : RS enc kk M v xs) : SrcOk M L kk v xs.length (xs.flatMap enc) := by
  obtain ⟨a, cap, rfl, h1, h2, h3⟩ := r
  rcases h3 with rfl | ⟨b, o, l, t, fz, rfl, hb, h4⟩
  · cases a with
    | none => exact .inr (.inl ⟨rfl, rfl, cap, rfl⟩)
    | some a => exact .inl ⟨a, cap, rfl, by simp, fun w s i hi => by simp at hi⟩
  · refine .inl ⟨_, cap, rfl, flat_len hf xs, fun w s i hi => ?_⟩
    have hw : w.heap[b]? = some (.cells l.toArray t fz) := s.imm _ _ hb
    rw [add_none, cell_of_block hw, ← h4]
    have : i < xs.length * kk := by rw [← flat_len hf xs]; exact hi
    rw [List.getElem?_take_of_lt this, List.getElem?_drop]

end

abbrev encI : Int → List Value := fun n => [.int .i64 n]
theorem flatI : Flat encI 1 := fun _ => rfl
abbrev encB : UInt8 → List Value := fun n => [.int .u8 n.toNat]
theorem flatB : Flat encB 1 := fun _ => rfl
abbrev encS : ByteArray → List Value := fun s => [.string s]
theorem flatS : Flat encS 1 := fun _ => rfl
end Go.Gv
