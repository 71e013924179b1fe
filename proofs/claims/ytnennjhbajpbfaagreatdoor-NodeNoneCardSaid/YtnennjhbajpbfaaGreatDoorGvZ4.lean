/- What acts: slices. -/
import Derived.Test.YtnennjhbajpbfaaGreatDoorGvZ3
namespace Go.Gv
set_option linter.unusedVariables false
set_option linter.unusedSimpArgs false
set_option linter.unusedSectionVars false

section
variable {P : Program} {T : TT P} {E : EqT} {G : GT} {M : Heap} {ρ : Rho} {h h' : Hp} {F : List HP} {w w' : World} {r : Operand → SV}

theorem evE_makeSlice (ok : okHp h) (hr : ∀ y, okV (dom h) (r y)) {id t : Nat} {a b : Operand} {x : SV} (e : evE T E G h id r (.makeSlice t a b) = some (x, h')) : EfOk P M ρ h r (.makeSlice t a b) x h' := by
  simp only [evE] at e
  split at e
  · rename_i el sz by_ n c hel ha hb
    obtain ⟨k1, ha⟩ := natOf_eq ha
    obtain ⟨k2, hb⟩ := natOf_eq hb
    split at e
    · rename_i z hz
      cases hbo : (Nat.ble n c && Nat.ble c 10000 && Nat.ble by_ 1000 && Nat.ble 1 sz && Nat.beq z.length sz) with
      | false => rw [hbo] at e; cases e
      | true =>
        rw [hbo] at e
        simp only [cond_true] at e
        simp only [Bool.and_eq_true] at hbo
        obtain ⟨⟨⟨⟨q1, q2⟩, q3⟩, q4⟩, q5⟩ := hbo
        have q1 := Nat.le_of_ble_eq_true q1
        have q2 := Nat.le_of_ble_eq_true q2
        have q3 := Nat.le_of_ble_eq_true q3
        have q4 := Nat.le_of_ble_eq_true q4
        have q5 := Nat.eq_of_beq_eq_true q5
        obtain ⟨z', rfl, hz2⟩ := zeroS_run hz
        split at e
        · rename_i h1 hn
          cases e
          obtain ⟨hu, hs, te, hb1, hb2, hinf, _⟩ := elemT_spec hel
          have hzc : z'.cells.toList.length = sz := by simpa using q5
          have hcells := zeros_flat (len := c) (z' := z') hzc rfl
          intro F w s dst ty pos aft gd
          obtain ⟨s', g⟩ := new_cells (z := (0, 0)) (cap := 0) (post := []) (w' := { w with heap := w.heap.push (.cells (List.replicate c z'.cells.toList).flatten.toArray el) }) s ok hn (okVs_repl c _) (by simp [dens_repl]) (.inl rfl) (fun _ _ q => by cases q)
          refine ⟨_, _, _, ?_, .inl rfl, env_push, s', g, (new_dom hn).1⟩
          have ex : execOp (fun y => den ρ (r y)) ⟨dst, .makeSlice t a b, ty, pos, aft, gd⟩ = (do pure (.value (← Instr.makeSlice t (den ρ (r a)) (den ρ (r b))))) := rfl
          have hbig : te.info.bytes * c ≤ 1000 * 10000 := by rw [hb1]; exact Nat.mul_le_mul q3 q2
          have hbig2 : te.info.bytes * n ≤ 1000 * 10000 := by rw [hb1]; exact Nat.mul_le_mul q3 (by omega)
          have hbigI : ¬ ((te.info.bytes : Int) * (c : Int) > 281474976710656) := by
            have : (te.info.bytes : Int) * (c : Int) = ((te.info.bytes * c : Nat) : Int) := by simp
            rw [this]; omega
          have hw1 : IntKind.i64.wrap (n : Int) = n := wrap_small (by omega)
          have hw2 : IntKind.i64.wrap (c : Int) = c := wrap_small (by omega)
          have h3 : ¬ ((n : Int) < 0) := by omega
          have h3' : ¬ ((c : Int) < 0) := by omega
          have h4 : ¬ ((n : Int) > (c : Int)) := by omega
          have hask : (askRoom (c * te.info.bytes)).run P w = .ok () w := by
            unfold askRoom; split
            · simp [mark, Sem.run]
            · rfl
          rw [ex, ha, hb]
          unfold Instr.makeSlice
          simp only [den, Sem.run_bind, hu w, Result.andThen_ok, asInt, asIntOf, Sem.run_pure, hinf, p48, hw1, hw2, h3, h3', h4, hbigI, decide_false, Bool.or_false, Bool.false_eq_true, or_false, if_false, Int.toNat_natCast, hask, hs w]
          have harr : (Array.range (c * sz)).map (z'.cells[· % z'.cells.size]!) = (List.replicate c z'.cells.toList).flatten.toArray := by
            apply Array.ext'; rw [hcells]
          by_cases h0 : c * sz = 0
          · have e0 : (Array.range 0).map (fun x => (#[] : Array Value)[x % (#[] : Array Value).size]!) = (List.replicate c z'.cells.toList).flatten.toArray := by
              rw [← harr, h0]; simp
            simp only [h0, if_true, Sem.run_pure, Sem.run_bind, Result.andThen_ok]
            rw [e0]
            simp [Go.newRow, newObj, Sem.run, den, bind1, sOff, sCap]
          · simp only [h0, if_false, Sem.run_bind, hz2 w, Result.andThen_ok, Sem.run_pure]
            rw [harr]
            simp [Go.newRow, newObj, Sem.run, den, bind1, sOff, sCap]
        · cases e
    · cases e
  · cases e

theorem evE_convert (ok : okHp h) (hr : ∀ y, okV (dom h) (r y)) {id s0 t : Nat} {y : Operand} {x : SV} (e : evE T E G h id r (.convert s0 t y) = some (x, h')) : EfOk P M ρ h r (.convert s0 t y) x h' := by
  simp only [evE] at e
  split at e
  · rename_i b hy
    split at e
    · rename_i el by_ hel
      cases hbo : (isStringT T s0 && (intKindT T el == some .u8) && Nat.ble (bsOf b).length 10000) with
      | false => rw [hbo] at e; cases e
      | true =>
        rw [hbo] at e
        simp only [cond_true] at e
        rw [Bool.and_eq_true, Bool.and_eq_true] at hbo
        obtain ⟨⟨q1, q2⟩, q3⟩ := hbo
        have q3 := Nat.le_of_ble_eq_true q3
        split at e
        · rename_i h1 hn
          cases e
          obtain ⟨hu, hs, _⟩ := elemT_spec hel
          have huel : ∀ w, (underlying el).run P w = .ok (.int .u8) w := by
            unfold intKindT at q2
            split at q2
            · rename_i te hte
              split at q2
              · rename_i k hd
                have : k = .u8 := by simpa using q2
                subst this
                intro w; rw [run_und hte, hd]
              · simp at q2
            · simp at q2
          intro F w s dst ty pos aft gd
          have hbs : (bsOf b).length = b.size := by simp [bsOf]
          obtain ⟨nc, hnc, hnc1, hnc2⟩ : ∃ nc, (choose (.appendCap b.size 0 el)).run P w = .ok nc { w with drawn := w.drawn + 1 } ∧ b.size ≤ nc ∧ nc ≤ 9223372036854775808 := by
            refine ⟨_, rfl, by simp [Question.cut], ?_⟩
            have hlt : w.tape w.drawn (.appendCap b.size 0 el) % (2 ^ 63 - b.size) < 2 ^ 63 - b.size := Nat.mod_lt _ (by omega)
            simp only [Question.cut]; omega
          have hd : dens ρ ((bsOf b).map fun u : UInt8 => SV.v (.int .u8 u.toNat)) = (bsOf b).map fun u : UInt8 => Value.int .u8 u.toNat := by simp [dens_map, den, Function.comp_def]
          have hsz : ((bsOf b).map fun u : UInt8 => Value.int .u8 u.toNat).length + (List.replicate (nc - b.size) (Value.int .u8 0)).length = nc := by simp [hbs]; omega
          have hcap : Nat.max nc (bsOf b).length * 1 ≤ ((bsOf b).map fun u : UInt8 => SV.v (.int .u8 u.toNat)).length + (List.replicate (nc - b.size) (Value.int .u8 0)).length := by
            simp only [List.length_map, List.length_replicate, hbs, Nat.mul_one]
            have : Nat.max nc b.size = nc := Nat.max_eq_left hnc1
            rw [this]; omega
          obtain ⟨s', g⟩ := new_cells (z := (nc, nc + 1)) (cap := nc) (post := List.replicate (nc - b.size) (Value.int .u8 0)) (w' := { w with drawn := w.drawn + 1, heap := w.heap.push (.cells ((bsOf b).map (fun u : UInt8 => Value.int .u8 u.toNat) ++ List.replicate (nc - b.size) (Value.int .u8 0)).toArray el (nc, nc + 1)) }) s ok hn
            (okVs_iff.2 fun y hy => by obtain ⟨z, _, rfl⟩ := List.mem_map.1 hy; trivial) (by rw [hd]) (.inr (by show nc + 1 ≤ 9223372036854775809; omega)) (fun _ _ q => by cases q; exact hcap)
          refine ⟨_, { w with drawn := w.drawn + 1, heap := w.heap.push (.cells ((bsOf b).map (fun u : UInt8 => Value.int .u8 u.toNat) ++ List.replicate (nc - b.size) (Value.int .u8 0)).toArray el (nc, nc + 1)) }, _, ?_, .inl rfl, ⟨rfl, rfl, rfl, by simp⟩, s', g, (new_dom hn).1⟩
          have ex : execOp (fun y => den ρ (r y)) ⟨dst, .convert s0 t y, ty, pos, aft, gd⟩ = (do pure (.value (← convert s0 t (den ρ (r y))))) := rfl
          rw [ex, hy]
          have hroom : room (bind1 ρ id ⟨w.heap.size, 0, nc⟩) id (bsOf b).length = nc := by
            simp only [room, bind1, if_true, hbs]; exact Nat.max_eq_left hnc1
          have hso : sOff (bind1 ρ id ⟨w.heap.size, 0, nc⟩) id 0 1 none (bsOf b).length 0 = 0 := by simp [sOff]
          have hel2 : (b.data.map fun b => Value.int .u8 b.toNat) ++ Array.replicate (nc - b.size) (Value.int .u8 0) = ((bsOf b).map (fun u : UInt8 => Value.int .u8 u.toNat) ++ List.replicate (nc - b.size) (Value.int .u8 0)).toArray := by
            apply Array.ext'; simp [bsOf]
          simp only [den, convert, Sem.run_bind, isStr (h := h) hr q1 w, hu w, huel w, Result.andThen_ok, Conv.stringToBytes, hnc, hso, sCap, hroom]
          rw [hel2]
          generalize hX : ((bsOf b).map (fun u : UInt8 => Value.int .u8 u.toNat) ++ List.replicate (nc - b.size) (Value.int .u8 0)).toArray = X
          have hXs : X.size = nc := by rw [← hX]; simp only [List.size_toArray, List.length_append]; exact hsz
          simp only [Go.newRow, newObj, Sem.run, Sem.run_bind, Sem.run_pure, Result.andThen_ok, markStringish, shape, World.shape?]
          simp only [Array.getElem?_push_size]
          simp only [Sem.run_bind, freeze, Sem.run, hXs, World.freeze, Sem.run_pure, Result.andThen_ok]
          simp [bind1, hbs]
          apply Array.ext_getElem?
          intro i
          simp only [Array.getElem?_modify, Array.getElem?_push]
          by_cases hi : i = w.heap.size
          · subst hi; simp
          · have : ¬ w.heap.size = i := fun q => hi q.symm
            simp [hi, this]
        · cases e
    · cases e
  · cases e
def stOpt (base : Option Go.Addr) (k : Nat) (ys : List Value) : Sem Unit := match base with
  | some a => storeCells (a.add k) ys
  | none => pure ()
theorem app_run {t0 t1 el sz by_ m n cap : Nat} {ty : TypeId} {base : Option Go.Addr} {X : Value} {old ys : List Value} (ht : elemT T t0 = some (el, sz, by_)) (h1 : notIntT T t1 = true) (hby : by_ ≤ 1000) (hmn : m + n ≤ 100000)
    (hlen : (Builtin.lenOf X).run P w = .ok n w) (hy : ∀ w2 : World, w2.heap = w.heap → (Builtin.firstCells sz n X).run P w2 = .ok ys.toArray w2) (ho : cap < m + n → ∀ w2 : World, w2.heap = w.heap → (Builtin.firstCells sz m (.slice base m cap)).run P w2 = .ok old.toArray w2) :
    (m + n ≤ cap ∧ (Builtin.append_ #[t0, t1] ty #[.slice base m cap, X]).run P w = ((stOpt base (m * sz) ys).run P w).andThen fun _ w' => .ok (.slice base (m + n) cap) w') ∨
    (cap < m + n ∧ ∃ nc post, m + n ≤ nc ∧ (∀ z : Value, (zeroValue el).run P w = .ok z w → z.cells.size = sz → (old.length = m * sz → ys.length = n * sz → (old ++ ys ++ post).length = nc * sz)) ∧
      (Builtin.append_ #[t0, t1] ty #[.slice base m cap, X]).run P w = .ok (.slice (some ⟨w.heap.size, 0, none⟩) (m + n) nc) { w with drawn := w.drawn + 1, heap := w.heap.push (.cells (old ++ ys ++ post).toArray el) }) := by
  obtain ⟨hu, hs, te, hb1, hb2, hinf, hzer⟩ := elemT_spec ht
  have hty := notIntT_spec h1 (P := P)
  have hbig : ¬ (((m + n : Nat) : Int) > IntKind.i64.max) := by simp [IntKind.max, IntKind.signed, IntKind.bits]; omega
  by_cases hfit : m + n ≤ cap
  · refine .inl ⟨hfit, ?_⟩
    unfold Builtin.append_
    rcases hty with hd1 | ⟨el', hd1⟩ <;>
    · simp only [List.getElem?_toArray, List.getElem?_cons_zero, List.getElem?_cons_succ, Sem.run_bind, hu w, hs w, hd1 w, Result.andThen_ok, Sem.run_pure, Bool.false_eq_true, if_false, hlen, Bool.not_false, if_true, hfit, hy w rfl]
      cases base with
      | none => rfl
      | some a => simp only [Sem.run_bind, Sem.run_pure, stOpt]
  · have hc1 : Builtin.nextslicecap (m + n) cap ≤ 2 * (m + n) + 768 := nextcap_le (by omega)
    have hc2 : ¬ (Builtin.nextslicecap (m + n) cap * te.info.bytes > 2 ^ 48) := by
      rw [hb1]
      have : Builtin.nextslicecap (m + n) cap * by_ ≤ (2 * (m + n) + 768) * 1000 := Nat.mul_le_mul hc1 hby
      have : (2 : Nat) ^ 48 = 281474976710656 := by decide
      omega
    have hni : ¬ (((m + n : Nat) : Int) > IntKind.i64.max ∧ (False ∨ te.info.bytes = 0)) := fun h => hbig h.1
    obtain ⟨nc, hnc, hnc1⟩ : ∃ nc, (choose (.appendCap (m + n) cap el)).run P w = .ok nc { w with drawn := w.drawn + 1 } ∧ m + n ≤ nc := ⟨_, rfl, by simp [Question.cut]⟩
    have hask : (askRoom (nc * te.info.bytes)).run P { w with drawn := w.drawn + 1 } = .ok () { w with drawn := w.drawn + 1 } := by
      unfold askRoom; split
      · simp [mark, Sem.run]
      · rfl
    have hold := ho (by omega) { w with drawn := w.drawn + 1 } rfl
    have hnew := hy { w with drawn := w.drawn + 1 } rfl
    refine .inr ⟨by omega, nc, (Builtin.zeroCells te.zero.cells (nc - (m + n))).toList, hnc1, ?_, ?_⟩
    · intro z hz hzs h1 h2
      have : te.zero = z := by have := hzer w; rw [hz] at this; injection this with a; exact a.symm
      rw [this]
      simp only [List.length_append, h1, h2, Builtin.zeroCells, Array.length_toList, Array.size_map, Array.size_range, hzs]
      rw [← Nat.add_mul, ← Nat.add_mul]
      congr 1; omega
    · unfold Builtin.append_
      rcases hty with hd1 | ⟨el', hd1⟩ <;>
      · simp only [List.getElem?_toArray, List.getElem?_cons_zero, List.getElem?_cons_succ, Sem.run_bind, hu w, hs w, hd1 w, Result.andThen_ok, Sem.run_pure, Bool.false_eq_true, if_false, hlen, Bool.not_false, if_true, hfit, hinf, hni, hc2, hnc, hask, hold, hnew, hzer]
        have harr : old.toArray ++ ys.toArray ++ Builtin.zeroCells te.zero.cells (nc - (m + n)) = (old ++ ys ++ (Builtin.zeroCells te.zero.cells (nc - (m + n))).toList).toArray := by
          apply Array.ext'; simp
        rw [harr]
        simp only [Go.newRow, newObj, Sem.run, Sem.run_bind, Sem.run_pure, Result.andThen_ok]
theorem Ent.gone {L : List HP} : Ent L ((fun _ => True) :: L) := fun h k => ⟨fun _ => none, h, fun _ => .inl rfl, (fun _ _ e => by cases e), .refl _, trivial, k⟩
/-- Cells are written behind a slice that may have room: from then on it bears a name of its own. -/
theorem reloc_obj {c id el fz o sz lw m n : Nat} {l old ys : List SV} (s : Sat M (objs ρ h ++ F) w) (ok : okHp h) (hg : hget h c = some (.cells el l (some (sz, lw)) fz))
    (hn : hnew (hset h c .gone) id (.cells el (old ++ ys) (some (sz, m + n)) (fz - o)) = some h') (hold : old = (l.drop o).take (m * sz)) (hle : o + m * sz ≤ l.length) (hyl : ys.length = n * sz) (hsz : 1 ≤ sz) (ho : o = o / sz * sz)
    (hfit : m + n ≤ room ρ c lw - o / sz) (hfz : fz ≤ o + m * sz) (hys : ys.all scalar = true) (hk : okVs (dom h) ys) :
    ∃ w', (storeCells ⟨(ρ c).b, (ρ c).o + o + m * sz, none⟩ (dens ρ ys)).run P w = .ok () w' ∧ Env w w' ∧ Sat M (objs (bind1 ρ id ⟨(ρ c).b, (ρ c).o + o, room ρ c lw - o / sz⟩) h' ++ F) w' ∧
      Grew h h' ρ (bind1 ρ id ⟨(ρ c).b, (ρ c).o + o, room ρ c lw - o / sz⟩) := by
  obtain ⟨pre, post, z, hb, hl, hz, hop⟩ := s.objAt hg
  simp only [opnOk] at hop
  have hdl : (dens ρ l).length = l.length := dens_len ρ l
  have hdv : (dens ρ ys).length = ys.length := dens_len ρ ys
  have hmul : (m + n) * sz = m * sz + n * sz := Nat.add_mul _ _ _
  have hrm : o + (m + n) * sz ≤ room ρ c lw * sz ∨ m + n = 0 := by
    by_cases h0 : m + n = 0
    · exact .inr h0
    · left
      have h1 : o / sz + (m + n) ≤ room ρ c lw := by omega
      have h2 : (o / sz + (m + n)) * sz ≤ room ρ c lw * sz := Nat.mul_le_mul_right sz h1
      rw [Nat.add_mul, ← ho] at h2
      exact h2
  have hbnd : o + m * sz + n * sz ≤ l.length + post.length := by
    rcases hrm with q | q
    · omega
    · have h1 : m = 0 := by omega
      have h2 : n = 0 := by omega
      subst h1; subst h2; omega
  obtain ⟨w', r, e, k⟩ := store_blk (P := P) (q := (ρ c).o + o + m * sz) (plain_dens (ρ := ρ) hys) hb (by simp only [List.length_append, hdl, hdv]; omega)
    (fun j h1 h2 => by rw [hdv] at h2; rcases hz with q | q <;> omega) 0 _ rfl
  have hc := (hget_spec hg).2
  have kl : okVs (dom h) l := okO_get ok hg
  have hgone : okHp (hset h c .gone) := okHp_set ok hc trivial
  obtain ⟨hn1, hc1, rfl⟩ := hnew_spec hn
  have hdom : ∀ c', dom h c' → dom (hset h c .gone) c' := fun c' k => dom_set k
  have hext0 : ∀ c', dom (hset h c .gone) c' → ρ c' = bind1 ρ id ⟨(ρ c).b, (ρ c).o + o, room ρ c lw - o / sz⟩ c' := fun c' hd => by
    unfold bind1
    rw [if_neg]
    intro q; subst q
    exact hd hn1
  have hold' : okVs (dom h) old := by rw [hold]; exact okVs_take _ (okVs_drop _ kl)
  have hko : okVs (dom h) (old ++ ys) := okVs_app hold' hk
  refine ⟨w', r, e, ?_, ⟨fun c' k => dom_set (hdom c' k), fun c' k => hext0 c' (hdom c' k), okHp_set hgone hc1 (okVs_up (fun _ hd => dom_set (hdom _ hd)) _ hko)⟩⟩
  obtain ⟨R, p, q⟩ := objs_set ρ 12 h c c _ (p12 hc) (hget_spec hg).1
  have s1 : Sat M (objP ρ c (.cells el l (some (sz, lw)) fz) :: (R ++ F)) w := s.perm (p.append_right F)
  have s2 : Sat M (objP (bind1 ρ id ⟨(ρ c).b, (ρ c).o + o, room ρ c lw - o / sz⟩) id (.cells el (old ++ ys) (some (sz, m + n)) (fz - o)) :: (R ++ F)) w' := by
    refine s1.upd (fun g hgg => ?_) k fun g hgg => ?_
    · obtain ⟨p1, p2, p3, p4, _⟩ := hgg; exact ⟨_, p4⟩
    · have hb1 : (bind1 ρ id ⟨(ρ c).b, (ρ c).o + o, room ρ c lw - o / sz⟩) id = ⟨(ρ c).b, (ρ c).o + o, room ρ c lw - o / sz⟩ := by simp [bind1]
      have hset : setAll (pre ++ dens ρ l ++ post) ((ρ c).o + o + m * sz) (dens ρ ys) = (pre ++ (dens ρ l).take o) ++ dens ρ (old ++ ys) ++ (pre ++ dens ρ l ++ post).drop ((ρ c).o + o + m * sz + ys.length) := by
        rw [setAll_eq (by simp only [List.length_append, hdl, hdv]; omega), hdv]
        have h1 : (pre ++ dens ρ l ++ post).take ((ρ c).o + o + m * sz) = pre ++ (dens ρ l).take o ++ dens ρ old := by
          rw [List.append_assoc, ← hl, List.take_append]
          have : pre.length + o + m * sz - pre.length = o + m * sz := by omega
          rw [this, List.take_of_length_le (by omega), List.take_append_of_le_length (by omega), List.take_add, hold, List.append_assoc]
          congr 2
          simp [dens_map]
        rw [h1]
        simp [dens_map]
      rw [hset] at hgg
      refine ⟨pre ++ (dens ρ l).take o, (pre ++ dens ρ l ++ post).drop ((ρ c).o + o + m * sz + ys.length), z, ?_, ?_, ?_, ?_⟩
      · rw [hb1, ← dens_congr hext0 (old ++ ys) (okVs_up hdom _ hko)]; exact hgg
      · rw [hb1]; simp only [List.length_append, List.length_take, hdl, hl]; omega
      · rw [hb1]
        rcases hz with q | q
        · exact .inl q
        · right
          show z.2 ≤ (ρ c).o + o + (fz - o)
          omega
      · show Nat.max ((bind1 ρ id ⟨(ρ c).b, (ρ c).o + o, room ρ c lw - o / sz⟩) id).cap (m + n) * sz ≤ _
        have hmax : Nat.max (room ρ c lw - o / sz) (m + n) = room ρ c lw - o / sz := Nat.max_eq_left hfit
        rw [hb1]
        show Nat.max (room ρ c lw - o / sz) (m + n) * sz ≤ _
        rw [hmax, Nat.sub_mul, ← ho]
        have hol : old.length = m * sz := by rw [hold]; simp; omega
        simp only [List.length_append, List.length_drop, hdl, hol, hyl]
        omega
  have s3 : Sat M (objP (bind1 ρ id ⟨(ρ c).b, (ρ c).o + o, room ρ c lw - o / sz⟩) id (.cells el (old ++ ys) (some (sz, m + n)) (fz - o)) :: (objP ρ c .gone :: (R ++ F))) w' := s2.ent (Ent.cons Ent.gone)
  have e1 : objs (bind1 ρ id ⟨(ρ c).b, (ρ c).o + o, room ρ c lw - o / sz⟩) (hset h c .gone) = objs ρ (hset h c .gone) := (objs_okHp hgone hext0).symm
  have p1 := objs_new (bind1 ρ id ⟨(ρ c).b, (ρ c).o + o, room ρ c lw - o / sz⟩) 12 (hset h c .gone) id id (.cells el (old ++ ys) (some (sz, m + n)) (fz - o)) (p12 hc1) hn1
  rw [e1] at p1
  have p2 : (objs (bind1 ρ id ⟨(ρ c).b, (ρ c).o + o, room ρ c lw - o / sz⟩) (hset (hset h c .gone) id (.cells el (old ++ ys) (some (sz, m + n)) (fz - o)))).Perm (objP (bind1 ρ id ⟨(ρ c).b, (ρ c).o + o, room ρ c lw - o / sz⟩) id (.cells el (old ++ ys) (some (sz, m + n)) (fz - o)) :: (objP ρ c .gone :: R)) :=
    p1.trans ((q c .gone).cons _)
  exact s3.perm (p2.symm.append_right F)
theorem zlen_spec {el sz : Nat} (e : zlen T el sz = true) : ∃ z : Value, (∀ w, (zeroValue el).run P w = .ok z w) ∧ z.cells.size = sz := by
  unfold zlen at e
  split at e
  · rename_i z hz
    obtain ⟨z', rfl, h2⟩ := zeroS_run hz
    refine ⟨z', h2, ?_⟩
    have := Nat.eq_of_beq_eq_true e
    simpa using this
  · cases e
theorem appS_sound (ok : okHp h) {t0 t1 id el sz by_ n : Nat} {ty : TypeId} {sv y x : SV} {ys : List SV} (ht : elemT T t0 = some (el, sz, by_)) (h1 : notIntT T t1 = true) (hby : by_ ≤ 1000) (hsz : 1 ≤ sz) (hz : zlen T el sz = true) (hn1 : n ≤ 10000)
    (hl : lenS y = some n) (hsrc : srcS h sz y n = some ys) (hys : ys.all scalar = true) (hk : okV (dom h) sv) (e : appS h id el sz by_ sv n ys = some (x, h')) (s : Sat M (objs ρ h ++ F) w) :
    ∃ w' ρ', (Builtin.append_ #[t0, t1] ty #[den ρ sv, den ρ y]).run P w = .ok (den ρ' x) w' ∧ Env w w' ∧ Sat M (objs ρ' h' ++ F) w' ∧ Grew h h' ρ ρ' ∧ okV (dom h') x := by
  obtain ⟨q1, q2, q3, q4⟩ := srcS_sound (P := P) (M := M) (ρ := ρ) ok hl hsrc
  have hyl := q2 (Nat.le_refl _)
  have hfy : ∀ w2 : World, w2.heap = w.heap → (Builtin.firstCells sz n (den ρ y)).run P w2 = .ok (dens ρ ys).toArray w2 := fun w2 hw => q1 F w2 (s.same hw)
  obtain ⟨z, hz1, hz2⟩ := zlen_spec (P := P) hz
  unfold appS at e
  split at e
  · -- nil
    cases hb : Nat.beq n 0 with
    | true =>
      rw [hb] at e
      cases e
      obtain rfl := Nat.eq_of_beq_eq_true hb
      refine ⟨w, ρ, ?_, .refl w, s, .refl ok, hk⟩
      rcases app_run (P := P) (ty := ty) (base := none) (m := 0) (cap := 0) (old := []) ht h1 hby (by omega) (q4 w) hfy (by omega) with ⟨_, hr⟩ | ⟨h3, _⟩
      · simp only [den]; rw [hr]; rfl
      · omega
    | false =>
      rw [hb] at e
      simp only [cond_false] at e
      have hn0 : n ≠ 0 := fun q => by rw [q] at hb; simp at hb
      cases hb2 : (Nat.ble n 100000 && Nat.beq ys.length (n * sz)) with
      | false => rw [hb2] at e; cases e
      | true =>
        rw [hb2] at e
        simp only [cond_true] at e
        split at e
        · rename_i h2 hn
          cases e
          rcases app_run (P := P) (ty := ty) (base := none) (m := 0) (cap := 0) (old := []) ht h1 hby (by omega) (q4 w) hfy (fun _ w2 _ => rfl) with ⟨h3, _⟩ | ⟨_, nc, post, h4, h5, hr⟩
          · omega
          · have h6 := h5 z (hz1 w) hz2 (by simp) (by rw [dens_len]; exact hyl)
            simp only [List.nil_append, List.length_append, dens_len] at h6
            obtain ⟨s', g⟩ := new_cells (z := (0, 0)) (cap := nc) (post := post) (w' := { w with drawn := w.drawn + 1, heap := w.heap.push (.cells ([] ++ dens ρ ys ++ post).toArray el) }) s ok hn q3 rfl (.inl rfl) (fun _ _ q => by
              cases q
              rw [h6]
              have : Nat.max nc n = nc := Nat.max_eq_left (by omega)
              rw [this]; exact Nat.le_refl _)
            refine ⟨{ w with drawn := w.drawn + 1, heap := w.heap.push (.cells ([] ++ dens ρ ys ++ post).toArray el) }, _, ?_, ⟨rfl, rfl, rfl, by simp⟩, s', g, (new_dom hn).1⟩
            simp only [den]
            rw [hr]
            have hroom : room (bind1 ρ id ⟨w.heap.size, 0, nc⟩) id n = nc := by
              simp only [room, bind1, if_true]; exact Nat.max_eq_left (by omega)
            simp [sOff, sCap, hroom, bind1]
        · cases e
  · -- a slice of one's own
    rename_i c o sz' m cap lw bk
    cases hbo : (Nat.beq sz sz' && Nat.ble (m + n) 100000 && Nat.beq ys.length (n * sz) && (Nat.beq m 0 || sureS o sz cap lw)) with
    | false => rw [hbo] at e; cases e
    | true =>
      rw [hbo] at e
      simp only [cond_true] at e
      simp only [Bool.and_eq_true] at hbo
      obtain ⟨⟨⟨p1, p2⟩, p3⟩, p4⟩ := hbo
      obtain rfl := Nat.eq_of_beq_eq_true p1
      have p2 := Nat.le_of_ble_eq_true p2
      split at e
      · rename_i el' l opn fz hg
        split at e
        · rename_i old hold
          obtain ⟨hold1, hold2⟩ := span_eq hold
          have kl : okVs (dom h) l := okO_get ok hg
          have kold : okVs (dom h) old := by rw [hold1]; exact okVs_take _ (okVs_drop _ kl)
          have holdl : old.length = m * sz := by rw [hold1]; simp; omega
          have hfo : ∀ w2 : World, w2.heap = w.heap → (Builtin.firstCells sz m (den ρ (.s c o sz m cap lw bk))).run P w2 = .ok (dens ρ old).toArray w2 := fun w2 hw => by
            have ho := (s.same (w' := w2) hw).objAt hg
            simp only [den, Builtin.firstCells]
            rcases Bool.or_eq_true _ _ ▸ p4 with q | q
            · have hm0 := Nat.eq_of_beq_eq_true q
              subst hm0
              have : old = [] := List.eq_nil_of_length_eq_zero (by omega)
              rw [this]
              simp [loadCells, loadCellsFrom, dens]
            · rw [sure_off q]; exact objSpan ho hold
          -- a new row
          have newrow : ∀ h0 h2 (fzz : Nat), Sat M (objs ρ h0 ++ F) w → okHp h0 → (∀ c, dom h c → dom h0 c) → sCap ρ c o sz cap lw < m + n → hnew h0 id (.cells el (old ++ ys) (some (sz, m + n)) fzz) = some h2 →
              ∃ w' ρ', (Builtin.append_ #[t0, t1] ty #[den ρ (.s c o sz m cap lw bk), den ρ y]).run P w = .ok (den ρ' (.s id 0 sz (m + n) none (m + n) 0)) w' ∧ Env w w' ∧ Sat M (objs ρ' h2 ++ F) w' ∧ Grew h h2 ρ ρ' ∧ okV (dom h2) (.s id 0 sz (m + n) none (m + n) 0) := by
            intro h0 h2 fzz s0 ok0 hd0 hlt hn
            rcases app_run (P := P) (ty := ty) (base := some ⟨(ρ c).b, (ρ c).o + sOff ρ c o sz cap lw bk, none⟩) (m := m) (cap := sCap ρ c o sz cap lw) (old := dens ρ old) ht h1 hby p2 (q4 w) hfy (fun _ => hfo) with ⟨h3, _⟩ | ⟨_, nc, post, h4, h5, hr⟩
            · omega
            · have h6 := h5 z (hz1 w) hz2 (by rw [dens_len]; exact holdl) (by rw [dens_len]; exact hyl)
              obtain ⟨s', g⟩ := new_cells (z := (0, 0)) (cap := nc) (post := post) (w' := { w with drawn := w.drawn + 1, heap := w.heap.push (.cells (dens ρ old ++ dens ρ ys ++ post).toArray el) }) s0 ok0 hn (okVs_up hd0 _ (okVs_app kold q3)) (by rw [dens_map ρ (old ++ ys), List.map_append, ← dens_map, ← dens_map]) (.inl rfl) (fun _ _ q => by
                cases q
                have h7 : (old ++ ys).length + post.length = nc * sz := by rw [← h6]; simp [dens_len, Nat.add_assoc]
                rw [h7]
                have : Nat.max nc (m + n) = nc := Nat.max_eq_left (by omega)
                rw [this]; exact Nat.le_refl _)
              have g' : Grew h h2 ρ (bind1 ρ id ⟨w.heap.size, 0, nc⟩) := ⟨fun c k => g.dom c (hd0 c k), fun c k => g.ext c (hd0 c k), g.ok⟩
              refine ⟨{ w with drawn := w.drawn + 1, heap := w.heap.push (.cells (dens ρ old ++ dens ρ ys ++ post).toArray el) }, _, ?_, ⟨rfl, rfl, rfl, by simp⟩, s', g', (new_dom hn).1⟩
              have : den ρ (.s c o sz m cap lw bk) = .slice (some ⟨(ρ c).b, (ρ c).o + sOff ρ c o sz cap lw bk, none⟩) m (sCap ρ c o sz cap lw) := rfl
              rw [this, hr]
              have hroom : room (bind1 ρ id ⟨w.heap.size, 0, nc⟩) id (m + n) = nc := by
                simp only [room, bind1, if_true]; exact Nat.max_eq_left (by omega)
              simp [den, sOff, sCap, hroom, bind1]
          -- in its place
          have inplace : ∀ w' : World, m + n ≤ sCap ρ c o sz cap lw → sOff ρ c o sz cap lw bk = o → (storeCells ⟨(ρ c).b, (ρ c).o + (o + m * sz), none⟩ (dens ρ ys)).run P w = .ok () w' →
              (Builtin.append_ #[t0, t1] ty #[den ρ (.s c o sz m cap lw bk), den ρ y]).run P w = .ok (.slice (some ⟨(ρ c).b, (ρ c).o + o, none⟩) (m + n) (sCap ρ c o sz cap lw)) w' := by
            intro w' hfit hso hst
            rcases app_run (P := P) (ty := ty) (base := some ⟨(ρ c).b, (ρ c).o + sOff ρ c o sz cap lw bk, none⟩) (m := m) (cap := sCap ρ c o sz cap lw) (old := dens ρ old) ht h1 hby p2 (q4 w) hfy (fun _ => hfo) with ⟨_, hr⟩ | ⟨h3, _⟩
            · have : den ρ (.s c o sz m cap lw bk) = .slice (some ⟨(ρ c).b, (ρ c).o + sOff ρ c o sz cap lw bk, none⟩) m (sCap ρ c o sz cap lw) := rfl
              rw [this, hr, hso]
              simp only [stOpt, add_none, Nat.add_assoc]
              rw [hst]; rfl
            · omega
          split at e
          · -- its room is known
            rename_i k
            cases hb3 : Nat.ble (m + n) k with
            | true =>
              rw [hb3] at e
              simp only [cond_true] at e
              split at e
              · rename_i h2 hs
                cases e
                unfold storeS at hs
                rw [hg] at hs
                simp only at hs
                cases hb4 : (Nat.ble fz (o + m * sz) && ys.all scalar) with
                | false => rw [hb4] at hs; cases hs
                | true =>
                  rw [hb4] at hs
                  simp only [cond_true] at hs
                  rw [Bool.and_eq_true] at hb4
                  split at hs
                  · rename_i l' hp
                    cases hs
                    obtain ⟨r1, rfl⟩ := putN_eq hp
                    obtain ⟨w', r2, r3, r4, r5⟩ := store_obj (P := P) s ok hg hys q3 (Nat.le_of_ble_eq_true hb4.1) (by omega) (fun mm _ => by omega)
                    exact ⟨w', ρ, inplace w' (Nat.le_of_ble_eq_true hb3) rfl r2, r3, r4, r5, dom_set hk⟩
                  · cases hs
              · cases e
            | false =>
              rw [hb3] at e
              simp only [cond_false] at e
              have hlt : k < m + n := Nat.lt_of_not_le fun q => by rw [Nat.ble_eq_true_of_le q] at hb3; cases hb3
              split at e
              · rename_i h2 hn
                cases e
                exact newrow h _ 0 s ok (fun _ k => k) hlt hn
              · cases e
          · split at e
            · rename_i sz2 lw2
              cases hb3 : (Nat.beq el' el && Nat.beq sz2 sz && Nat.beq lw2 lw && Nat.ble fz (o + m * sz) && Nat.beq (Nat.mod o sz) 0 && Nat.ble (o + m * sz) l.length) with
              | false => rw [hb3] at e; cases e
              | true =>
                rw [hb3] at e
                simp only [cond_true] at e
                simp only [Bool.and_eq_true] at hb3
                obtain ⟨⟨⟨⟨⟨r0, r1⟩, r2⟩, r3⟩, r4⟩, r5⟩ := hb3
                obtain rfl := Nat.eq_of_beq_eq_true r0
                obtain rfl := Nat.eq_of_beq_eq_true r1
                obtain rfl := Nat.eq_of_beq_eq_true r2
                have r3 := Nat.le_of_ble_eq_true r3
                have r4 : o % sz2 = 0 := Nat.eq_of_beq_eq_true r4
                have r5 := Nat.le_of_ble_eq_true r5
                have hdo : o = o / sz2 * sz2 := by
                  have := Nat.div_add_mod o sz2
                  rw [r4, Nat.add_zero, Nat.mul_comm] at this; exact this.symm
                have hroom : lw2 ≤ room ρ c lw2 := Nat.le_max_right _ _
                cases hb4 : (Nat.ble (o / sz2 + m + n) lw2 && sureS o sz2 none lw2) with
                | true =>
                  rw [hb4] at e
                  cases e
                  rw [Bool.and_eq_true] at hb4
                  have t1 := Nat.le_of_ble_eq_true hb4.1
                  have hmul : (m + n) * sz2 = m * sz2 + n * sz2 := Nat.add_mul _ _ _
                  obtain ⟨w', u2, u3, u4, u5⟩ := store_obj (P := P) s ok hg hys q3 r3 r5 (fun mm hop => by
                    simp only [opnOk] at hop
                    have h2 : (o / sz2 + (m + n)) * sz2 ≤ room ρ c lw2 * sz2 := Nat.mul_le_mul_right sz2 (by omega)
                    rw [Nat.add_mul, ← hdo, hmul] at h2
                    omega)
                  rw [show o + (m + n) * sz2 = o + m * sz2 + ys.length by rw [hyl, hmul]; omega]
                  exact ⟨w', ρ, by rw [inplace w' (by simp only [sCap]; omega) (sure_off hb4.2) u2]; simp only [den, sure_off hb4.2], u3, u4, u5, dom_set hk⟩
                | false =>
                  rw [hb4] at e
                  simp only [cond_false] at e
                  cases hb5 : (Nat.ble 1 n && Nat.ble 1 sz2) with
                  | false => rw [hb5] at e; cases e
                  | true =>
                    rw [hb5] at e
                    simp only [cond_true] at e
                    rw [Bool.and_eq_true] at hb5
                    have hn1' := Nat.le_of_ble_eq_true hb5.1
                    split at e
                    · rename_i h2 hn
                      cases e
                      by_cases hfit : m + n ≤ sCap ρ c o sz2 none lw2
                      · simp only [sCap] at hfit
                        obtain ⟨w', u2, u3, u4, u5⟩ := reloc_obj (P := P) s ok hg hn hold1 r5 hyl hsz hdo hfit r3 hys q3
                        have hso : sOff ρ c o sz2 none lw2 bk = o := by simp only [sOff]; rw [if_neg (by omega)]
                        refine ⟨w', _, ?_, u3, u4, u5, (new_dom hn).1⟩
                        rw [inplace w' (by simp only [sCap]; omega) hso (by rw [Nat.add_assoc] at u2; exact u2)]
                        have hroom2 : room (bind1 ρ id ⟨(ρ c).b, (ρ c).o + o, room ρ c lw2 - o / sz2⟩) id (m + n) = room ρ c lw2 - o / sz2 := by
                          simp only [room, bind1, if_true]; exact Nat.max_eq_left hfit
                        have hpos : ¬ room ρ c lw2 - o / sz2 = 0 := by omega
                        simp [den, sOff, sCap, hroom2, bind1, hpos]
                      · have hgone : okHp (hset h c .gone) := okHp_set ok (hget_spec hg).2 trivial
                        have sg : Sat M (objs ρ (hset h c .gone) ++ F) w := by
                          obtain ⟨R, p, q⟩ := objs_set ρ 12 h c c _ (p12 (hget_spec hg).2) (hget_spec hg).1
                          have s1 := s.perm (p.append_right F)
                          exact (s1.ent (Ent.head (B := objP ρ c .gone) fun _ _ => trivial)).perm ((q c .gone).append_right F).symm
                        exact newrow _ _ _ sg hgone (fun _ k => dom_set k) (by omega) hn
                    · cases e
            · cases e
        · cases e
      · cases e
  · cases e
theorem evE_call (hE : EOk P E) (ok : okHp h) (hr : ∀ y, okV (dom h) (r y)) {id : Nat} {c : Call} {x : SV} (e : evE T E G h id r (.call c) = some (x, h')) : EfOk P M ρ h r (.call c) x h' := by
  obtain ⟨callee, args, argTypes⟩ := c
  simp only [evE] at e
  have ea : ∀ l : List Operand, args.toList = l → args = l.toArray := fun l q => by rw [← q]
  have et : ∀ l : List TypeId, argTypes.toList = l → argTypes = l.toArray := fun l q => by rw [← q]
  split at e
  · -- append
    rename_i y1 y2 t0 t1 hx ht
    rw [ea _ hx, et _ ht]
    split at e
    · rename_i el sz by_ hel
      cases hb : (Nat.ble 1 sz && Nat.ble by_ 1000 && notIntT T t1 && zlen T el sz) with
      | false => rw [hb] at e; cases e
      | true =>
        rw [hb] at e
        simp only [cond_true] at e
        simp only [Bool.and_eq_true] at hb
        obtain ⟨⟨⟨q1, q2⟩, q3⟩, q4⟩ := hb
        split at e
        · rename_i n hn
          cases hb2 : Nat.ble n 10000 with
          | false => rw [hb2] at e; cases e
          | true =>
            rw [hb2] at e
            simp only [cond_true] at e
            split at e
            · rename_i ys hys
              cases hb3 : ys.all scalar with
              | false => rw [hb3] at e; cases e
              | true =>
                rw [hb3] at e
                simp only [cond_true] at e
                intro F w s dst ty pos aft gd
                obtain ⟨w', ρ', r1, r2, r3, r4, r5⟩ := appS_sound (P := P) (ty := ty) ok hel q3 (Nat.le_of_ble_eq_true q2) (Nat.le_of_ble_eq_true q1) q4 (Nat.le_of_ble_eq_true hb2) hn hys hb3 (hr y1) e s
                refine ⟨_, w', ρ', ?_, .inl rfl, r2, r3, r4, r5⟩
                have : execOp (fun y => den ρ (r y)) ⟨dst, .call ⟨.builtin .append, [y1, y2].toArray, [t0, t1].toArray⟩, ty, pos, aft, gd⟩ = (do pure (.value (← Builtin.append_ #[t0, t1] ty #[den ρ (r y1), den ρ (r y2)]))) := by
                  simp [execOp, resolve, invoke, builtin]
                rw [this, Sem.run_bind, r1]; rfl
            · cases e
        · cases e
    · cases e
  · -- copy
    rename_i y1 y2 t0 t1 hx ht
    rw [ea _ hx, et _ ht]
    split at e
    · rename_i el sz by_ hel
      obtain ⟨hu, hs, _⟩ := elemT_spec hel
      split at e
      · rename_i n m hn hm
        split at e
        · rename_i ys hys
          obtain ⟨q1, q2, q3, q4⟩ := srcS_sound (P := P) (M := M) (ρ := ρ) ok hm hys
          have ex : ∀ dst ty pos aft gd, execOp (fun y => den ρ (r y)) ⟨dst, .call ⟨.builtin .copy, [y1, y2].toArray, [t0, t1].toArray⟩, ty, pos, aft, gd⟩ = (do pure (.value (← Builtin.copy_ #[t0, t1] ty #[den ρ (r y1), den ρ (r y2)]))) := fun dst ty pos aft gd => by
            simp [execOp, resolve, invoke, builtin]
          split at e
          · rename_i h0
            cases e
            intro F w s dst ty pos aft gd
            refine ⟨_, w, ρ, ?_, .inl rfl, .refl w, s, .refl ok, trivial⟩
            rw [h0] at hn
            cases hn
            have hmin : Nat.min m 0 = 0 := Nat.min_zero m
            rw [hmin] at q1
            rw [ex, h0]
            have hfc := q1 F w s
            simp [Builtin.copy_, hu w, den, q4 w, hs w, goInt, hmin, hfc]
          · rename_i c o sz' n' cap lw bk h0
            cases hb : (Nat.beq sz sz' && sureS o sz cap lw) with
            | false => rw [hb] at e; cases e
            | true =>
              rw [hb] at e
              simp only [cond_true] at e
              rw [Bool.and_eq_true] at hb
              obtain rfl := Nat.eq_of_beq_eq_true hb.1
              split at e
              · rename_i h2 hst
                cases e
                unfold storeS at hst
                split at hst
                · rename_i el' l opn fz hg
                  cases hb4 : (Nat.ble fz o && ys.all scalar) with
                  | false => rw [hb4] at hst; cases hst
                  | true =>
                    rw [hb4] at hst
                    simp only [cond_true] at hst
                    rw [Bool.and_eq_true] at hb4
                    split at hst
                    · rename_i l' hp
                      cases hst
                      obtain ⟨r1, rfl⟩ := putN_eq hp
                      intro F w s dst ty pos aft gd
                      obtain ⟨w', r2, r3, r4, r5⟩ := store_obj (P := P) s ok hg hb4.2 q3 (Nat.le_of_ble_eq_true hb4.1) (by omega) (fun mm _ => by omega)
                      refine ⟨_, w', ρ, ?_, .inl rfl, r3, r4, r5, trivial⟩
                      rw [h0] at hn
                      simp only [lenS, Option.some.injEq] at hn
                      subst hn
                      have hfc := q1 F w s
                      rw [ex, h0]
                      simp only [Builtin.copy_, List.getElem?_toArray, List.getElem?_cons_zero, List.getElem?_cons_succ, Sem.run_bind, hu w, den, sure_off hb.2, q4 w, hs w, Result.andThen_ok, hfc, r2, Sem.run_pure, goInt]
                    · cases hst
                · cases hst
              · cases e
          · cases e
        · cases e
      · cases e
    · cases e
  · -- unsafe.String
    rename_i y1 y2 pt rest hx ht
    rw [ea _ hx, et _ ht]
    have ex : ∀ dst ty pos aft gd, execOp (fun y => den ρ (r y)) ⟨dst, .call ⟨.builtin .unsafeString, [y1, y2].toArray, (pt :: rest).toArray⟩, ty, pos, aft, gd⟩ = (do pure (.value (← Builtin.unsafeString_ (pt :: rest).toArray ty #[den ρ (r y1), den ρ (r y2)]))) := fun dst ty pos aft gd => by
      simp [execOp, resolve, invoke, builtin]
    have hemp : (⟨⟨[]⟩⟩ : ByteArray) = ByteArray.empty := rfl
    split at e
    · rename_i hn
      obtain ⟨kd, hy⟩ := natOf_eq hn
      split at e
      · rename_i h1
        cases e
        intro F w s dst ty pos aft gd
        refine ⟨_, w, ρ, ?_, .inl rfl, .refl w, s, .refl ok, trivial⟩
        rw [ex, h1, hy, Sem.run_bind]
        simp only [den]
        have : ∀ p, (Builtin.unsafeString_ (pt :: rest).toArray ty #[.pointer p, .int kd ((0 : Nat) : Int)]).run P w = .ok (.string .empty) w := fun p => by
          change (Sem.run P (Bind.bind (asInt (Value.int kd ((0 : Nat) : Int))) _) w) = _
          cases p <;> simp [asInt, asIntOf, IntKind.max, IntKind.signed, IntKind.bits]
        rw [this]; rfl
      · rename_i h1
        cases e
        intro F w s dst ty pos aft gd
        refine ⟨_, w, ρ, ?_, .inl rfl, .refl w, s, .refl ok, trivial⟩
        rw [ex, h1, hy, Sem.run_bind]
        simp only [den]
        have : ∀ p, (Builtin.unsafeString_ (pt :: rest).toArray ty #[.pointer p, .int kd ((0 : Nat) : Int)]).run P w = .ok (.string .empty) w := fun p => by
          change (Sem.run P (Bind.bind (asInt (Value.int kd ((0 : Nat) : Int))) _) w) = _
          cases p <;> simp [asInt, asIntOf, IntKind.max, IntKind.signed, IntKind.bits]
        rw [this]; rfl
      · cases e
    · rename_i n hn0 hn
      obtain ⟨kd, hy⟩ := natOf_eq hn
      split at e
      · rename_i c o tp h1 htp
        split at e
        · rename_i e0 el l opn fz hd hg
          split at e
          · rename_i k te hk hte
            split at e
            · rename_i bs hbs
              cases hb : (Nat.beq el e0 && Nat.beq te.size 1 && Nat.ble n 100000) with
              | false => rw [hb] at e; cases e
              | true =>
                rw [hb] at e
                cases e
                simp only [Bool.and_eq_true] at hb
                obtain ⟨⟨b1, b2⟩, b3⟩ := hb
                obtain rfl := Nat.eq_of_beq_eq_true b1
                have b2 := Nat.eq_of_beq_eq_true b2
                have b3 := Nat.le_of_ble_eq_true b3
                have hnz : n ≠ 0 := fun q => hn0 (by rw [q])
                obtain ⟨hk1, hk2⟩ := span_eq hk
                obtain ⟨ns, h5, h6⟩ := allCl_eq (ρ := ρ) hbs
                intro F w s dst ty pos aft gd
                obtain ⟨pre, post, z, g1, g2, g3, g4⟩ := s.objAt hg
                have kl : okVs (dom h) l := okO_get ok hg
                have hc := (hget_spec hg).2
                refine ⟨_, w.freeze ⟨(ρ c).b, (ρ c).o + o, none⟩ n, ρ, ?_, .inl rfl, ?_, ?_, ⟨fun c k => dom_set k, fun _ _ => rfl, okHp_set ok hc (okVs_up (fun _ hd => dom_set hd) _ kl)⟩, trivial⟩
                · have hva : (variablesAt ⟨(ρ c).b, (ρ c).o + o, none⟩ el n).run P w = .ok true w := by
                    have hcs := cellsOf_T (h := h) hr hte
                    have hl : liesAt P P.depth el ((pre ++ dens ρ l ++ post).toArray.size / P.cellsOf el) ((ρ c).o + o) el n = true := by
                      refine liesAt_self (h := h) hr hcs (by omega) (by rw [b2]; exact Nat.mod_one _) ?_
                      rw [hcs, b2]
                      simp only [Nat.div_one, List.size_toArray, List.length_append, dens_len]
                      omega
                    have hw : w.heap[(ρ c).b]? = some (.cells (pre ++ dens ρ l ++ post).toArray el z) := g1
                    simp [variablesAt, program, shape, Sem.run, World.shape?, hw] at hl ⊢
                    exact hl
                  have hlb : ∀ (m : Nat) (acc : ByteArray) (us : List Int) (i : Nat), us.length = m → (∀ j, j < m → w.cell? ⟨(ρ c).b, (ρ c).o + o + i + j, none⟩ = (us[j]?).map fun u => Value.int .u8 u) → (loadBytes ⟨(ρ c).b, (ρ c).o + o + i, none⟩ acc m).run P w = .ok (us.foldl (fun r n => r.push (UInt8.ofNat n.toNat)) acc) w := by
                    intro m
                    induction m with
                    | zero => intro acc us i hl _; have : us = [] := List.eq_nil_of_length_eq_zero hl; subst this; rfl
                    | succ m ih =>
                      intro acc us i hl hcell
                      cases us with
                      | nil => simp at hl
                      | cons u us =>
                        have h0 := hcell 0 (by omega)
                        simp only [Nat.add_zero, List.getElem?_cons_zero, Option.map_some] at h0
                        have hld : (load ⟨(ρ c).b, (ρ c).o + o + i, none⟩).run P w = .ok (Value.int .u8 u) w := by simp [load, Sem.run, h0]
                        simp only [loadBytes, Sem.run_bind, hld, Result.andThen_ok, add_none, List.foldl_cons]
                        have := ih (acc.push (UInt8.ofNat u.toNat)) us (i + 1) (by simpa using hl) (fun j hj => by
                          have := hcell (j + 1) (by omega)
                          simp only [List.getElem?_cons_succ] at this
                          rw [← this]; congr 2; omega)
                        rw [← Nat.add_assoc] at this
                        exact this
                  have hnsl : ns.length = n := by
                    have := congrArg List.length h5
                    rw [dens_len, hk1] at this
                    simp at this; omega
                  have hlb2 := hlb n ByteArray.empty ns 0 hnsl (fun j hj => by
                    have hj2 : o + j < l.length := by omega
                    have h7 := objCell (ρ := ρ) (w := w) (c := c) (s.objAt hg) (List.getElem?_eq_getElem hj2)
                    rw [Nat.add_zero, Nat.add_assoc, h7]
                    have h8 : (dens ρ k)[j]? = some (den ρ l[o + j]) := by
                      rw [dens_map, List.getElem?_map, hk1, List.getElem?_take_of_lt hj, List.getElem?_drop, List.getElem?_eq_getElem hj2]; rfl
                    rw [h5, List.getElem?_map] at h8
                    exact h8.symm)
                  rw [Nat.add_zero] at hlb2
                  rw [foldl_push] at hlb2
                  have hbse : (⟨⟨ByteArray.empty.data.toList ++ ns.map fun n => UInt8.ofNat n.toNat⟩⟩ : ByteArray) = ⟨⟨bs⟩⟩ := by rw [h6]; rfl
                  rw [hbse] at hlb2
                  have hel : (elemOf pt).run P w = .ok el w := by simp [elemOf, run_und htp, hd]
                  have hnz2 : ¬ (n : Int) = 0 := by omega
                  have hneg : ¬ (n : Int) < 0 := by omega
                  have hbig : ¬ IntKind.i64.max < (n : Int) := by simp [IntKind.max, IntKind.signed, IntKind.bits]; omega
                  have hfr : (freeze ⟨(ρ c).b, (ρ c).o + o, none⟩ n).run P w = .ok () (w.freeze ⟨(ρ c).b, (ρ c).o + o, none⟩ n) := rfl
                  rw [ex, h1, hy, Sem.run_bind]
                  simp only [den]
                  have : (Builtin.unsafeString_ (pt :: rest).toArray ty #[.pointer (some ⟨(ρ c).b, (ρ c).o + o, none⟩), .int kd (n : Int)]).run P w = .ok (.string ⟨⟨bs⟩⟩) (w.freeze ⟨(ρ c).b, (ρ c).o + o, none⟩ n) := by
                    change (Sem.run P (Bind.bind (asInt (Value.int kd (n : Int))) _) w) = _
                    simp [asInt, asIntOf, hel, hva, hlb2, hfr, hnz, hnz2, hneg, hbig]
                    omega
                  rw [this]; rfl
                · unfold World.freeze
                  split
                  · exact .refl w
                  · exact ⟨rfl, rfl, rfl, by simp⟩
                · have hw : w.heap[(ρ c).b]? = some (.cells (pre ++ dens ρ l ++ post).toArray el z) := g1
                  refine s.objSet (b := (ρ c).b) hg (fun g hgg => ?_) (ob' := .cells (pre ++ dens ρ l ++ post).toArray el (if z.1 == z.2 then ((ρ c).o + o, (ρ c).o + o + n) else (min z.1 ((ρ c).o + o), max z.2 ((ρ c).o + o + n)))) (fun x => ?_) fun g hgg => ?_
                  · obtain ⟨p1, p2, p3, p4, _⟩ := hgg; exact ⟨_, p4⟩
                  · unfold World.freeze
                    rw [if_neg hnz]
                    simp only [Array.getElem?_modify]
                    by_cases hxx : (ρ c).b = x
                    · subst hxx
                      rw [if_pos rfl, if_pos rfl, hw]
                      rfl
                    · have : ¬ x = (ρ c).b := fun q => hxx q.symm
                      rw [if_neg hxx, if_neg this]
                  · refine ⟨pre, post, _, hgg, g2, .inr ?_, g4⟩
                    have hm1 : fz ≤ Nat.max fz (o + n) := Nat.le_max_left _ _
                    have hm2 : o + n ≤ Nat.max fz (o + n) := Nat.le_max_right _ _
                    split
                    · show (ρ c).o + o + n ≤ _; omega
                    · rename_i hne
                      show max z.2 ((ρ c).o + o + n) ≤ _
                      rcases g3 with q | q
                      · exact absurd (beq_iff_eq.2 q) hne
                      · omega
            · cases e
          · cases e
        · cases e
      · cases e
    · cases e
  · -- delete
    rename_i y1 y2 t0 t1 hx ht
    rw [ea _ hx, et _ ht]
    split at e
    · rename_i kt et' c hmt hm
      split at e
      · rename_i es clk kl hg hks
        obtain ⟨hkc, hkk⟩ := keyS_spec hks
        have hkd := keyC_den (ρ := ρ) hkc
        have hck := fun em w => (checkKey_sound (ρ := ρ) (P := P) (T := T) hE 8).1 kt kl hkk 10000 (by omega) em w
        have kes := okO_get ok hg
        have ex : ∀ dst ty pos aft gd, execOp (fun y => den ρ (r y)) ⟨dst, .call ⟨.builtin .delete, [y1, y2].toArray, [t0, t1].toArray⟩, ty, pos, aft, gd⟩ = (do pure (.value (← Builtin.delete_ #[t0, t1] ty #[den ρ (r y1), den ρ (r y2)]))) := fun dst ty pos aft gd => by
          simp [execOp, resolve, invoke, builtin]
        split at e
        · rename_i i l v b hf
          cases e
          obtain ⟨n, k', hin, hn, _, _⟩ := findS_mem hf
          have hin : i = n := by omega
          subst hin
          intro F w s dst ty pos aft gd
          obtain ⟨w', r1, r2, r3, r4⟩ := set_map (P := P) (clk' := clk) (es' := delNth es i) s ok hg (fun e he => kes e (delNth_mem he))
          refine ⟨_, w', ρ, ?_, .inl rfl, r2, r3, r4, trivial⟩
          have hgm := getMap (P := P) s hg
          have hfk := findS_sound (ρ := ρ) (P := P) hE hkk hf w
          rw [← hkd] at hfk
          have hlt : i < es.length := (List.getElem?_eq_some_iff.1 hn).1
          have her : (es.map (entryOf ρ)).toArray.eraseIdxIfInBounds i = ((delNth es i).map (entryOf ρ)).toArray := by
            rw [delNth_map]
            apply Array.ext'
            simp [Array.eraseIdxIfInBounds, hlt]
          rw [ex, hm]
          simp only [Builtin.delete_, List.getElem?_toArray, List.getElem?_cons_zero, List.getElem?_cons_succ, Sem.run_bind, mapT_und hmt w, den, Result.andThen_ok, hgm]
          rw [hkd, hck, ← hkd]
          simp only [Result.andThen_ok, hfk, found, Option.map_some]
          rw [her, Sem.run_bind, r1]
          rfl
        · rename_i hf
          cases e
          intro F w s dst ty pos aft gd
          have hgm := getMap (P := P) s hg
          have hob : w.heap[(ρ c).b]? = some (.map (es.map (entryOf ρ)).toArray clk) := s.objAt hg
          have hset : (setObj (ρ c).b (.map (es.map (entryOf ρ)).toArray clk)).run P w = .ok () w := by
            simp only [setObj, Sem.run, hob]
            congr 1
            have hlt : (ρ c).b < w.heap.size := (Array.getElem?_eq_some_iff.1 hob).1
            have : w.heap.setIfInBounds (ρ c).b (.map (es.map (entryOf ρ)).toArray clk) = w.heap := by
              apply Array.ext_getElem?
              intro i
              rw [Array.getElem?_setIfInBounds]
              by_cases hi : (ρ c).b = i
              · subst hi; rw [if_pos rfl, if_pos hlt, hob]
              · simp [hi]
            rw [this]
          refine ⟨_, w, ρ, ?_, .inl rfl, .refl w, s, .refl ok, trivial⟩
          have hfk := findS_sound (ρ := ρ) (P := P) hE hkk hf w
          rw [← hkd] at hfk
          rw [ex, hm]
          simp only [Builtin.delete_, List.getElem?_toArray, List.getElem?_cons_zero, List.getElem?_cons_succ, Sem.run_bind, mapT_und hmt w, den, Result.andThen_ok, hgm]
          rw [hkd, hck, ← hkd]
          simp only [Result.andThen_ok, hfk, found, Option.map_none]
          rw [Sem.run_bind, hset]
          rfl
        · cases e
      · cases e
    · cases e
  · cases e

/-- **Each operation that acts.** -/
theorem evE_sound (hE : EOk P E) (ok : okHp h) (hr : ∀ y, okV (dom h) (r y)) {id : Nat} {op : Op} {x : SV} (e : evE T E G h id r op = some (x, h')) : EfOk P M ρ h r op x h' := by
  cases op <;> first
    | (simp only [evE] at e; cases e; done)
    | exact evE_alloc ok e
    | exact evE_box ok hr e
    | exact evE_buildSlice ok hr e
    | exact evE_makeSlice ok hr e
    | exact evE_convert ok hr e
    | exact evE_makeMap ok e
    | exact evE_store ok hr e
    | exact evE_upd hE ok hr e
    | exact evE_insert hE ok hr e
    | exact evE_mapEntry hE ok hr e
    | exact evE_entryStore ok hr e
    | exact evE_range ok hr e
    | exact evE_next ok hr e
    | exact evE_call hE ok hr e
end
end Go.Gv
