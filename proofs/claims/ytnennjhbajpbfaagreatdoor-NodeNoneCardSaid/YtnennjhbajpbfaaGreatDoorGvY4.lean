/- The machine's reads are the model's: structs written out, slices, conversions, lengths. -/
import Derived.Test.YtnennjhbajpbfaaGreatDoorGvY3
import Derived.Laws.BytesString
namespace Go.Gv
set_option linter.unusedVariables false
set_option linter.unusedSimpArgs false
set_option linter.unusedSectionVars false

theorem putN_eq : ∀ {l vs r : List SV} {o : Nat}, putN l o vs = some r → o + vs.length ≤ l.length ∧ r = l.take o ++ vs ++ l.drop (o + vs.length)
  | l, [], r, 0, e => by simp [putN] at e; subst e; simp
  | [], v :: vs, r, 0, e => by simp [putN] at e
  | x :: l, v :: vs, r, 0, e => by
    simp only [putN] at e
    split at e
    · rename_i r' h; cases e
      obtain ⟨h1, rfl⟩ := putN_eq h
      simp at h1
      refine ⟨by simp; omega, by simp⟩
    · cases e
  | [], vs, r, o + 1, e => by simp [putN] at e
  | x :: l, vs, r, o + 1, e => by
    simp only [putN] at e
    split at e
    · rename_i r' h; cases e
      obtain ⟨h1, rfl⟩ := putN_eq h
      refine ⟨by simp; omega, ?_⟩
      rw [show o + 1 + vs.length = (o + vs.length) + 1 by omega]
      simp
    · cases e
theorem nthP_eq : ∀ (l : List (Nat × Nat)) (n : Nat), nthP l n = l[n]?
  | [], n => by simp [nthP]
  | x :: l, 0 => by simp [nthP]
  | x :: l, n + 1 => by simp [nthP, nthP_eq l n]

theorem foldl_push : ∀ (ns : List Int) (s : ByteArray), ns.foldl (fun r n => r.push (UInt8.ofNat n.toNat)) s = ⟨⟨s.data.toList ++ ns.map fun n => UInt8.ofNat n.toNat⟩⟩
  | [], s => by
    obtain ⟨⟨l⟩⟩ := s
    simp
  | n :: ns, s => by
    rw [List.foldl_cons, foldl_push ns]
    obtain ⟨⟨l⟩⟩ := s
    simp [ByteArray.push]

section
variable {P : Program} {T : TT P} {E : EqT} {G : GT} {M : Heap} {ρ : Rho} {h : Hp} {F : List HP} {w : World}

theorem cells_den (x : SV) : (den ρ x).cells.toList = dens ρ (cellsOf x) := by
  cases x with
  | v x => cases x <;> simp [den, cellsOf, Value.cells, dens, dens_v]
  | a l => simp [den, cellsOf, Value.cells]
  | _ => simp [den, cellsOf, Value.cells, dens]
theorem okV_cells {D : Nat → Prop} {x : SV} (k : okV D x) : okVs D (cellsOf x) := by
  cases x with
  | v x =>
    cases x <;> simp only [cellsOf] <;> first
      | exact ⟨trivial, trivial⟩
      | (exact okVs_iff.2 fun y hy => by obtain ⟨z, _, rfl⟩ := List.mem_map.1 hy; trivial)
  | a l => exact k
  | _ => exact ⟨k, trivial⟩
theorem okVs_v {D : Nat → Prop} (l : List Value) : okVs D (l.map .v) := okVs_iff.2 fun y hy => by obtain ⟨z, _, rfl⟩ := List.mem_map.1 hy; trivial
theorem okVs_app {D : Nat → Prop} {l k : List SV} (h1 : okVs D l) (h2 : okVs D k) : okVs D (l ++ k) := okVs_iff.2 fun x hx => by
  rcases List.mem_append.1 hx with q | q
  · exact okVs_iff.1 h1 x q
  · exact okVs_iff.1 h2 x q
theorem okVs_take {D : Nat → Prop} {l : List SV} (n : Nat) (h1 : okVs D l) : okVs D (l.take n) := okVs_sub h1 fun _ hx => List.mem_of_mem_take hx
theorem okVs_drop {D : Nat → Prop} {l : List SV} (n : Nat) (h1 : okVs D l) : okVs D (l.drop n) := okVs_sub h1 fun _ hx => List.mem_of_mem_drop hx
theorem okVs_put {D : Nat → Prop} {l vs r : List SV} {o : Nat} (e : putN l o vs = some r) (h1 : okVs D l) (h2 : okVs D vs) : okVs D r := by
  obtain ⟨_, rfl⟩ := putN_eq e
  exact okVs_app (okVs_app (okVs_take _ h1) h2) (okVs_drop _ h1)
theorem put_setAll {l vs r : List SV} {o : Nat} (e : putN l o vs = some r) : setAll (dens ρ l) o (dens ρ vs) = dens ρ r := by
  obtain ⟨h1, rfl⟩ := putN_eq e
  rw [setAll_eq (by simp only [dens_len]; exact h1)]
  simp [dens_map]
theorem fillS_sound {place : Nat → Option (Nat × Nat)} : ∀ {parts : List (Nat × SV)} {cells l : List SV}, fillS place cells parts = some l → fillL place (dens ρ cells) (parts.map fun p => (p.1, den ρ p.2)) = some (dens ρ l)
  | [], cells, l, e => by simp only [fillS] at e; cases e; rfl
  | (i, v) :: rest, cells, l, e => by
    simp only [fillS] at e
    simp only [List.map_cons, fillL]
    cases hp : place i with
    | none => rw [hp] at e; cases e
    | some os =>
      obtain ⟨off, size⟩ := os
      rw [hp] at e
      simp only at e ⊢
      cases hb : Nat.beq (cellsOf v).length size with
      | false => rw [hb] at e; cases e
      | true =>
        rw [hb] at e
        simp only [cond_true] at e
        split at e
        · rename_i c hc
          obtain ⟨h1, _⟩ := putN_eq hc
          have h2 := Nat.eq_of_beq_eq_true hb
          have h3 : (Nat.beq (den ρ v).cells.toList.length size && Nat.ble (off + size) (dens ρ cells).length) = true := by
            rw [cells_den, dens_len, dens_len, hb, Bool.true_and]
            exact Nat.ble_eq_true_of_le (by omega)
          rw [h3, cells_den]
          simp only [cond_true, put_setAll hc]
          exact fillS_sound e
        · cases e
theorem okVs_fill {D : Nat → Prop} {place : Nat → Option (Nat × Nat)} : ∀ {parts : List (Nat × SV)} {cells l : List SV}, fillS place cells parts = some l → okVs D cells → (∀ p ∈ parts, okV D p.2) → okVs D l
  | [], cells, l, e, h1, _ => by simp only [fillS] at e; cases e; exact h1
  | (i, v) :: rest, cells, l, e, h1, h2 => by
    simp only [fillS] at e
    split at e
    · cases e
    · rename_i off size hp
      cases hb : Nat.beq (cellsOf v).length size with
      | false => rw [hb] at e; cases e
      | true =>
        rw [hb] at e
        simp only [cond_true] at e
        split at e
        · rename_i c hc
          exact okVs_fill e (okVs_put hc h1 (okV_cells (h2 (i, v) (by simp)))) fun p hp => h2 p (by simp [hp])
        · cases e
theorem buildS_sound {t : Nat} {parts : List (Nat × SV)} {l : List SV} (e : buildS T t parts = some l) : buildT T t (parts.map fun p => (p.1, den ρ p.2)) = some (dens ρ l) := by
  unfold buildS at e
  unfold buildT
  split at e
  · rename_i ti hti
    split at e
    · rename_i fs hd
      split at e
      · rename_i pl hpl
        have := fillS_sound (ρ := ρ) e
        rw [dens_v] at this
        rw [show nthP pl = (fun i => pl[i]?) from funext fun i => nthP_eq pl i] at this
        simp only [hti, hd, hpl]
        exact this
      · cases e
    · cases e
  · cases e

theorem sure_off {c o sz lw bk : Nat} {cap : Option Nat} (e : sureS o sz cap lw = true) : sOff ρ c o sz cap lw bk = o := by
  cases cap with
  | some k => rfl
  | none =>
    simp only [sureS, Nat.blt_eq] at e
    have h1 : lw ≤ room ρ c lw := Nat.le_max_right _ _
    simp only [sOff]
    rw [if_neg (by omega)]
theorem allCl_eq : ∀ {l : List SV} {bs : List UInt8}, allCl l = some bs → ∃ ns : List Int, dens ρ l = ns.map (fun n => .int .u8 n) ∧ bs = ns.map fun n => UInt8.ofNat n.toNat
  | [], bs, e => by simp [allCl] at e; subst e; exact ⟨[], rfl, rfl⟩
  | x :: l, bs, e => by
    unfold allCl at e
    split at e
    · cases ‹x :: l = []›
    · rename_i n l' hx
      cases hx
      split at e
      · rename_i r hr
        cases e
        obtain ⟨ns, h1, rfl⟩ := allCl_eq hr
        exact ⟨(n : Int) :: ns, by simp [dens, den, h1], by simp⟩
      · cases e
    · cases e
theorem srcS_sound {sz n m : Nat} {x : SV} {ys : List SV} (ok : okHp h) (hn : lenS x = some m) (e : srcS h sz x n = some ys) :
    (∀ F w, Sat M (objs ρ h ++ F) w → (Builtin.firstCells sz n (den ρ x)).run P w = .ok (dens ρ ys).toArray w) ∧ (n ≤ m → ys.length = n * sz) ∧ okVs (dom h) ys ∧ ∀ w, (Builtin.lenOf (den ρ x)).run P w = .ok m w := by
  unfold srcS at e
  split at e
  · cases hb : Nat.beq n 0 with
    | false => rw [hb] at e; cases e
    | true =>
      rw [hb] at e
      cases e
      cases hn
      obtain rfl := Nat.eq_of_beq_eq_true hb
      exact ⟨fun F w s => rfl, fun _ => by simp, trivial, fun w => rfl⟩
  · rename_i s
    cases hb : (Nat.beq sz 1 && Nat.ble n (bsOf s).length) with
    | false => rw [hb] at e; cases e
    | true =>
      rw [hb] at e
      rw [Bool.and_eq_true] at hb
      obtain rfl := Nat.eq_of_beq_eq_true hb.1
      have hle := Nat.le_of_ble_eq_true hb.2
      cases e
      simp only [lenS, Option.some.injEq] at hn
      refine ⟨fun F w s' => ?_, fun _ => by simp; omega, okVs_iff.2 fun y hy => by obtain ⟨z, _, rfl⟩ := List.mem_map.1 hy; trivial, fun w => ?_⟩
      · simp only [den, Builtin.firstCells, Sem.run_pure]
        congr 1
        apply Array.ext'
        simp [dens_map, den, bsOf, Function.comp_def, List.map_take, Array.toList_extract]
      · simp only [den, Builtin.lenOf, Sem.run_pure, ← hn, bsOf]; simp
  · rename_i c o sz' m' cap lw bk
    cases hb : (Nat.beq sz sz' && Nat.ble n m' && (Nat.beq n 0 || sureS o sz cap lw)) with
    | false => rw [hb] at e; cases e
    | true =>
      rw [hb] at e
      simp only [cond_true] at e
      rw [Bool.and_eq_true, Bool.and_eq_true] at hb
      obtain ⟨⟨hb1, hb2⟩, hb3⟩ := hb
      obtain rfl := Nat.eq_of_beq_eq_true hb1
      simp only [lenS, Option.some.injEq] at hn
      subst hn
      split at e
      · rename_i el l opn fz hg
        obtain ⟨hy, hlen⟩ := span_eq e
        refine ⟨fun F w s => ?_, fun _ => ?_, ?_, fun w => rfl⟩
        · have ho := s.objAt hg
          simp only [den, Builtin.firstCells]
          by_cases hn0 : n = 0
          · subst hn0
            rw [hy]; simp [loadCells, loadCellsFrom, dens]
          · have hs : sureS o sz cap lw = true := by
              rcases Bool.or_eq_true _ _ ▸ hb3 with q | q
              · exact absurd (Nat.eq_of_beq_eq_true q) hn0
              · exact q
            rw [sure_off hs]
            exact objSpan ho e
        · rw [hy]; simp; omega
        · rw [hy]; exact okVs_take _ (okVs_drop _ (okO_get ok hg))
      · cases e
  · cases e

variable {r : Operand → SV} (hr : ∀ y, okV (dom h) (r y))
include hr
theorem evP_build {t : Nat} {parts : Array (Nat × Operand)} {y : SV} (e : evP T E G h r (.build t parts) = some y) : PuOk P M ρ h r (.build t parts) y := by
  simp only [evP] at e
  split at e
  · rename_i l hl
    cases e
    refine PuOk.pv (T := T) ?_ ?_
    · have h2 := buildS_sound (ρ := ρ) hl
      rw [List.map_map] at h2
      simp only [pv]
      have h3 : (parts.toList.map fun p => (p.1, den ρ (r p.2))) = parts.toList.map ((fun p => (p.1, den ρ p.2)) ∘ fun p => (p.1, r p.2)) := rfl
      rw [h3, h2]; rfl
    · unfold buildS at hl
      split at hl
      · split at hl
        · split at hl
          · exact okVs_fill hl (okVs_v _) fun p hp => by obtain ⟨q, _, rfl⟩ := List.mem_map.1 hp; exact hr _
          · cases hl
        · cases hl
      · cases hl
  · cases e
theorem isStr {t : Nat} (e : isStringT T t = true) (w : World) : (underlying t).run P w = .ok .string w := by
  unfold isStringT at e
  split at e
  · rename_i ti hti
    split at e
    · rename_i hd; rw [run_und hti, hd]
    · cases e
  · cases e
theorem cellsOf_T {e : Nat} {te : TI P} (h : T.get e = some te) : P.cellsOf e = te.size := by
  have h1 := TT.siz h default
  unfold Program.cellsOf
  simp only [sizeOf, typeInfo, program, Sem.run_bind, Sem.run, Result.andThen_ok] at h1
  cases hi : P.info? e with
  | none => rw [hi] at h1; simp [stuck, Sem.run, Result.andThen] at h1
  | some i =>
    rw [hi] at h1
    simp only [Sem.run_pure, Result.andThen_ok] at h1
    injection h1
theorem same_self (n : Nat) (e : Nat) : sameLayout P (n + 1) e e = true := by
  simp [sameLayout]
theorem liesAt_self {e s off n count : Nat} (hs : P.cellsOf e = s) (h1 : 1 ≤ s) (h2 : off % s = 0) (h3 : off / s + n ≤ count) : liesAt P P.depth e count off e n = true := by
  have hd : P.depth = (2 * (P.types.size + Made.depth) + 1) + 1 := rfl
  rw [hd]
  simp only [liesAt]
  rw [hd]
  simp only [rowAt, hs, h2]
  rw [if_neg (by omega)]
  simp [h3, same_self hr]
theorem evP_convert (ok : okHp h) {s t : Nat} {x : Operand} {y : SV} (e : evP T E G h r (.convert s t x) = some y) : PuOk P M ρ h r (.convert s t x) y := by
  simp only [evP] at e
  unfold cvS at e
  split at e
  · rename_i k0 n hx
    split at e
    · rename_i k hk
      split at e
      · rename_i ts hts
        cases e
        exact PuOk.pv (T := T) (by simp only [pv, hx, den, hk, hts]) trivial
      · cases e
    · cases e
  · rename_i b hx
    cases hb : (isStringT T t && isStringT T s) with
    | false => rw [hb] at e; cases e
    | true =>
      rw [hb] at e
      cases e
      rw [Bool.and_eq_true] at hb
      refine ⟨fun F w sat dst ty pos aft gd => ?_, hr x⟩
      simp only [execOp, hx, den, convert, Sem.run_bind, isStr hr hb.1 w, isStr hr hb.2 w, Result.andThen_ok, Sem.run_pure]
  · -- unsafe pointers
    rename_i c o hx
    have kx := hr x
    rw [hx] at kx
    have shp : ∀ w el l opn fz, objP ρ c (.cells el l opn fz) (hp w) → ∃ C z, w.heap[(ρ c).b]? = some (.cells C el z) ∧ (ρ c).o + l.length ≤ C.size ∧ (opn = none → C.size = l.length ∧ (ρ c).o = 0) := by
      rintro w el l opn fz ⟨pre, post, z, h1, h2, _, h4⟩
      refine ⟨_, z, h1, by simp [dens_map]; omega, ?_⟩
      rintro rfl
      obtain ⟨h5, h6⟩ := h4
      refine ⟨?_, h6⟩
      simp only [List.size_toArray, List.length_append, dens_len]
      omega
    split at e
    · rename_i ts tt hts htt
      split at e
      · rename_i e0 hd1 hd2
        split at e
        · rename_i te el l opn fz hte hg
          cases hb : (Nat.ble 1 te.size && Nat.blt o l.length) with
          | false => rw [hb] at e; cases e
          | true =>
            rw [hb] at e
            cases e
            rw [Bool.and_eq_true] at hb
            have b1 := Nat.le_of_ble_eq_true hb.1
            have b2 : o < l.length := by simpa using hb.2
            refine ⟨fun F w sat dst ty pos aft gd => ?_, by rw [hx]; exact kx⟩
            obtain ⟨C, z, h1, h2, _⟩ := shp w _ _ _ _ (sat.objAt hg)
            have hlt : ¬ C.size ≤ (ρ c).o + o := by omega
            have hne : ¬ te.size = 0 := by omega
            have hsz := TT.siz hte w
            simp [execOp, hx, den, convert, run_und hts, run_und htt, hd1, hd2, Conv.unsafePointer, Conv.seenAt, viewAt, cellsIn, shape, Sem.run, World.shape?, h1, hsz, hne, hlt]
        · cases e
      · rename_i e0 hd1 hd2
        split at e
        · rename_i te el l fz hte hg
          cases hb : (Nat.ble 1 te.size && Nat.beq el e0 && Nat.beq o 0 && Nat.beq l.length te.size) with
          | false => rw [hb] at e; cases e
          | true =>
            rw [hb] at e
            cases e
            simp only [Bool.and_eq_true] at hb
            obtain ⟨⟨⟨b1, b2⟩, b3⟩, b4⟩ := hb
            have b1 := Nat.le_of_ble_eq_true b1
            obtain rfl := Nat.eq_of_beq_eq_true b2
            obtain rfl := Nat.eq_of_beq_eq_true b3
            have b4 := Nat.eq_of_beq_eq_true b4
            refine ⟨fun F w sat dst ty pos aft gd => ?_, by rw [hx]; exact kx⟩
            obtain ⟨C, z, h1, h2, h3⟩ := shp w _ _ _ _ (sat.objAt hg)
            obtain ⟨h4, h5⟩ := h3 rfl
            have hne : ¬ te.size = 0 := by omega
            have hsz := TT.siz hte w
            have hc := cellsOf_T hr hte
            have hva : (variablesAt ⟨(ρ c).b, 0, none⟩ el 1).run P w = .ok true w := by
              have hl : liesAt P P.depth el (C.size / P.cellsOf el) 0 el 1 = true := by
                refine liesAt_self hr hc b1 (by simp) ?_
                rw [hc, h4, b4, Nat.div_self (by omega)]; simp
              simp [variablesAt, program, shape, Sem.run, World.shape?, h1, hl]
            simp [execOp, hx, den, convert, run_und hts, run_und htt, hd1, hd2, Conv.unsafePointer, Conv.seenAt, viewAt, shape, Sem.run, World.shape?, h1, hsz, hne, h5, hva]
        · cases e
      · cases e
    · cases e
  · cases hb : isStringT T t with
    | false => rw [hb] at e; cases e
    | true =>
      rw [hb] at e
      simp only [cond_true] at e
      split at e
      · rename_i el by_ hel
        cases hk : (intKindT T el == some .u8) with
        | false => rw [hk] at e; cases e
        | true =>
          rw [hk] at e
          simp only [cond_true] at e
          split at e
          · rename_i n hn
            split at e
            · rename_i l hl
              split at e
              · rename_i bs hbs
                cases e
                refine ⟨fun F w sat dst ty pos aft gd => ?_, trivial⟩
                obtain ⟨h1, h2, h3, h4⟩ := srcS_sound (P := P) (M := M) (ρ := ρ) ok hn hl
                obtain ⟨ns, h5, h6⟩ := allCl_eq (ρ := ρ) hbs
                obtain ⟨hu, _, _⟩ := elemT_spec hel
                have huel : ∀ w, (underlying el).run P w = .ok (.int .u8) w := by
                  unfold intKindT at hk
                  split at hk
                  · rename_i te hte
                    split at hk
                    · rename_i k hd
                      have : k = .u8 := by simpa using hk
                      subst this
                      intro w; rw [run_und hte, hd]
                    · simp at hk
                  · simp at hk
                have hfc := h1 F w sat
                have conv : ∀ v, den ρ (r x) = v → (∃ a n' c, v = .slice a n' c) → (convert s t v).run P w = (Conv.bytesToString v).run P w := by
                  rintro v _ ⟨a, n', c, rfl⟩
                  cases a <;> simp only [convert, Sem.run_bind, hu w, isStr hr hb w, huel w, Result.andThen_ok]
                have ex : execOp (fun y => den ρ (r y)) ⟨dst, .convert s t x, ty, pos, aft, gd⟩ = (do pure (.value (← convert s t (den ρ (r x))))) := rfl
                rw [ex, Sem.run_bind]
                unfold lenS at hn
                split at hn
                · rename_i hx
                  cases hn
                  rw [hx] at hl
                  simp only [srcS] at hl
                  cases hl
                  rw [conv _ rfl (by rw [hx]; exact ⟨_, _, _, rfl⟩), hx]
                  simp [allCl] at hbs
                  subst hbs
                  rfl
                · rename_i hx; exact absurd hx (fun q => by simp_all)
                · rename_i c o sz n' cap lw bk hx
                  cases hn
                  rw [conv _ rfl (by rw [hx]; exact ⟨_, _, _, rfl⟩), hx]
                  rw [hx] at hfc
                  simp only [den, Builtin.firstCells, Nat.mul_one] at hfc ⊢
                  rw [h5] at hfc
                  rw [run_bytesToString w _ _ _ ns hfc]
                  simp only [Result.andThen_ok, Sem.run_pure, foldl_push, mkS, h6]
                  rfl
                · cases hn
              · cases e
            · cases e
          · cases e
      · cases e
end
end Go.Gv
