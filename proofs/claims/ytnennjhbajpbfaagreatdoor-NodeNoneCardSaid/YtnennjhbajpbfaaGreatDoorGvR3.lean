/- The functions that the machine takes as told: tables, externs, keys of maps of one entry at most. -/
import Derived.Test.YtnennjhbajpbfaaGreatDoorGvR2
import Derived.Lib.Bytealg
import Derived.Lib.MakeNoZero
import Derived.Lib.Builder
namespace Go.Gv
set_option linter.unusedVariables false
set_option linter.unusedSimpArgs false
set_option linter.unusedSectionVars false

/-! ### Tables -/
theorem drawsOk_nil : ∀ c : Code, drawsOk [] c = true := by
  intro c
  induction c with
  | region id ops d => cases d <;> rfl
  | seq a b ha hb => simp [drawsOk, ha, hb]
  | cond x a b ha hb => simp [drawsOk, ha, hb]
  | block i b hb => simp [drawsOk, hb]
  | loop b hb => simp [drawsOk, hb]
  | _ => rfl
def brF (n : Nat) (a b : FT) : FT := fun k => bif Nat.blt k n then a k else b k
def lfF (n : Nat) (fn : Func) (D : List (Nat × Tr)) : FT := fun k => bif Nat.beq k n then some (fn, D) else none
def bodyOk (fn : Func) (D : List (Nat × Tr)) : Bool := match fn.body with
  | some c => drawsOk D c
  | none => true
section
variable {P : Program}
theorem FOk.br {n : Nat} {a b : FT} (ha : FOk P a) (hb : FOk P b) : FOk P (brF n a b) := by
  intro k fn D e
  unfold brF at e
  cases h : Nat.blt k n with
  | true => rw [h] at e; exact ha k fn D e
  | false => rw [h] at e; exact hb k fn D e
theorem FOk.lf {n : Nat} {fn : Func} {D : List (Nat × Tr)} (hf : P.funcs[n]? = some fn) (he : Enters P n) (hd : bodyOk fn D = true) : FOk P (lfF n fn D) := by
  intro k fn' D' e
  unfold lfF at e
  cases h : Nat.beq k n with
  | true =>
    rw [h] at e
    obtain rfl := Nat.eq_of_beq_eq_true h
    simp only [cond_true, Option.some.injEq, Prod.mk.injEq] at e
    obtain ⟨rfl, rfl⟩ := e
    refine ⟨hf, he, fun c hc => ?_⟩
    unfold bodyOk at hd
    rw [hc] at hd
    exact hd
  | false => rw [h] at e; cases e
theorem bodyOk_nil (fn : Func) : bodyOk fn [] = true := by
  unfold bodyOk
  split
  · exact drawsOk_nil _
  · rfl
theorem FOk.lf0 {n : Nat} {fn : Func} (hf : P.funcs[n]? = some fn) (he : Enters P n) : FOk P (lfF n fn []) := FOk.lf hf he (bodyOk_nil fn)
end

abbrev Sp := List SV → Hp → Nat → Option (SV × Hp × Nat)
def XOk1 (P : Program) (M : Heap) (k : Nat) (f : Sp) : Prop := ∀ args h nx x h' nx', f args h nx = some (x, h', nx') → okHp h → okVs (dom h) args → ∀ ρ, opT P M (callFunc k (dens ρ args).toArray) (objs ρ h) (KO h ρ x h')
def consX (n : Nat) (f : Sp) (X : XT) : XT := fun k => bif Nat.beq k n then some f else X k
def nilX : XT := fun _ => none
section
variable {P : Program} {T : TT P} {E : EqT} {G : GT} {M : Heap} {ρ ρ' : Rho} {h h' : Hp} {F : List HP} {w w' : World} {N : Nat} {tm tm' : Tm} {arr : Array Oper} {call : CallF} {e : TEnv} {L : List HP}
theorem XOk.nil : XOk P M nilX := fun k f e => by cases e
theorem XOk.cons {n : Nat} {f : Sp} {X : XT} (hf : XOk1 P M n f) (hX : XOk P M X) : XOk P M (consX n f X) := by
  intro k g e
  unfold consX at e
  cases hb : Nat.beq k n with
  | true =>
    rw [hb] at e
    obtain rfl := Nat.eq_of_beq_eq_true hb
    cases e
    exact hf
  | false => rw [hb] at e; exact hX k g e

/-! ### Externs -/
def spNoEsc : Sp := fun l h nx => match l with
  | [x] => some (x, h, nx)
  | _ => none
theorem spNoEsc_ok {k : Nat} {fn : Func} (hf : P.funcs[k]? = some fn) (h1 : (fn.name == "runtime.NumGoroutine") = false) (h2 : fn.body.isNone = true) (h3 : Extern.findNext fn = none) (h4 : Extern.find fn = some Extern.AbiNoEscape.same) : XOk1 P M k spNoEsc := by
  intro args h nx x h' nx' e ok hk ρ
  unfold spNoEsc at e
  split at e
  · cases e
    intro F w s
    rw [run_callFunc_extern hf h1 h2 h3 h4]
    exact ⟨.refl w, _, s, ρ, rfl, rfl, .refl ok, hk.1⟩
  · cases e
def spMake (el : Nat) : Sp := fun l h nx => match l with
  | [.v (.int .i64 (.ofNat n))] => bif Nat.ble n 100000 then (match hnew h nx (.cells el [] (some (1, n)) 0) with
    | some h' => some (.s nx 0 1 n none n 0, h', nx + 1)
    | none => none) else none
  | _ => none
theorem spMake_ok {k t el : Nat} {fn : Func} (hf : P.funcs[k]? = some fn) (h1 : (fn.name == "runtime.NumGoroutine") = false) (h2 : fn.body.isNone = true) (h3 : Extern.findNext fn = none) {ps : Array TypeId} (h4 : Extern.find fn = some (Extern.BytealgMakeNoZero.makeNoZero ps #[t])) (ht : P.underlying t = some (.slice el)) : XOk1 P M k (spMake el) := by
  intro args h nx x h' nx' e ok hk ρ
  unfold spMake at e
  split at e
  · rename_i n
    cases hb : Nat.ble n 100000 with
    | false => rw [hb] at e; cases e
    | true =>
      rw [hb] at e
      simp only [cond_true] at e
      split at e
      · rename_i h1' hn
        cases e
        intro F w s
        have hle := Nat.le_of_ble_eq_true hb
        obtain ⟨cs, hr, hc, _⟩ := Lib.run_makeNoZero (P := P) w ps t el ht n (by omega)
        have hr' : (Extern.BytealgMakeNoZero.makeNoZero ps #[t] (dens ρ [.v (.int .i64 (.ofNat n))]).toArray).run P w = .ok (.slice (some ⟨w.heap.size, 0, none⟩) n cs.size) (w.drew.drew.alloc (.cells cs el)) := hr
        rw [run_callFunc_extern hf h1 h2 h3 h4, hr']
        obtain ⟨s', g⟩ := new_cells (w' := w.drew.drew.alloc (.cells cs el)) (z := (0, 0)) (cap := cs.size) (post := cs.toList) s ok hn trivial (by simp [dens]; rfl) (.inl rfl) (fun sz lw q => by cases q; have hmx : Nat.max cs.size n = cs.size := Nat.max_eq_left hc; rw [hmx]; simp)
        refine ⟨⟨rfl, rfl, rfl, by simp⟩, _, s', _, ?_, rfl, g, (new_dom hn).1⟩
        have hbn : (bind1 ρ nx ⟨w.heap.size, 0, cs.size⟩) nx = ⟨w.heap.size, 0, cs.size⟩ := by simp [bind1]
        have hmx : Nat.max cs.size n = cs.size := Nat.max_eq_left hc
        simp [den, sOff, sCap, Gv.room, hbn, Nat.max_eq_left hc]
      · cases e
  · cases e
def idxB : List UInt8 → Nat → Nat → Int
  | [], _, _ => -1
  | b :: l, c, i => bif Nat.beq b.toNat c then i else idxB l c (i + 1)
theorem idxB_eq {c : Nat} (hc : c < 256) : ∀ (l : List UInt8) (i : Nat), idxB l c i = if Lib.indexByte l c.toUInt8 = -1 then -1 else Lib.indexByte l c.toUInt8 + i
  | [], i => rfl
  | b :: l, i => by
    have ih := idxB_eq hc l (i + 1)
    have hge := Lib.indexByte_ge l c.toUInt8
    unfold idxB Lib.indexByte
    cases hb : Nat.beq b.toNat c with
    | true =>
      obtain rfl := Nat.eq_of_beq_eq_true hb
      simp
    | false =>
      have hne : ¬ b = c.toUInt8 := fun q => by
        subst q
        have : (c.toUInt8).toNat = c := by simp; omega
        rw [this] at hb
        simp at hb
      simp only [cond_false, beq_iff_eq, hne, if_false]
      rw [ih]
      split
      · simp
      · have : ¬ Lib.indexByte l c.toUInt8 + 1 = -1 := by omega
        simp only [this, if_false]
        push_cast
        omega
def spIdx : Sp := fun l h nx => match l with
  | [.v (.string s), .v (.int .u8 (.ofNat c))] => bif Nat.blt c 256 then some (.v (.int .i64 (idxB (bsOf s) c 0)), h, nx) else none
  | _ => none
theorem spIdx_ok {k : Nat} {fn : Func} (hf : P.funcs[k]? = some fn) (h1 : (fn.name == "runtime.NumGoroutine") = false) (h2 : fn.body.isNone = true) (h3 : Extern.findNext fn = none) (h4 : Extern.find fn = some Extern.BytealgIndexByte.indexByte) : XOk1 P M k spIdx := by
  intro args h nx x h' nx' e ok hk ρ
  unfold spIdx at e
  split at e
  · rename_i sb c
    cases hb : Nat.blt c 256 with
    | false => rw [hb] at e; cases e
    | true =>
      rw [hb] at e
      cases e
      have hc : c < 256 := by simpa using hb
      intro F w s
      rw [run_callFunc_extern hf h1 h2 h3 h4]
      have hr := Lib.run_indexByteString (P := P) sb (.ofNat c) w
      have hr' : (Extern.BytealgIndexByte.indexByte (dens ρ [.v (.string sb), .v (.int .u8 (.ofNat c))]).toArray).run P w = _ := hr
      rw [hr']
      refine ⟨.refl w, _, s, ρ, ?_, rfl, .refl ok, trivial⟩
      show Value.int .i64 (Lib.indexByte (bsOf sb) c.toUInt8) = Value.int .i64 (idxB (bsOf sb) c 0)
      rw [idxB_eq hc]
      congr 1
      split
      · rename_i q; exact q
      · simp
  · cases e
end
end Go.Gv
