/- Pure operations by a function that reckons; a stack of what is still to be done. -/
import Derived.Test.YtnennjhbajpbfaaGreatDoorGvB
namespace Go.Gv
set_option linter.unusedVariables false
set_option linter.unusedSimpArgs false
set_option linter.unusedSectionVars false

/-- What is known of a type. -/
structure TI (P : Program) where
  id : Nat
  desc : TypeDesc
  size : Nat
  agg : Bool
  zero : Value
  info : TypeInfo
  hu : P.underlying id = some desc
  hs : ∀ w, (sizeOf id).run P w = .ok size w
  ha : ∀ w, (isAgg id).run P w = .ok agg w
  hz : ∀ w, (zeroValue id).run P w = .ok zero w
  hi : ∀ w, (typeInfo id).run P w = .ok info w
def TI.of {P : Program} (id : Nat) {desc : TypeDesc} {size : Nat} {agg : Bool} {zero : Value} {info : TypeInfo} (hu : P.underlying id = some desc) (hs : ∀ w, (sizeOf id).run P w = .ok size w)
    (ha : ∀ w, (isAgg id).run P w = .ok agg w) (hz : ∀ w, (zeroValue id).run P w = .ok zero w) (hi : ∀ w, (typeInfo id).run P w = .ok info w) : TI P := ⟨id, desc, size, agg, zero, info, hu, hs, ha, hz, hi⟩

inductive TT (P : Program) where
  | leaf
  | node (v : TI P) (l r : TT P)
def TT.get {P : Program} : TT P → Nat → Option (TI P)
  | .leaf, _ => none
  | .node v l r, k => bif Nat.beq k v.id then some v else bif Nat.ble k v.id then l.get k else r.get k
theorem TT.get_id {P : Program} {T : TT P} {k : Nat} {v : TI P} (h : T.get k = some v) : v.id = k := by
  induction T with
  | leaf => cases h
  | node x l r il ir =>
    simp only [TT.get] at h
    cases e : Nat.beq k x.id with
    | true => rw [e] at h; cases h; exact (Nat.eq_of_beq_eq_true e).symm
    | false =>
      rw [e] at h
      simp only [cond_false] at h
      cases e' : Nat.ble k x.id with
      | true => rw [e'] at h; exact il h
      | false => rw [e'] at h; exact ir h
section
variable {P : Program} {T : TT P} {k : Nat} {v : TI P}
theorem TT.und (h : T.get k = some v) : P.underlying k = some v.desc := TT.get_id h ▸ v.hu
theorem TT.siz (h : T.get k = some v) (w : World) : (sizeOf k).run P w = .ok v.size w := TT.get_id h ▸ v.hs w
theorem TT.isa (h : T.get k = some v) (w : World) : (isAgg k).run P w = .ok v.agg w := TT.get_id h ▸ v.ha w
theorem TT.inf (h : T.get k = some v) (w : World) : (typeInfo k).run P w = .ok v.info w := TT.get_id h ▸ v.hi w
theorem TT.zer (h : T.get k = some v) (w : World) : (zeroValue k).run P w = .ok v.zero w := TT.get_id h ▸ v.hz w
end

def binV (op : BinOp) : Value → Value → Option Value
  | .int k a, .int k' b => match op with
    | .add => some (.int k (k.wrap (a + b)))
    | .sub => some (.int k (k.wrap (a - b)))
    | .mul => some (.int k (k.wrap (a * b)))
    | .eql => some (.bool (a == b))
    | .neq => some (.bool (a != b))
    | .lss => some (.bool (decide (a < b)))
    | .leq => some (.bool (decide (a ≤ b)))
    | .gtr => some (.bool (decide (a > b)))
    | .geq => some (.bool (decide (a ≥ b)))
    | .and => some (.int k (k.wrap (BitVec.ofInt k.bits a &&& BitVec.ofInt k.bits b).toNat))
    | .or => some (.int k (k.wrap (BitVec.ofInt k.bits a ||| BitVec.ofInt k.bits b).toNat))
    | .xor => some (.int k (k.wrap (BitVec.ofInt k.bits a ^^^ BitVec.ofInt k.bits b).toNat))
    | .shl => match b with
      | .ofNat n => some (.int k (k.wrap (a * 2 ^ (min n k.bits))))
      | .negSucc _ => none
    | .shr => match b with
      | .ofNat n => some (.int k (a.fdiv (2 ^ (min n k.bits))))
      | .negSucc _ => none
    | .quo => match b with
      | .ofNat (n + 1) => some (.int k (k.wrap (a.tdiv (n + 1 : Nat))))
      | _ => none
    | .rem => match b with
      | .ofNat (n + 1) => some (.int k (a.tmod (n + 1 : Nat)))
      | _ => none
    | _ => none
  | .string a, .string b => match op with
    | .eql => some (.bool (a.toList == b.toList))
    | .neq => some (.bool (!(a.toList == b.toList)))
    | .lss => some (.bool (Op.bytesLess a.toList b.toList))
    | _ => none
  | _, _ => none
def isSh : BinOp → Bool
  | .shl | .shr => true
  | _ => false
def sameKind (op : BinOp) : Value → Value → Bool
  | .int k _, .int k' _ => isSh op || k == k'
  | _, _ => true

/-- The place of a field: its cell's offset. -/
def offOf {P : Program} (T : TT P) (s f : Nat) : Option Nat :=
  match T.get s with
  | some ti => match ti.desc with
    | .struct fs => match fs[f]? with
      | some fd => match T.get fd.type with
        | some tf => bif Nat.ble 1 tf.size then some fd.offset else none
        | none => none
      | none => none
    | _ => none
  | none => none

/-- The address k cells on. -/
def Addr.plus (a : Addr) : Nat → Addr
  | 0 => a
  | k + 1 => ⟨a.block, a.off + (k + 1), none⟩

def isSliceT {P : Program} (T : TT P) (t : Nat) : Bool := match T.get t with | some ti => (match ti.desc with | .slice _ => true | _ => false) | none => false
def isStringT {P : Program} (T : TT P) (t : Nat) : Bool := match T.get t with | some ti => (match ti.desc with | .string => true | _ => false) | none => false
def isPtrT {P : Program} (T : TT P) (t : Nat) : Bool := match T.get t with | some ti => (match ti.desc with | .pointer _ => true | _ => false) | none => false
def intKindT {P : Program} (T : TT P) (t : Nat) : Option IntKind := match T.get t with | some ti => (match ti.desc with | .int k => some k | _ => none) | none => none

/-- Comparisons with nil. -/
def nilV {P : Program} (T : TT P) (op : BinOp) (t : Nat) (x y : Value) : Option Value :=
  match T.get t with
  | some ti => match ti.desc, x, y with
    | .pointer _, .pointer a, .pointer none => (match op with | .eql => some (.bool a.isNone) | .neq => some (.bool (!a.isNone)) | _ => none)
    | .slice _, .slice a _ _, .slice none _ _ => (match op with | .eql => some (.bool a.isNone) | .neq => some (.bool (!a.isNone)) | _ => none)
    | .map _ _, .map a, .map none => (match op with | .eql => some (.bool a.isNone) | .neq => some (.bool (!a.isNone)) | _ => none)
    | .bool, .bool a, .bool b => (match op with | .eql => some (.bool (a == b)) | .neq => some (.bool (!(a == b))) | _ => none)
    | _, _, _ => none
  | none => none

def setAll (l : List Value) (o : Nat) : List Value → List Value
  | [] => l
  | v :: vs => setAll (l.set o v) (o + 1) vs
theorem setAll_length : ∀ {vs l : List Value} {o : Nat}, (setAll l o vs).length = l.length
  | [], _, _ => rfl
  | _ :: vs, l, o => by simp [setAll, setAll_length (vs := vs)]
/-! ### Written out: fill -/
def fillL (place : Nat → Option (Nat × Nat)) (cells : List Value) : List (Nat × Value) → Option (List Value)
  | [] => some cells
  | (i, v) :: rest => match place i with
    | none => none
    | some (off, size) => bif (Nat.beq v.cells.toList.length size && Nat.ble (off + size) cells.length) then fillL place (setAll cells off v.cells.toList) rest else none
theorem foldl_setAll : ∀ (vs : List Value) (i off : Nat) (cs : Array Value), ((vs.zipIdx i).foldl (fun cs (c, j) => cs.setIfInBounds (off + j) c) cs).toList = setAll cs.toList (off + i) vs
  | [], _, _, _ => rfl
  | v :: vs, i, off, cs => by
    simp only [List.zipIdx_cons, List.foldl_cons, setAll]
    rw [foldl_setAll vs (i + 1) off]
    simp [Nat.add_assoc]
theorem fill_of_fillL {place : Nat → Option (Nat × Nat)} : ∀ {parts : List (Nat × Value)} {cells : Array Value} {l : List Value}, fillL place cells.toList parts = some l → Instr.fill place cells parts = some l.toArray
  | [], cells, l, h => by simp only [fillL] at h; cases h; simp [Instr.fill]
  | (i, v) :: rest, cells, l, h => by
    simp only [fillL] at h
    cases hp : place i with
    | none => rw [hp] at h; cases h
    | some os =>
      obtain ⟨off, size⟩ := os
      rw [hp] at h
      simp only at h
      cases hb : (Nat.beq v.cells.toList.length size && Nat.ble (off + size) cells.toList.length) with
      | false => rw [hb] at h; cases h
      | true =>
        rw [hb] at h
        simp only [cond_true] at h
        rw [Bool.and_eq_true] at hb
        have h1 := Nat.eq_of_beq_eq_true hb.1
        have h2 := Nat.le_of_ble_eq_true hb.2
        simp only [Array.length_toList] at h1 h2
        simp only [Instr.fill, hp]
        rw [if_neg (by simp; omega)]
        apply fill_of_fillL
        rw [← h, ← Array.foldl_toList]
        congr 1
        have := foldl_setAll v.cells.toList 0 off cells
        simp only [Nat.add_zero] at this
        rw [← this]
        simp
def placesT {P : Program} (T : TT P) : List Field → Option (List (Nat × Nat))
  | [] => some []
  | f :: fs => match T.get f.type with
    | some ti => match placesT T fs with
      | some r => some ((f.offset, ti.size) :: r)
      | none => none
    | none => none
theorem placesT_run {P : Program} {T : TT P} : ∀ {fs : List Field} {r : List (Nat × Nat)}, placesT T fs = some r → ∀ w, (fs.mapM fun f => (do pure (f.offset, ← sizeOf f.type) : Sem (Nat × Nat))).run P w = .ok r w
  | [], r, h, w => by simp only [placesT] at h; cases h; rfl
  | f :: fs, r, h, w => by
    simp only [placesT] at h
    split at h
    · rename_i ti hti
      split at h
      · rename_i r' hr
        cases h
        rw [List.mapM_cons]
        simp only [Sem.run_bind, TT.siz hti, Result.andThen_ok, Sem.run_pure, placesT_run hr w]
      · cases h
    · cases h
/-- The cells of a struct that is written out. -/
def buildT {P : Program} (T : TT P) (t : Nat) (parts : List (Nat × Value)) : Option (List Value) :=
  match T.get t with
  | some ti => match ti.desc with
    | .struct fs => match placesT T fs.toList with
      | some pl => fillL (fun i => pl[i]?) ti.zero.cells.toList parts
      | none => none
    | _ => none
  | none => none

def pickV (t : Bool) : Value → Value → Value
  | .bool x, .bool y => .bool (bif t then x else y)
  | a, b => bif t then a else b
theorem pickV_eq (t : Bool) (a b : Value) : pickV t a b = if t = true then a else b := by
  unfold pickV; split <;> cases t <;> rfl

/-- The value of an operation that looks at its operands alone. -/
def pv {P : Program} (T : TT P) (op : Op) (ρ : Operand → Value) : Option Value :=
  match op with
  | .move x | .assign x => some (ρ x)
  | .binOp op t x y _ => match ρ x with
    | .int _ _ | .string _ => bif sameKind op (ρ x) (ρ y) then binV op (ρ x) (ρ y) else none
    | _ => nilV T op t (ρ x) (ρ y)
  | .unOp .not _ x => match ρ x with
    | .bool b => some (.bool (!b))
    | _ => none
  | .nilCheck x => match ρ x with
    | .pointer (some a) => some (.pointer (some a))
    | _ => none
  | .fieldAddr s x f => match ρ x with
    | .pointer (some a) => match offOf T s f with
      | some k => some (.pointer (some (Addr.plus a k)))
      | none => none
    | _ => none
  | .extract x i => match ρ x with
    | .tuple vs => vs[i]?
    | _ => none
  | .pick c a b => match ρ c with
    | .bool t => some (pickV t (ρ a) (ρ b))
    | _ => none
  | .makeFunc fn a b => some (.func fn (a.toList.map ρ).toArray (b.toList.map ρ).toArray)
  | .build t parts => match buildT T t (parts.toList.map fun p => (p.1, ρ p.2)) with
    | some cs => some (.agg cs.toArray)
    | none => none
  | .convert s t x => match ρ x with
    | .int _ n => match intKindT T t with
      | some k => match T.get s with
        | some _ => some (.int k (k.wrap n))
        | none => none
      | none => none
    | _ => none
  | .call c => match c.callee with
    | .builtin .len => match c.args.toList with
      | [x] => match c.argTypes.toList with
        | [t] => match ρ x with
          | .slice _ n _ => bif isSliceT T t then some (.int .i64 n) else none
          | .string s => bif isStringT T t then some (.int .i64 s.size) else none
          | _ => none
        | _ => none
      | _ => none
    | .builtin .max => match c.args.toList with
      | [x, y] => match ρ x, ρ y with
        | .int k a, .int _ b => some (.int k (if b > a then b else a))
        | _, _ => none
      | _ => none
    | .builtin .min => match c.args.toList with
      | [x, y] => match ρ x, ρ y with
        | .int k a, .int _ b => some (.int k (if b < a then b else a))
        | _, _ => none
      | _ => none
    | _ => none
  | _ => none

section
variable {P : Program} {T : TT P}
theorem run_und {k : Nat} {v : TI P} (h : T.get k = some v) (w : World) : (underlying k).run P w = .ok v.desc w := by
  simp [underlying, program, Sem.run, TT.und h]

theorem binOp_val {op : BinOp} {t : Nat} {x y v : Value} (hk : sameKind op x y = true) (h : binV op x y = some v) (w : World) : (binOp op t x y).run P w = .ok v w := by
  unfold binV at h
  split at h
  · rename_i k a k' b
    by_cases hs : isSh op = true
    · cases op <;> simp [isSh] at hs
      · cases b with
        | ofNat n => simp at h; subst h; simp [binOp, Op.shift]; omega
        | negSucc n => simp at h
      · cases b with
        | ofNat n => simp at h; subst h; simp [binOp, Op.shift]; omega
        | negSucc n => simp at h
    have hk' : k = k' := by simpa [sameKind, hs] using hk
    subst hk'
    cases op <;> simp at h <;> first
      | (subst h; simp [binOp, Op.intArith, Op.intCmp, Op.intBits]; done)
      | (simp [isSh] at hs; done)
      | (split at h <;> first | (cases h; done) | (cases h; simp [binOp, Op.intDiv]; omega))
  · cases op <;> simp at h <;> subst h <;> simp [binOp, Op.stringOp]
  · cases h

theorem eqGuard_int {op : BinOp} {t : Nat} {a b : Operand} {x y v : Value} (h : binV op x y = some v) (w : World) : (eqGuard op t a b x y).run P w = .ok () w := by
  unfold binV at h
  split at h
  · cases op <;> simp [eqGuard]
  · cases op <;> simp [eqGuard]
  · cases h

theorem equalIn_ptr_nil (d : Nat) {t : Nat} {ti : TI P} {e : Nat} {a : Option Go.Addr} (h : T.get t = some ti) (hd : ti.desc = .pointer e) (w : World) : (Op.equalIn (d + 1) t (.pointer a) (.pointer none)).run P w = .ok a.isNone w := by
  cases a <;> simp [Op.equalIn, run_und h, hd]
theorem equalIn_slice_nil (d : Nat) {t : Nat} {ti : TI P} {e : Nat} {a : Option Go.Addr} {n c m k : Nat} (h : T.get t = some ti) (hd : ti.desc = .slice e) (w : World) : (Op.equalIn (d + 1) t (.slice a n c) (.slice none m k)).run P w = .ok a.isNone w := by
  cases a <;> simp [Op.equalIn, run_und h, hd]
theorem equalIn_map_nil (d : Nat) {t : Nat} {ti : TI P} {e f : Nat} {a : Option Nat} (h : T.get t = some ti) (hd : ti.desc = .map e f) (w : World) : (Op.equalIn (d + 1) t (.map a) (.map none)).run P w = .ok a.isNone w := by
  cases a <;> simp [Op.equalIn, run_und h, hd]
theorem equalIn_bool (d : Nat) {t : Nat} {ti : TI P} {a b : Bool} (h : T.get t = some ti) (hd : ti.desc = .bool) (w : World) : (Op.equalIn (d + 1) t (.bool a) (.bool b)).run P w = .ok (a == b) w := by
  simp [Op.equalIn, run_und h, hd]
theorem equal_ptr_nil {t : Nat} {ti : TI P} {e : Nat} {a : Option Go.Addr} (h : T.get t = some ti) (hd : ti.desc = .pointer e) (w : World) : (Op.equal t (.pointer a) (.pointer none)).run P w = .ok a.isNone w := equalIn_ptr_nil 9999 h hd w
theorem equal_slice_nil {t : Nat} {ti : TI P} {e : Nat} {a : Option Go.Addr} {n c m k : Nat} (h : T.get t = some ti) (hd : ti.desc = .slice e) (w : World) : (Op.equal t (.slice a n c) (.slice none m k)).run P w = .ok a.isNone w := equalIn_slice_nil 9999 h hd w
theorem equal_map_nil {t : Nat} {ti : TI P} {e f : Nat} {a : Option Nat} (h : T.get t = some ti) (hd : ti.desc = .map e f) (w : World) : (Op.equal t (.map a) (.map none)).run P w = .ok a.isNone w := equalIn_map_nil 9999 h hd w
theorem equal_bool {t : Nat} {ti : TI P} {a b : Bool} (h : T.get t = some ti) (hd : ti.desc = .bool) (w : World) : (Op.equal t (.bool a) (.bool b)).run P w = .ok (a == b) w := equalIn_bool 9999 h hd w
theorem binOp_eql {t : Nat} {x y : Value} {b : Bool} {w : World} (h : (Op.equal t x y).run P w = .ok b w) (h1 : ∀ k a, x ≠ .int k a) (h2 : ∀ k a, x ≠ .float k a) (h3 : ∀ k a b, x ≠ .complex k a b) (h4 : ∀ a, x ≠ .string a) :
    (binOp .eql t x y).run P w = .ok (.bool b) w ∧ (binOp .neq t x y).run P w = .ok (.bool (!b)) w := by
  constructor
  · cases x <;> first | exact absurd rfl (h1 _ _) | exact absurd rfl (h2 _ _) | exact absurd rfl (h3 _ _ _) | exact absurd rfl (h4 _) | (simp only [binOp, Sem.run_bind, h, Result.andThen_ok]; rfl)
  · cases x <;> first | exact absurd rfl (h1 _ _) | exact absurd rfl (h2 _ _) | exact absurd rfl (h3 _ _ _) | exact absurd rfl (h4 _) | (simp only [binOp, Sem.run_bind, h, Result.andThen_ok]; rfl)

theorem nilV_sound {op : BinOp} {t : Nat} {x y v : Value} (h : nilV T op t x y = some v) :
    ∃ u, v = u ∧ (∀ w, (binOp op t x y).run P w = .ok u w) ∧ ∀ a b w, (eqGuard op t a b x y).run P w = .ok () w := by
  unfold nilV at h
  split at h <;> try cases h
  rename_i ti hti
  split at h <;> try cases h
  · rename_i hd
    split at h <;> cases h
    · exact ⟨_, rfl, fun w => (binOp_eql (equal_ptr_nil hti hd w) (by simp) (by simp) (by simp) (by simp)).1, fun _ _ _ => by simp [eqGuard]⟩
    · exact ⟨_, rfl, fun w => (binOp_eql (equal_ptr_nil hti hd w) (by simp) (by simp) (by simp) (by simp)).2, fun _ _ _ => by simp [eqGuard]⟩
  · rename_i hd
    split at h <;> cases h
    · exact ⟨_, rfl, fun w => (binOp_eql (equal_slice_nil hti hd w) (by simp) (by simp) (by simp) (by simp)).1, fun _ _ _ => by simp [eqGuard]⟩
    · exact ⟨_, rfl, fun w => (binOp_eql (equal_slice_nil hti hd w) (by simp) (by simp) (by simp) (by simp)).2, fun _ _ _ => by simp [eqGuard]⟩
  · rename_i hd
    split at h <;> cases h
    · exact ⟨_, rfl, fun w => (binOp_eql (equal_map_nil hti hd w) (by simp) (by simp) (by simp) (by simp)).1, fun _ _ _ => by simp [eqGuard]⟩
    · exact ⟨_, rfl, fun w => (binOp_eql (equal_map_nil hti hd w) (by simp) (by simp) (by simp) (by simp)).2, fun _ _ _ => by simp [eqGuard]⟩
  · rename_i hd
    split at h <;> cases h
    · exact ⟨_, rfl, fun w => (binOp_eql (equal_bool hti hd w) (by simp) (by simp) (by simp) (by simp)).1, fun _ _ _ => by simp [eqGuard]⟩
    · exact ⟨_, rfl, fun w => (binOp_eql (equal_bool hti hd w) (by simp) (by simp) (by simp) (by simp)).2, fun _ _ _ => by simp [eqGuard]⟩

theorem build_run {t : Nat} {parts : Array (Nat × Operand)} {ρ : Operand → Value} {cs : List Value} (hb : buildT T t (parts.toList.map fun p => (p.1, ρ p.2)) = some cs) {dst : Option Nat} {ty : TypeId} {pos : String} {aft : Array Edge} {gd : Option (Nat × Bool)} (w : World) :
    (execOp ρ ⟨dst, .build t parts, ty, pos, aft, gd⟩).run P w = .ok (.value (.agg cs.toArray)) w := by
  have key : (Instr.build t (parts.map fun p => (p.1, ρ p.2))).run P w = .ok (.agg cs.toArray) w := by
    unfold buildT at hb
    split at hb
    · rename_i ti hti
      split at hb
      · rename_i fs hd
        split at hb
        · rename_i pl hpl
          have hp : ∀ w, (fs.mapM fun f => (do pure (f.offset, ← sizeOf f.type) : Sem (Nat × Nat))).run P w = .ok pl.toArray w := fun w => by
            rw [Array.mapM_eq_mapM_toList]
            simp only [Sem.run_map, placesT_run (P := P) hpl w, Result.andThen_ok]
          have hf := fill_of_fillL hb
          have hpl2 : ∀ i, pl.toArray[i]? = pl[i]? := fun i => List.getElem?_toArray
          unfold Instr.build
          simp only [Sem.run_bind, TT.zer hti, Result.andThen_ok, run_und hti, hd, hp]
          have hf2 : Instr.fill (fun x => pl.toArray[x]?) ti.zero.cells (parts.map fun p => (p.1, ρ p.2)).toList = some cs.toArray := by
            rw [Array.toList_map, show (fun x => pl.toArray[x]?) = fun i => pl[i]? from funext hpl2]; exact hf
          rw [hf2]
          rfl
        · cases hb
      · cases hb
    · cases hb
  have : execOp ρ ⟨dst, .build t parts, ty, pos, aft, gd⟩ = (do pure (.value (← Instr.build t (parts.map fun p => (p.1, ρ p.2))))) := rfl
  rw [this, Sem.run_bind, key]
  rfl

theorem pv_sound {op : Op} {ρ : Operand → Value} {v : Value} (h : pv T op ρ = some v) {dst : Option Nat} {ty : TypeId} {pos : String} {aft : Array Edge} {gd : Option (Nat × Bool)} (w : World) :
    (execOp ρ ⟨dst, op, ty, pos, aft, gd⟩).run P w = .ok (.value v) w := by
  unfold pv at h
  split at h
  · cases h; rfl
  · cases h; rfl
  · rename_i op t x y z
    have main : sameKind op (ρ x) (ρ y) = true → binV op (ρ x) (ρ y) = some v → (execOp ρ ⟨dst, .binOp op t x y z, ty, pos, aft, gd⟩).run P w = .ok (.value v) w := by
      intro h1 h2
      simp only [execOp, Sem.run_bind, eqGuard_int h2 w, Result.andThen_ok, binOp_val h1 h2 w]
      rfl
    have two : ∀ b : Bool, (bif b then binV op (ρ x) (ρ y) else none) = some v → b = true ∧ binV op (ρ x) (ρ y) = some v := by
      intro b hb
      cases b with
      | true => exact ⟨rfl, hb⟩
      | false => cases hb
    split at h
    · obtain ⟨h1, h2⟩ := two _ h; exact main h1 h2
    · obtain ⟨h1, h2⟩ := two _ h; exact main h1 h2
    · rename_i n1 n2
      obtain ⟨c, hop, hc⟩ := nilV_sound h
      have hg : (eqGuard op t x y (ρ x) (ρ y)).run P w = .ok () w := hc.2 x y w
      simp only [execOp, Sem.run_bind, hg, Result.andThen_ok, hc.1 w]
      rw [hop]; rfl
  · split at h
    · rename_i hx; cases h; simp [execOp, hx, Op.unary]
    · cases h
  · split at h
    · rename_i hx; cases h; simp [execOp, hx]
    · cases h
  · split at h
    · rename_i hx
      split at h
      · rename_i k hk
        cases h
        unfold offOf at hk
        split at hk <;> try cases hk
        rename_i ti hti
        split at hk <;> try cases hk
        rename_i fs hd
        split at hk <;> try cases hk
        rename_i fd hf
        split at hk <;> try cases hk
        rename_i tf htf
        cases hb : Nat.ble 1 tf.size with
        | false => rw [hb] at hk; cases hk
        | true =>
          rw [hb] at hk
          cases hk
          have h1 : tf.size ≠ 0 := by have := Nat.le_of_ble_eq_true hb; omega
          simp only [execOp, Instr.fieldAt, Sem.run_bind, run_und hti, hd, Result.andThen_ok, hf, hx, Instr.sureAddr, Sem.run_pure, fieldPlace, TT.siz htf, h1, if_false]
          congr 4
          unfold Addr.plus Go.Addr.add
          cases fd.offset <;> simp
      · cases h
    · cases h
  · split at h
    · rename_i hx; simp only [execOp, hx, Instr.extract, h, Sem.run_bind, Sem.run_pure, Result.andThen_ok]
    · cases h
  · split at h
    · rename_i hx; cases h; simp [execOp, hx, asBool, pickV_eq]
    · cases h
  · cases h; simp only [← Array.toList_map, Array.toArray_toList]; simp [execOp, Instr.makeFunc]
  · split at h
    · rename_i t parts cs hb
      cases h
      exact build_run hb w
    · cases h
  · split at h
    · rename_i hx
      split at h
      · rename_i k hk
        split at h
        · rename_i ts hs
          cases h
          unfold intKindT at hk
          split at hk
          · rename_i ti hti
            split at hk
            · rename_i hd
              cases hk
              simp only [execOp, convert, hx, Sem.run_bind, run_und hs, run_und hti, hd, Result.andThen_ok]
              cases ts.desc <;> simp [Conv.intToInt]
            · cases hk
          · cases hk
        · cases h
      · cases h
    · cases h
  · rename_i c
    obtain ⟨callee, args, argTypes⟩ := c
    dsimp only at h
    split at h
    · rename_i hc
      split at h <;> try cases h
      rename_i x hx
      split at h <;> try cases h
      rename_i t ht
      have ea : args = #[x] := by rw [← Array.toList_inj, hx]
      have et : argTypes = #[t] := by rw [← Array.toList_inj, ht]
      subst ea; subst et
      split at h <;> try cases h
      · rename_i hρ
        cases e : isSliceT T t with
        | false => rw [e] at h; cases h
        | true =>
          rw [e] at h; cases h
          unfold isSliceT at e
          split at e <;> try cases e
          rename_i ti hti
          split at e <;> try cases e
          rename_i hd
          simp [execOp, resolve, invoke, builtin, Builtin.len_, run_und hti, hd, hρ, goInt]
      · rename_i hρ
        cases e : isStringT T t with
        | false => rw [e] at h; cases h
        | true =>
          rw [e] at h; cases h
          unfold isStringT at e
          split at e <;> try cases e
          rename_i ti hti
          split at e <;> try cases e
          rename_i hd
          simp [execOp, resolve, invoke, builtin, Builtin.len_, run_und hti, hd, hρ, goInt]
    · split at h <;> try cases h
      rename_i x y hx
      have ea : args = #[x, y] := by rw [← Array.toList_inj, hx]
      subst ea
      split at h <;> try cases h
      rename_i h1 h2
      simp [execOp, resolve, invoke, builtin, Builtin.max_, h1, h2, Builtin.max2]
    · split at h <;> try cases h
      rename_i x y hx
      have ea : args = #[x, y] := by rw [← Array.toList_inj, hx]
      subst ea
      split at h <;> try cases h
      rename_i h1 h2
      simp [execOp, resolve, invoke, builtin, Builtin.min_, h1, h2, Builtin.min2]
    · cases h
  · cases h
end
end Go.Gv
