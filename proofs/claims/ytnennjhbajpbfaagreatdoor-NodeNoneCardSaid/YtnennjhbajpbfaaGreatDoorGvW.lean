/- A machine that reckons: the program's operations over values whose addresses are names; regions, code, calls. Definitions alone. -/
import Derived.Test.YtnennjhbajpbfaaGreatDoorGvI
namespace Go.Gv
set_option linter.unusedVariables false
set_option linter.unusedSimpArgs false
set_option linter.unusedSectionVars false

/-- A value whose addresses are names. -/
inductive SV where
  | v (x : Value)
  /-- a pointer into an object of one's own -/
  | p (c o : Nat)
  /-- a pointer into a variable of the package -/
  | g (b o : Nat)
  /-- a slice: object, first cell, cells of an element, length; its capacity from there on, if it is known, else at least up to 'lo' from the object's beginning; where the slice stands if nothing is left behind it: 'bk' cells ahead -/
  | s (c o sz n : Nat) (cap : Option Nat) (lo bk : Nat)
  | m (c : Nat)
  | f (fn : Fn) (a b : List SV)
  | a (l : List SV)
  | t (l : List SV)
  | i (ty : Nat) (x : SV)

inductive SO where
  /-- cells: the element's type, what is known of them, (cells of an element, how many there are room for at least), below which place writing is barred -/
  | cells (el : Nat) (l : List SV) (opn : Option (Nat × Nat)) (fz : Nat)
  | map (es : List (SV × SV × Nat)) (clk : Nat)
  | mit (m : Option Nat) (since : Nat) (seen : List Nat) (last : Nat)
  | sit (s : List UInt8) (pos : Nat)
  | gone

inductive Tri (α : Type) where
  | lf
  | nd (l : Tri α) (v : Option α) (r : Tri α)
def Tri.get {α : Type} : Tri α → Nat → Option α
  | .lf, _ => none
  | .nd l v r, n => match n with
    | 0 => v
    | k + 1 => bif Nat.beq (Nat.mod k 2) 0 then l.get (Nat.div k 2) else r.get (Nat.div k 2)
def Tri.set {α : Type} : Nat → Tri α → Nat → α → Tri α
  | 0, t, _, _ => t
  | d + 1, .lf, n, x => match n with
    | 0 => .nd .lf (some x) .lf
    | k + 1 => bif Nat.beq (Nat.mod k 2) 0 then .nd (Tri.set d .lf (Nat.div k 2) x) none .lf else .nd .lf none (Tri.set d .lf (Nat.div k 2) x)
  | d + 1, .nd l v r, n, x => match n with
    | 0 => .nd l (some x) r
    | k + 1 => bif Nat.beq (Nat.mod k 2) 0 then .nd (Tri.set d l (Nat.div k 2) x) v r else .nd l v (Tri.set d r (Nat.div k 2) x)

abbrev Hp := Tri (Nat × SO)
abbrev Tm := Tri SV
def hget (h : Hp) (c : Nat) : Option SO := match h.get c with
  | some (k, o) => bif Nat.beq k c && Nat.ble c 4000 then some o else none
  | none => none
def hset (h : Hp) (c : Nat) (o : SO) : Hp := Tri.set 12 h c (c, o)
/-- A new object. -/
def hnew (h : Hp) (c : Nat) (o : SO) : Option Hp := bif Nat.ble c 4000 then (match h.get c with | none => some (hset h c o) | some _ => none) else none

def dv : SV := .v undef
def rd (tm : Tm) : Operand → SV
  | .tmp t => match tm.get t with | some x => x | none => dv
  | .const x => .v x
  | .global b => .g b 0
  | .func f => .v (.func (.func f) #[] #[])

/-! ### Comparing -/
def bsOf (s : ByteArray) : List UInt8 := s.data.toList
def u8l : List UInt8 → List UInt8 → Bool
  | [], [] => true
  | a :: l, b :: k => bif Nat.beq a.toNat b.toNat then u8l l k else false
  | _, _ => false
def i0 (a b : Int) : Bool := decide (a = b)
/-- What is known of the equality of a struct's type: the types and places of its fields. -/
abbrev EqT := Nat → Option (List (Nat × Nat))
def cut (xs : List SV) (o n : Nat) : List SV := (xs.drop o).take n
mutual
def eqT {P : Program} (T : TT P) (E : EqT) : Nat → Nat → List SV → List SV → Option Bool
  | 0, _, _, _ => none
  | d + 1, t, xs, ys => match E t with
    | some fs => eqFs T E d fs xs ys
    | none => match T.get t with
      | some ti => match ti.desc, xs, ys with
        | .int _, [.v (.int k a)], [.v (.int k' b)] => bif k == k' then some (i0 a b) else none
        | .string, [.v (.string a)], [.v (.string b)] => some (u8l (bsOf a) (bsOf b))
        | .bool, [.v (.bool a)], [.v (.bool b)] => some (a == b)
        | _, _, _ => none
      | none => none
def eqFs {P : Program} (T : TT P) (E : EqT) : Nat → List (Nat × Nat) → List SV → List SV → Option Bool
  | 0, _, _, _ => none
  | _ + 1, [], _, _ => some true
  | d + 1, (t, o) :: fs, xs, ys => match T.get t with
    | some ti => match eqT T E d t (cut xs o ti.size) (cut ys o ti.size) with
      | some true => eqFs T E d fs xs ys
      | some false => some false
      | none => none
    | none => none
end
def cellsOf : SV → List SV
  | .a l => l
  | .v (.agg cs) => cs.toList.map .v
  | x => [x]
def scalar : SV → Bool
  | .a _ | .t _ | .v (.agg _) | .v (.tuple _) => false
  | _ => true

/-- Two values of a type; x, y: is an operand a literal? -/
def nilK : TypeDesc → SV → Option Bool
  | .pointer _, .v (.pointer none) => some true
  | .pointer _, .p _ _ => some false
  | .pointer _, .g _ _ => some false
  | .slice _, .v (.slice none _ _) => some true
  | .slice _, .s _ _ _ _ _ _ _ => some false
  | .map _ _, .v (.map none) => some true
  | .map _ _, .m _ => some false
  | .func _ _ _, .v .nilFunc => some true
  | .func _ _ _, .v (.func _ _ _) => some false
  | .func _ _ _, .f _ _ _ => some false
  | .interface _, .v .nilIface => some true
  | .interface _, .i _ _ => some false
  | _, _ => none
def isLit : Operand → Bool
  | .const _ => true
  | _ => false
def eqS {P : Program} (T : TT P) (E : EqT) (t : Nat) (lit : Bool) (x y : SV) : Option Bool :=
  match T.get t with
  | some ti => match nilK ti.desc x with
    | some a => match nilK ti.desc y with
      | some b => bif a && b then (bif lit then some true else none) else bif a || b then some false else none
      | none => none
    | none => bif (E t).isSome then (match x, y with
        | .a xs, .a ys => eqT T E 8 t xs ys
        | .a xs, .v (.agg cs) => eqT T E 8 t xs (cs.toList.map .v)
        | _, _ => none)
      else (match ti.desc, x, y with
        | .bool, .v (.bool a), .v (.bool b) => some (a == b)
        | _, _, _ => none)
  | none => none

def ltB : List UInt8 → List UInt8 → Bool
  | [], [] => false
  | [], _ :: _ => true
  | _ :: _, [] => false
  | a :: l, b :: k => bif Nat.beq a.toNat b.toNat then ltB l k else Nat.blt a.toNat b.toNat
def mkS (l : List UInt8) : Value := .string ⟨⟨l⟩⟩

def binS {P : Program} (T : TT P) (E : EqT) (op : BinOp) (t : Nat) (lit : Bool) (x y : SV) : Option SV :=
  match op with
  | .eql => match x, y with
    | .v (.int k a), .v (.int k' b) => bif k == k' then some (.v (.bool (i0 a b))) else none
    | .v (.string a), .v (.string b) => some (.v (.bool (u8l (bsOf a) (bsOf b))))
    | _, _ => match eqS T E t lit x y with | some b => some (.v (.bool b)) | none => none
  | .neq => match x, y with
    | .v (.int k a), .v (.int k' b) => bif k == k' then some (.v (.bool (!(i0 a b)))) else none
    | .v (.string a), .v (.string b) => some (.v (.bool (!(u8l (bsOf a) (bsOf b)))))
    | _, _ => match eqS T E t lit x y with | some b => some (.v (.bool (!b))) | none => none
  | op => match x, y with
    | .v (.int k a), .v (.int k' b) => bif sameKind op (.int k a) (.int k' b) then (match op with
        | .andNot => some (.v (.int k (k.wrap (BitVec.ofInt k.bits a &&& ~~~ BitVec.ofInt k.bits b).toNat)))
        | op => match binV op (.int k a) (.int k' b) with | some v => some (.v v) | none => none) else none
    | .v (.string a), .v (.string b) => match op with
      | .add => bif Nat.ble ((bsOf a).length + (bsOf b).length) 1000000 then some (.v (mkS (bsOf a ++ bsOf b))) else none
      | .lss => some (.v (.bool (ltB (bsOf a) (bsOf b))))
      | .leq => some (.v (.bool (ltB (bsOf a) (bsOf b) || u8l (bsOf a) (bsOf b))))
      | .gtr => some (.v (.bool (!(ltB (bsOf a) (bsOf b) || u8l (bsOf a) (bsOf b)))))
      | .geq => some (.v (.bool (!(ltB (bsOf a) (bsOf b)))))
      | _ => none
    | _, _ => none

def unS : UnOp → SV → Option SV
  | .not, .v (.bool b) => some (.v (.bool (!b)))
  | .neg, .v (.int k n) => some (.v (.int k (k.wrap (0 - n))))
  | .xor, .v (.int k n) => some (.v (.int k (k.wrap (BitVec.ofInt k.bits (if k.signed then -1 else k.max) ^^^ BitVec.ofInt k.bits n).toNat)))
  | _, _ => none

/-! ### Memory -/
/-- What is known of the package's variables. -/
abbrev GT := Nat → Option (List Value)
def getN : List SV → Nat → Option SV
  | [], _ => none
  | x :: l, n => match n with
    | 0 => some x
    | k + 1 => getN l k
/-- n cells from a place on, all of them. -/
def takeN : Nat → List SV → Option (List SV)
  | 0, _ => some []
  | _ + 1, [] => none
  | n + 1, x :: l => match takeN n l with
    | some r => some (x :: r)
    | none => none
def dropN : Nat → List SV → List SV
  | 0, l => l
  | _ + 1, [] => []
  | n + 1, _ :: l => dropN n l
def span (l : List SV) (o n : Nat) : Option (List SV) := takeN n (dropN o l)
def loadS (G : GT) (h : Hp) (x : SV) (ag : Bool) (n : Nat) : Option SV :=
  match x with
  | .p c o => match hget h c with
    | some (.cells _ l _ _) => bif ag then (match span l o n with | some k => some (.a k) | none => none) else getN l o
    | _ => none
  | .g b o => match G b with
    | some l => bif ag then none else (match l[o]? with | some v => some (.v v) | none => none)
    | none => none
  | _ => none
/-- Cells written from a place on. -/
def putN : List SV → Nat → List SV → Option (List SV)
  | l, 0, [] => some l
  | [], 0, _ :: _ => none
  | _ :: l, 0, v :: vs => match putN l 0 vs with | some r => some (v :: r) | none => none
  | [], _ + 1, _ => none
  | x :: l, o + 1, vs => match putN l o vs with | some r => some (x :: r) | none => none
def storeS (h : Hp) (c o : Nat) (vs : List SV) : Option Hp :=
  match hget h c with
  | some (.cells el l opn fz) => bif Nat.ble fz o && vs.all scalar then (match putN l o vs with | some l' => some (hset h c (.cells el l' opn fz)) | none => none) else none
  | _ => none

/-! ### Structs and slices written out -/
def fillS (place : Nat → Option (Nat × Nat)) (cells : List SV) : List (Nat × SV) → Option (List SV)
  | [] => some cells
  | (i, v) :: rest => match place i with
    | none => none
    | some (off, size) => bif Nat.beq (cellsOf v).length size then (match putN cells off (cellsOf v) with
      | some c => fillS place c rest
      | none => none) else none
def nthP : List (Nat × Nat) → Nat → Option (Nat × Nat)
  | [], _ => none
  | x :: l, n => match n with
    | 0 => some x
    | k + 1 => nthP l k
def zeroS {P : Program} (T : TT P) (t : Nat) : Option (List SV) := match T.get t with | some ti => some (ti.zero.cells.toList.map .v) | none => none
def buildS {P : Program} (T : TT P) (t : Nat) (parts : List (Nat × SV)) : Option (List SV) :=
  match T.get t with
  | some ti => match ti.desc with
    | .struct fs => match placesT T fs.toList with
      | some pl => fillS (nthP pl) (ti.zero.cells.toList.map .v) parts
      | none => none
    | _ => none
  | none => none
def repl : Nat → List SV → List SV
  | 0, _ => []
  | n + 1, z => z ++ repl n z

/-! ### Slices -/
def natOf : SV → Option Nat
  | .v (.int _ (.ofNat n)) => some n
  | _ => none
def natO (r : Operand → SV) : Option Operand → Option (Option Nat)
  | none => some none
  | some x => match natOf (r x) with | some n => some (some n) | none => none
def sliceS {P : Program} (T : TT P) (t : Nat) (x : SV) (lo hi mx : Option Nat) : Option SV :=
  match x with
  | .v (.string s) => match mx with
    | some _ => none
    | none =>
      let l := bsOf s
      let n := l.length
      let a := lo.getD 0
      let b := hi.getD n
      bif isStringT T t && Nat.ble a b && Nat.ble b n then some (.v (mkS ((l.drop a).take (b - a)))) else none
  | .v (.slice none 0 0) =>
    match elemT T t with
    | some _ => bif Nat.beq (lo.getD 0) 0 && Nat.beq (hi.getD 0) 0 && Nat.beq (mx.getD 0) 0 && (mx.isNone || hi.isSome) then some x else none
    | none => none
  | .s c o sz n cap lw bk => match elemT T t with
    | some (_, sz', _) =>
      let a := lo.getD 0
      let b := hi.getD n
      bif Nat.beq sz sz' && Nat.ble 1 sz && Nat.ble a b && (mx.isNone || hi.isSome) then (match cap with
        | some k =>
          let m := mx.getD k
          bif Nat.ble b m && Nat.ble m k then some (.s c (bif Nat.beq m a then o else o + a * sz) sz (b - a) (some (m - a)) 0 0) else none
        | none => match mx with
          | some m => bif Nat.ble b m && Nat.ble (o / sz + m) lw && Nat.blt (o / sz) lw then some (.s c (bif Nat.beq m a then o else o + a * sz) sz (b - a) (some (m - a)) 0 0) else none
          | none => bif Nat.ble (o / sz + b) lw then
              (bif Nat.blt (o / sz + a) lw then some (.s c (o + a * sz) sz (b - a) none lw 0)
               else bif Nat.beq a 0 then some (.s c o sz (b - a) none lw bk)
               else some (.s c (o + a * sz) sz (b - a) none lw (a * sz))) else none)
      else none
    | none => none
  | .p c o => match T.get t with
    | some ti => match ti.desc with
      | .array n el => match T.get el with
        | some te =>
          let a := lo.getD 0
          let b := hi.getD n
          bif mx.isNone && Nat.ble a b && Nat.ble b n && Nat.ble 1 te.size then some (.s c (bif Nat.beq n a then o else o + a * te.size) te.size (b - a) (some (n - a)) 0 0) else none
        | none => none
      | _ => none
    | none => none
  | _ => none

def sureS (o sz : Nat) (cap : Option Nat) (lw : Nat) : Bool := match cap with
  | some _ => true
  | none => Nat.blt (o / sz) lw
/-- There is room left. -/
def someS (o sz : Nat) (cap : Option Nat) (lw : Nat) : Bool := match cap with
  | some k => Nat.ble 1 k
  | none => Nat.blt (o / sz) lw
def idxS {P : Program} (T : TT P) (t : Nat) (x : SV) (i : Nat) : Option SV :=
  match x with
  | .s c o sz n cap lw bk => match elemT T t with
    | some (_, sz', _) => bif Nat.beq sz sz' && Nat.blt i n && sureS o sz cap lw then some (.p c (o + i * sz)) else none
    | none => none
  | .p c o => match T.get t with
    | some ti => match ti.desc with
      | .array n el => match T.get el with
        | some te => bif Nat.blt i n then some (.p c (o + i * te.size)) else none
        | none => none
      | _ => none
    | none => none
  | .g b o => match T.get t with
    | some ti => match ti.desc with
      | .array n el => match T.get el with
        | some te => bif Nat.blt i n then some (.g b (o + i * te.size)) else none
        | none => none
      | _ => none
    | none => none
  | _ => none

/-- The cells that a slice or a string holds. -/
def srcS (h : Hp) (sz : Nat) (x : SV) (n : Nat) : Option (List SV) :=
  match x with
  | .v (.slice none 0 0) => bif Nat.beq n 0 then some [] else none
  | .v (.string s) => bif Nat.beq sz 1 && Nat.ble n (bsOf s).length then some (((bsOf s).take n).map fun b => .v (.int .u8 b.toNat)) else none
  | .s c o sz' m cap lw bk => bif Nat.beq sz sz' && Nat.ble n m && (Nat.beq n 0 || sureS o sz cap lw) then (match hget h c with
    | some (.cells _ l _ _) => span l o (n * sz)
    | _ => none) else none
  | _ => none
def lenS : SV → Option Nat
  | .v (.slice none 0 0) => some 0
  | .v (.string s) => some (bsOf s).length
  | .s _ _ _ n _ _ _ => some n
  | _ => none

/-! ### Maps -/
def keyC (E : EqT) (t : Nat) : SV → Option (List SV)
  | .a l => match E t with | some _ => some l | none => none
  | .v x => match x with
    | .agg cs => match E t with | some _ => some (cs.toList.map .v) | none => none
    | x => match E t with | some _ => none | none => some [.v x]
  | _ => none
/-- A key of a type, as cells. -/
def keyS {P : Program} (T : TT P) (E : EqT) (t : Nat) (k : SV) : Option (List SV) := match keyC E t k with
  | some l => match eqT T E 8 t l l with
    | some true => some l
    | _ => none
  | none => none
def mapT {P : Program} (T : TT P) (t : Nat) : Option (Nat × Nat) := match T.get t with
  | some ti => match ti.desc with
    | .map k e => some (k, e)
    | _ => none
  | none => none
def findS {P : Program} (T : TT P) (E : EqT) (kt : Nat) (kl : List SV) : List (SV × SV × Nat) → Nat → Option (Option (Nat × List SV × SV × Nat))
  | [], _ => some none
  | (k', v, b) :: es, i => match keyC E kt k' with
    | some l => match eqT T E 8 kt kl l with
      | some true => some (some (i, l, v, b))
      | some false => findS T E kt kl es (i + 1)
      | none => none
    | none => none
def plS : SV → Bool
  | .v (.int _ _) | .v (.string _) | .v (.bool _) => true
  | _ => false
def asMap (h : Hp) : SV → Option (List (SV × SV × Nat) × Nat)
  | .m c => match hget h c with
    | some (.map es clk) => some (es, clk)
    | _ => none
  | .v (.map none) => some ([], 0)
  | _ => none
def wrapA {P : Program} (T : TT P) (t : Nat) : Option SV := match T.get t with
  | some ti => match ti.zero with
    | .agg cs => some (.a (cs.toList.map .v))
    | z => some (.v z)
  | none => none
def setNth : List (SV × SV × Nat) → Nat → SV → SV → List (SV × SV × Nat)
  | [], _, _, _ => []
  | (_, _, b) :: es, 0, k, x => (k, x, b) :: es
  | e :: es, i + 1, k, x => e :: setNth es i k x
def delNth : List (SV × SV × Nat) → Nat → List (SV × SV × Nat)
  | [], _ => []
  | _ :: es, 0 => es
  | e :: es, i + 1 => e :: delNth es i
def findBorn : List (SV × SV × Nat) → Nat → Nat → Option (Nat × SV × SV)
  | [], _, _ => none
  | (k, v, b) :: es, n, i => bif Nat.beq b n then some (i, k, v) else findBorn es n (i + 1)

/-! ### Operations that read alone -/
def allCl : List SV → Option (List UInt8)
  | [] => some []
  | .v (.int .u8 (.ofNat n)) :: l => match allCl l with | some r => some (UInt8.ofNat n :: r) | none => none
  | _ => none
def cvS {P : Program} (T : TT P) (h : Hp) (s t : Nat) (x : SV) : Option SV :=
  match x with
  | .v (.int _ n) => match intKindT T t with
    | some k => match T.get s with
      | some _ => some (.v (.int k (k.wrap n)))
      | none => none
    | none => none
  | .v (.string b) => bif isStringT T t && isStringT T s then some x else none
  | .p c o => match T.get s, T.get t with
    | some ts, some tt => match ts.desc, tt.desc with
      | .pointer e, .unsafePointer => match T.get e, hget h c with
        | some te, some (.cells _ l _ _) => bif Nat.ble 1 te.size && Nat.blt o l.length then some x else none
        | _, _ => none
      | .unsafePointer, .pointer e => match T.get e, hget h c with
        | some te, some (.cells el l none _) => bif Nat.ble 1 te.size && Nat.beq el e && Nat.beq o 0 && Nat.beq l.length te.size then some x else none
        | _, _ => none
      | _, _ => none
    | _, _ => none
  | x => bif isStringT T t then (match elemT T s with
    | some (el, 1, _) => bif intKindT T el == some .u8 then (match lenS x with
      | some n => match srcS h 1 x n with
        | some l => match allCl l with
          | some bs => some (.v (mkS bs))
          | none => none
        | none => none
      | none => none) else none
    | _ => none) else none
def ptrSome : SV → Bool
  | .p _ _ | .g _ _ => true
  | .f (.func _) _ _ => true
  | .v (.func (.func _) _ _) => true
  | .i _ _ => true
  | _ => false
def evP {P : Program} (T : TT P) (E : EqT) (G : GT) (h : Hp) (r : Operand → SV) : Op → Option SV
  | .move x => some (r x)
  | .assign x => some (r x)
  | .pick c a b => match r c with
    | .v (.bool t) => some (bif t then r a else r b)
    | _ => none
  | .nilCheck x => bif ptrSome (r x) then some (r x) else none
  | .fieldAddr s x f => match offOf T s f with
    | some k => match r x with
      | .p c o => some (.p c (o + k))
      | .g b o => some (.g b (o + k))
      | _ => none
    | none => none
  | .load t x => match aggT T t with
    | some (ag, n) => loadS G h (r x) ag n
    | none => none
  | .binOp op t x y _ => binS T E op t (isLit x || isLit y) (r x) (r y)
  | .unOp op _ x => unS op (r x)
  | .convert s t x => cvS T h s t (r x)
  | .extract x i => match r x with
    | .t vs => getN vs i
    | _ => none
  | .makeFunc fn a b => some (.f fn (a.toList.map r) (b.toList.map r))
  | .build t parts => match buildS T t (parts.toList.map fun p => (p.1, r p.2)) with
    | some l => some (.a l)
    | none => none
  | .makeInterface t x => match T.get t with
    | some ti => match ti.desc with
      | .interface _ => none
      | _ => some (.i t (r x))
    | none => none
  | .indexAddr t x ix => match natOf (r ix) with
    | some i => idxS T t (r x) i
    | none => none
  | .index t x ix => match natOf (r ix), r x with
    | some i, .v (.string s) => bif isStringT T t then (match (bsOf s)[i]? with | some b => some (.v (.int .u8 b.toNat)) | none => none) else none
    | _, _ => none
  | .slice t x lo hi mx => match natO r lo, natO r hi, natO r mx with
    | some a, some b, some m => sliceS T t (r x) a b m
    | _, _, _ => none
  | .lookup t x k ok => match mapT T t, asMap h (r x) with
    | some (kt, et), some (es, _) => match keyS T E kt (r k) with
      | some kl => match findS T E kt kl es 0 with
        | some (some (_, _, v, _)) => some (bif ok then .t [v, .v (.bool true)] else v)
        | some none => match wrapA T et with
          | some z => some (bif ok then .t [z, .v (.bool false)] else z)
          | none => none
        | none => none
      | none => none
    | _, _ => none
  | .entry x => match r x with
    | .p c 0 => match hget h c with
      | some (.mit (some m) _ seen st) => match seen.getLast?, hget h m with
        | some b, some (.map es clk) => bif Nat.beq clk st then (match findBorn es b 0 with
          | some (_, k, v) => some (.t [k, v])
          | none => none) else none
        | _, _ => none
      | _ => none
    | _ => none
  | .call c => match c.callee, c.args.toList, c.argTypes.toList with
    | .builtin .len, [x], [t] => match r x with
      | .v (.string s) => bif isStringT T t then some (.v (.int .i64 (bsOf s).length)) else none
      | .v (.slice none 0 0) => bif isSliceT T t then some (.v (.int .i64 0)) else none
      | .s _ _ _ n _ _ _ => bif isSliceT T t then some (.v (.int .i64 n)) else none
      | .m c => match T.get t with
        | some ti => match ti.desc with
          | .map _ _ => match hget h c with
            | some (.map es _) => some (.v (.int .i64 es.length))
            | _ => none
          | _ => none
        | none => none
      | _ => none
    | .builtin .cap, [x], [t] => match r x with
      | .v (.slice none 0 0) => bif isSliceT T t then some (.v (.int .i64 0)) else none
      | .s _ _ _ _ (some k) _ _ => bif isSliceT T t then some (.v (.int .i64 k)) else none
      | _ => none
    | .builtin .unsafeSliceData, [x], _ => match r x with
      | .v (.slice none _ _) => some (.v (.pointer none))
      | .s c o sz _ cap lw _ => bif someS o sz cap lw then some (.p c o) else none
      | _ => none
    | .builtin .max, [x, y], _ => match r x, r y with
      | .v (.int k a), .v (.int k' b) => some (.v (.int k (if b > a then b else a)))
      | _, _ => none
    | .builtin .min, [x, y], _ => match r x, r y with
      | .v (.int k a), .v (.int k' b) => some (.v (.int k (if b < a then b else a)))
      | _, _ => none
    | .builtin .min, [x, y, z], _ => match r x, r y, r z with
      | .v (.int k a), .v (.int _ b), .v (.int _ c) => some (.v (.int k (let m := if b < a then b else a; if c < m then c else m)))
      | _, _, _ => none
    | _, _, _ => none
  | _ => none

mutual
def eqSV : SV → SV → Bool
  | .v x, .v y => (match x, y with
    | .int k a, .int k' b => k == k' && i0 a b
    | .bool a, .bool b => a == b
    | .string a, .string b => u8l (bsOf a) (bsOf b)
    | .pointer none, .pointer none => true
    | .slice none 0 0, .slice none 0 0 => true
    | .map none, .map none => true
    | .nilFunc, .nilFunc => true
    | .nilIface, .nilIface => true
    | .func (.func f) a b, .func (.func g) a' b' => Nat.beq f g && a.toList.isEmpty && b.toList.isEmpty && a'.toList.isEmpty && b'.toList.isEmpty
    | .tuple a, .tuple b => a.toList.isEmpty && b.toList.isEmpty
    | _, _ => false)
  | .p c o, .p c' o' => Nat.beq c c' && Nat.beq o o'
  | .g c o, .g c' o' => Nat.beq c c' && Nat.beq o o'
  | .s c o sz n cap lw bk, .s c' o' sz' n' cap' lw' bk' => Nat.beq c c' && Nat.beq o o' && Nat.beq sz sz' && Nat.beq n n' && cap == cap' && Nat.beq lw lw' && Nat.beq bk bk'
  | .m c, .m c' => Nat.beq c c'
  | .f (.func k) a b, .f (.func k') a' b' => Nat.beq k k' && eqSVs a a' && eqSVs b b'
  | .a l, .a k => eqSVs l k
  | .t l, .t k => eqSVs l k
  | .i t x, .i t' x' => Nat.beq t t' && eqSV x x'
  | _, _ => false
def eqSVs : List SV → List SV → Bool
  | [], [] => true
  | x :: l, y :: k => eqSV x y && eqSVs l k
  | _, _ => false
end
/-! ### Operations that act -/
def appS (h : Hp) (id el sz by_ : Nat) (s : SV) (n : Nat) (ys : List SV) : Option (SV × Hp) :=
  match s with
  | .v (.slice none 0 0) => bif Nat.beq n 0 then some (s, h) else bif Nat.ble n 100000 && Nat.beq ys.length (n * sz) then (match hnew h id (.cells el ys (some (sz, n)) 0) with
    | some h' => some (.s id 0 sz n none n 0, h')
    | none => none) else none
  | .s c o sz' m cap lw bk => bif Nat.beq sz sz' && Nat.ble (m + n) 100000 && Nat.beq ys.length (n * sz) && (Nat.beq m 0 || sureS o sz cap lw) then (match hget h c with
    | some (.cells el' l opn fz) => match span l o (m * sz) with
      | some old => match cap with
        | some k => bif Nat.ble (m + n) k then (match storeS h c (o + m * sz) ys with
            | some h' => some (.s c o sz (m + n) cap lw bk, h')
            | none => none)
          else (match hnew h id (.cells el (old ++ ys) (some (sz, m + n)) 0) with
            | some h' => some (.s id 0 sz (m + n) none (m + n) 0, h')
            | none => none)
        | none => match opn with
          | some (sz2, lw2) => bif Nat.beq el' el && Nat.beq sz2 sz && Nat.beq lw2 lw && Nat.ble fz (o + m * sz) && Nat.beq (Nat.mod o sz) 0 && Nat.ble (o + m * sz) l.length then
              (bif Nat.ble (o / sz + m + n) lw && sureS o sz cap lw then some (.s c o sz (m + n) none lw bk, hset h c (.cells el' (l.take (o + m * sz) ++ ys ++ l.drop (o + (m + n) * sz)) opn fz))
               else bif Nat.ble 1 n && Nat.ble 1 sz then (match hnew (hset h c .gone) id (.cells el' (old ++ ys) (some (sz, m + n)) (fz - o)) with
                | some h' => some (.s id 0 sz (m + n) none (m + n) 0, h')
                | none => none) else none) else none
          | none => none
      | none => none
    | _ => none) else none
  | _ => none

def zlen {P : Program} (T : TT P) (el sz : Nat) : Bool := match zeroS T el with
  | some z => Nat.beq z.length sz
  | none => false
def updS {P : Program} (T : TT P) (E : EqT) (h : Hp) (t : Nat) (m k x : SV) : Option (SV × Hp) :=
  match mapT T t, m with
  | some (kt, _), .m c => match hget h c, keyS T E kt k with
    | some (.map es clk), some kl => match findS T E kt kl es 0 with
      | some (some (i, l, _, _)) => bif kl.all plS && eqSVs l kl then some (dv, hset h c (.map (setNth es i k x) clk)) else none
      | some none => some (dv, hset h c (.map (es ++ [(k, x, clk)]) (clk + 1)))
      | none => none
    | _, _ => none
  | _, _ => none
def evE {P : Program} (T : TT P) (E : EqT) (G : GT) (h : Hp) (id : Nat) (r : Operand → SV) : Op → Option (SV × Hp)
  | .alloc el => match zeroS T el with
    | some z => match hnew h id (.cells el z none 0) with
      | some h' => some (.p id 0, h')
      | none => none
    | none => none
  | .box el x => bif (cellsOf (r x)).all scalar then (match hnew h id (.cells el (cellsOf (r x)) none 0) with
    | some h' => some (.p id 0, h')
    | none => none) else none
  | .buildSlice t n parts => match elemT T t with
    | some (el, sz, _) => match zeroS T el with
      | some z => bif Nat.ble (n * sz) 10000 && Nat.ble 1 sz && Nat.beq z.length sz then (match fillS (fun i => some (i * sz, sz)) (repl n z) (parts.toList.map fun p => (p.1, r p.2)) with
        | some l => match hnew h id (.cells el l none 0) with
          | some h' => some (.s id 0 sz n (some n) 0 0, h')
          | none => none
        | none => none) else none
      | none => none
    | none => none
  | .makeSlice t x y => match elemT T t, natOf (r x), natOf (r y) with
    | some (el, sz, by_), some n, some c => match zeroS T el with
      | some z => bif Nat.ble n c && Nat.ble c 10000 && Nat.ble by_ 1000 && Nat.ble 1 sz && Nat.beq z.length sz then (match hnew h id (.cells el (repl c z) none 0) with
        | some h' => some (.s id 0 sz n (some c) 0 0, h')
        | none => none) else none
      | none => none
    | _, _, _ => none
  | .convert s t x => match r x with
    | .v (.string b) => match elemT T t with
      | some (el, 1, _) => bif isStringT T s && (intKindT T el == some .u8) && Nat.ble (bsOf b).length 10000 then (match hnew h id (.cells el ((bsOf b).map fun u => .v (.int .u8 u.toNat)) (some (1, (bsOf b).length)) 9223372036854775809) with
        | some h' => some (.s id 0 1 (bsOf b).length none (bsOf b).length 0, h')
        | none => none) else none
      | _ => none
    | _ => none
  | .makeMap t none => match hnew h id (.map [] 0) with
    | some h' => some (.m id, h')
    | none => none
  | .store t x y => match aggT T t, r x with
    | some (_, n), .p c o => bif Nat.beq (cellsOf (r y)).length n then (match storeS h c o (cellsOf (r y)) with
      | some h' => some (dv, h')
      | none => none) else none
    | _, _ => none
  | .mapUpdate t m k x => updS T E h t (r m) (r k) (r x)
  | .insert t m k x => updS T E h t (r m) (r k) (r x)
  | .mapEntry t m k => match mapT T t, r m with
    | some (kt, et), .m c => match hget h c, keyS T E kt (r k) with
      | some (.map es clk), some kl => match findS T E kt kl es 0 with
        | some (some (i, l, v, b)) => bif kl.all plS && eqSVs l kl then some (.t [v, .v (.int .i64 b)], hset h c (.map (setNth es i (r k) v) clk)) else none
        | some none => match wrapA T et with
          | some z => some (.t [z, .v (.int .i64 clk)], hset h c (.map (es ++ [(r k, z, clk)]) (clk + 1)))
          | none => none
        | none => none
      | _, _ => none
    | _, _ => none
  | .entryStore t m s x => match r m, natOf (r s) with
    | .m c, some b => match hget h c with
      | some (.map es clk) => match findBorn es b 0 with
        | some (i, k, _) => some (dv, hset h c (.map (setNth es i k (r x)) clk))
        | none => none
      | _ => none
    | _, _ => none
  | .range t x => match T.get t with
    | some ti => match ti.desc, r x with
      | .string, .v (.string s) => match hnew h id (.sit (bsOf s) 0) with
        | some h' => some (.p id 0, h')
        | none => none
      | .map _ _, .v (.map none) => match hnew h id (.mit none 0 [] 0) with
        | some h' => some (.p id 0, h')
        | none => none
      | .map _ _, .m c => match hget h c with
        | some (.map _ clk) => match hnew h id (.mit (some c) clk [] clk) with
          | some h' => some (.p id 0, h')
          | none => none
        | _ => none
      | _, _ => none
    | none => none
  | .next x str => match r x with
    | .p c 0 => match hget h c, str with
      | some (.sit s pos), true => match s.drop pos with
        | [] => some (.t [.v (.bool false)], h)
        | b :: _ => bif Nat.blt b.toNat 128 then some (.t [.v (.bool true), .v (.int .i64 pos), .v (.int .i32 b.toNat)], hset h c (.sit s (pos + 1))) else none
      | some (.mit none _ _ _), false => some (.t [.v (.bool false)], h)
      | some (.mit (some m) since seen last), false => match hget h m with
        | some (.map es clk) => match es with
          | [] => some (.t [.v (.bool false)], h)
          | [(k, v, b)] => match seen with
            | [] => bif Nat.blt b since then some (.t [.v (.bool true), k, v], hset h c (.mit (some m) since [b] clk)) else none
            | [b'] => bif Nat.beq b b' && Nat.blt b last then some (.t [.v (.bool false)], h) else none
            | _ => none
          | _ => none
        | _ => none
      | _, _ => none
    | _ => none
  | .call c => match c.callee, c.args.toList, c.argTypes.toList with
    | .builtin .append, [x, y], [t0, t1] => match elemT T t0 with
      | some (el, sz, by_) => bif Nat.ble 1 sz && Nat.ble by_ 1000 && notIntT T t1 && zlen T el sz then (match lenS (r y) with
        | some n => bif Nat.ble n 10000 then (match srcS h sz (r y) n with
          | some ys => bif ys.all scalar then appS h id el sz by_ (r x) n ys else none
          | none => none) else none
        | none => none) else none
      | none => none
    | .builtin .copy, [x, y], [t0, t1] => match elemT T t0 with
      | some (el, sz, _) => match lenS (r x), lenS (r y) with
        | some n, some m => match srcS h sz (r y) (Nat.min m n) with
          | some ys => match r x with
            | .v (.slice none 0 0) => some (.v (.int .i64 0), h)
            | .s c o sz' _ cap lw _ => bif Nat.beq sz sz' && sureS o sz cap lw then (match storeS h c o ys with
              | some h' => some (.v (.int .i64 (Nat.min m n)), h')
              | none => none) else none
            | _ => none
          | none => none
        | _, _ => none
      | none => none
    | .builtin .unsafeString, [x, y], pt :: _ => match natOf (r y) with
      | some 0 => match r x with
        | .v (.pointer none) => some (.v (mkS []), h)
        | .p _ _ => some (.v (mkS []), h)
        | _ => none
      | some n => match r x, T.get pt with
        | .p c o, some tp => match tp.desc, hget h c with
          | .pointer e, some (.cells el l opn fz) => match span l o n, T.get e with
            | some k, some te => match allCl k with
              | some bs => bif Nat.beq el e && Nat.beq te.size 1 && Nat.ble n 100000 then some (.v (mkS bs), hset h c (.cells el l opn (Nat.max fz (o + n)))) else none
              | none => none
            | _, _ => none
          | _, _ => none
        | _, _ => none
      | none => none
    | .builtin .delete, [m, k], [t, _] => match mapT T t, r m with
      | some (kt, _), .m c => match hget h c, keyS T E kt (r k) with
        | some (.map es clk), some kl => match findS T E kt kl es 0 with
          | some (some (i, _, _, _)) => some (.t [], hset h c (.map (delNth es i) clk))
          | some none => some (.t [], h)
          | none => none
        | _, _ => none
      | _, _ => none
    | _, _, _ => none
  | _ => none

/-! ### Regions, code, calls -/
inductive Ex where
  | nor | ret | ex (id : Nat)
def put (N : Nat) (tm : Tm) : Option Nat → SV → Option Tm
  | none, _ => some tm
  | some d, x => bif Nat.blt d N then some (Tri.set 10 tm d x) else none
abbrev CallF := Nat → List SV → Hp → Nat → Option (SV × Hp × Nat)
def gbS (arr : Array Oper) (tm : Tm) (j : Nat) : Option Bool :=
  match arr[j]? with
  | some o => match o.dst with
    | some d => match tm.get d with
      | some (.v (.bool b)) => some b
      | _ => none
    | none => none
  | none => none
def onS (arr : Array Oper) (tm : Tm) : Option (Nat × Bool) → Option Bool
  | none => some true
  | some (j, b) => match gbS arr tm j with
    | some t => some (t == b)
    | none => some false
def allocs : Op → Bool
  | .alloc _ | .box _ _ | .buildSlice _ _ _ | .makeSlice _ _ _ | .makeMap _ _ | .range _ _ | .convert _ _ _ => true
  | .call c => match c.callee with
    | .builtin .append => true
    | _ => false
  | _ => false
/-- One operation that is wanted. -/
def ev1 {P : Program} (T : TT P) (E : EqT) (G : GT) (call : CallF) (tm : Tm) (h : Hp) (id nx : Nat) (op : Op) : Option (SV × Hp × Nat) :=
  match evP T E G h (rd tm) op with
  | some x => some (x, h, nx)
  | none => match evE T E G h id (rd tm) op with
    | some (x, h') => some (x, h', bif Nat.beq id nx && allocs op then nx + 1 else nx)
    | none => match op with
      | .call c => match c.callee with
        | .value f => match rd tm f with
          | .v (.func (.func k) a b) => bif a.toList.isEmpty && b.toList.isEmpty then call k (c.args.toList.map (rd tm)) h nx else none
          | .f (.func k) a b => call k (a ++ c.args.toList.map (rd tm) ++ b) h nx
          | _ => none
        | _ => none
      | _ => none
def evOps {P : Program} (T : TT P) (E : EqT) (G : GT) (call : CallF) (N : Nat) (arr : Array Oper) : List Oper → Tm → Hp → Nat → Option (Tm × Hp × Nat)
  | [], tm, h, nx => some (tm, h, nx)
  | o :: l, tm, h, nx => match onS arr tm o.guard with
    | some true => match ev1 T E G call tm h nx nx o.op with
      | some (x, h', nx') => match put N tm o.dst x with
        | some tm' => evOps T E G call N arr l tm' h' nx'
        | none => none
      | none => none
    | some false => match put N tm o.dst dv with
      | some tm' => evOps T E G call N arr l tm' h nx
      | none => none
    | none => none

def eqEs : List (SV × SV × Nat) → List (SV × SV × Nat) → Bool
  | [], [] => true
  | (k, v, b) :: l, (k', v', b') :: l' => eqSV k k' && eqSV v v' && Nat.beq b b' && eqEs l l'
  | _, _ => false
def eqSO : SO → SO → Bool
  | .cells el l opn fz, .cells el' l' opn' fz' => Nat.beq el el' && eqSVs l l' && opn == opn' && Nat.beq fz fz'
  | .map es c, .map es' c' => eqEs es es' && Nat.beq c c'
  | .mit m a s b, .mit m' a' s' b' => m == m' && Nat.beq a a' && s == s' && Nat.beq b b'
  | .sit s p, .sit s' p' => u8l s s' && Nat.beq p p'
  | .gone, .gone => true
  | _, _ => false
def eqTri {α : Type} (f : α → α → Bool) : Tri α → Tri α → Bool
  | .lf, .lf => true
  | .nd l v r, .nd l' v' r' => eqTri f l l' && eqTri f r r' && (match v, v' with
    | none, none => true
    | some x, some y => f x y
    | _, _ => false)
  | _, _ => false
def eqSt (a b : Tm × Hp × Nat) : Bool := Nat.beq a.2.2 b.2.2 && eqTri eqSV a.1 b.1 && eqTri (fun x y => Nat.beq x.1 y.1 && eqSO x.2 y.2) a.2.1 b.2.1

/-- Reads that may come behind one that acts: are they still the same? -/
def againS {P : Program} (T : TT P) (E : EqT) (G : GT) (arr : Array Oper) (tm : Tm) (h : Hp) : List Nat → Bool
  | [] => true
  | x :: xs => (match arr[x]? with
    | some o => match onS arr tm o.guard, o.dst with
      | some true, some d => match evP T E G h (rd tm) o.op, tm.get d with
        | some v, some v' => eqSV v v'
        | _, _ => false
      | some false, some d => (match tm.get d with | some v' => eqSV dv v' | none => false)
      | _, _ => false
    | none => false) && againS T E G arr tm h xs
def idAt (base : Option Nat) (i nx : Nat) : Nat := match base with
  | some b => b + i
  | none => nx
def Tr.alts : Tr → Bool
  | .nil => false
  | .cons _ r => r.alts
  | .alt _ _ _ _ => true
/-- A region that draws its order; what is new bears a name by its place. -/
def evTr {P : Program} (T : TT P) (E : EqT) (G : GT) (call : CallF) (N : Nat) (arr : Array Oper) (base : Option Nat) : Tr → Tm → Hp → Nat → Option (Tm × Hp × Nat)
  | .nil, tm, h, nx => some (tm, h, nx)
  | .cons (.rd i) l, tm, h, nx => match arr[i]? with
    | some o => match onS arr tm o.guard with
      | some true => match evP T E G h (rd tm) o.op with
        | some x => match put N tm o.dst x with
          | some tm' => evTr T E G call N arr base l tm' h nx
          | none => none
        | none => none
      | some false => match put N tm o.dst dv with
        | some tm' => evTr T E G call N arr base l tm' h nx
        | none => none
      | none => none
    | none => none
  | .cons (.pu _) _, _, _, _ => none
  | .cons (.ef i xs) l, tm, h, nx => match arr[i]? with
    | some o => match onS arr tm o.guard with
      | some true => match ev1 T E G call tm h (idAt base i nx) nx o.op with
        | some (x, h', nx') => match put N tm o.dst x with
          | some tm' => bif againS T E G arr tm' h' xs then evTr T E G call N arr base l tm' h' nx' else none
          | none => none
        | none => none
      | some false => match put N tm o.dst dv with
        | some tm' => bif againS T E G arr tm' h xs then evTr T E G call N arr base l tm' h nx else none
        | none => none
      | none => none
    | none => none
  | .alt i xs r1 r2, tm, h, nx => match arr[i]? with
    | some o => match onS arr tm o.guard with
      | some true => match ev1 T E G call tm h (idAt base i nx) nx o.op with
        | some (x, h', nx') => match put N tm o.dst x with
          | some tm' => bif againS T E G arr tm' h' xs then (match evTr T E G call N arr base r1 tm' h' nx', evTr T E G call N arr base r2 tm h nx with
            | some a, some b => bif eqSt a b then some a else none
            | _, _ => none) else none
          | none => none
        | none => none
      | _ => none
    | none => none

def iter (f : Tm → Hp → Nat → Option (Ex × Tm × Hp × Nat)) : Nat → Tm → Hp → Nat → Option (Ex × Tm × Hp × Nat)
  | 0, _, _, _ => none
  | n + 1, tm, h, nx => match f tm h nx with
    | some (.nor, tm', h', nx') => iter f n tm' h' nx'
    | some x => some x
    | none => none
def trOf : List (Nat × Tr) → Nat → Option Tr
  | [], _ => none
  | (i, t) :: l, n => bif Nat.beq i n then some t else trOf l n
def evC {P : Program} (T : TT P) (E : EqT) (G : GT) (call : CallF) (N : Nat) (D : List (Nat × Tr)) : Code → Tm → Hp → Nat → Option (Ex × Tm × Hp × Nat)
  | .skip, tm, h, nx => some (.nor, tm, h, nx)
  | .region _ ops false, tm, h, nx => match evOps T E G call N ops ops.toList tm h nx with
    | some (tm', h', nx') => some (.nor, tm', h', nx')
    | none => none
  | .region id ops true, tm, h, nx => match trOf D id with
    | some tr => match (bif tr.alts then evTr T E G call N ops (some nx) tr tm h (nx + ops.size) else evTr T E G call N ops none tr tm h nx) with
      | some (tm', h', nx') => some (.nor, tm', h', nx')
      | none => none
    | none => none
  | .seq a b, tm, h, nx => match evC T E G call N D a tm h nx with
    | some (.nor, tm', h', nx') => evC T E G call N D b tm' h' nx'
    | some x => some x
    | none => none
  | .cond c a b, tm, h, nx => match rd tm c with
    | .v (.bool true) => evC T E G call N D a tm h nx
    | .v (.bool false) => evC T E G call N D b tm h nx
    | _ => none
  | .block id b, tm, h, nx => match evC T E G call N D b tm h nx with
    | some (.ex j, tm', h', nx') => bif Nat.beq j id then some (.nor, tm', h', nx') else some (.ex j, tm', h', nx')
    | some x => some x
    | none => none
  | .loop b, tm, h, nx => iter (evC T E G call N D b) 3000 tm h nx
  | .exit id, tm, h, nx => some (.ex id, tm, h, nx)
  | .ret, tm, h, nx => some (.ret, tm, h, nx)
  | _, _, _, _ => none

def args0 : List SV → Nat → Tm → Tm
  | [], _, tm => tm
  | x :: l, i, tm => args0 l (i + 1) (Tri.set 10 tm i x)
def resS {P : Program} (T : TT P) (G : GT) (tm : Tm) (h : Hp) : List ResultVar → Option (List SV)
  | [] => some []
  | .tmp t :: l => match tm.get t, resS T G tm h l with
    | some x, some r => some (x :: r)
    | _, _ => none
  | .cell t ty :: l => match tm.get t, aggT T ty, resS T G tm h l with
    | some x, some (ag, n), some r => match loadS G h x ag n with
      | some y => some (y :: r)
      | none => none
    | _, _, _ => none
def ret1 : List SV → SV
  | [x] => x
  | l => .t l
/-- What is known of a function: itself, the orders of its regions. -/
abbrev FT := Nat → Option (Func × List (Nat × Tr))
/-- Functions that are told apart (by contracts of their own). -/
abbrev XT := Nat → Option (List SV → Hp → Nat → Option (SV × Hp × Nat))
def evF {P : Program} (T : TT P) (E : EqT) (G : GT) (F : FT) (X : XT) : Nat → CallF
  | 0 => fun _ _ _ _ => none
  | d + 1 => fun k args h nx => match X k with
    | some x => x args h nx
    | none => match F k with
      | some (fn, D) => match fn.body with
        | some c => bif Nat.ble args.length fn.ntmps && Nat.ble fn.ntmps 1000 then (match evC T E G (evF T E G F X d) fn.ntmps D c (args0 args 0 .lf) h nx with
          | some (.ex _, _, _, _) => none
          | some (_, tm, h', nx') => match resS T G tm h' fn.results.toList with
            | some vs => some (ret1 vs, h', nx')
            | none => none
          | none => none) else none
        | none => none
      | none => none
end Go.Gv
