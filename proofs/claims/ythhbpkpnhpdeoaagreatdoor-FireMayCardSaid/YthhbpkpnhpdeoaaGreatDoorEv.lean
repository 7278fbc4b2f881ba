/-
  The evaluator: it runs the model of a program on an abstract heap. A definition, no condition.
-/
import GoSem.Step
import GoSem.Machine.Start
namespace Go.Ev
open Go

inductive Tr (α : Type) where
  | nil : Tr α
  | node (l : Tr α) (v : Option α) (r : Tr α) : Tr α

namespace Tr
variable {α : Type}
noncomputable def get (t : Tr α) : Nat → Option α :=
  Tr.rec (motive := fun _ => Nat → Option α) (fun _ => none)
    (fun _ v _ gl gr n => Nat.rec (motive := fun _ => Option α) v (fun m _ => Nat.rec (motive := fun _ => Option α) (gl (Nat.div m (nat_lit 2))) (fun _ _ => gr (Nat.div m (nat_lit 2))) (Nat.mod m (nat_lit 2))) n) t
noncomputable def single (x : Option α) (k : Nat) : Nat → Tr α :=
  Nat.rec (motive := fun _ => Nat → Tr α) (fun _ => .nil)
    (fun _ p n => Nat.rec (motive := fun _ => Tr α) (.node .nil x .nil) (fun m _ => Nat.rec (motive := fun _ => Tr α) (.node (p (Nat.div m (nat_lit 2))) none .nil) (fun _ _ => .node .nil none (p (Nat.div m (nat_lit 2)))) (Nat.mod m (nat_lit 2))) n) k
noncomputable def put (d : Nat) (t : Tr α) : Nat → Option α → Tr α :=
  Tr.rec (motive := fun _ => Nat → Option α → Tr α) (fun n x => single x d n)
    (fun l v r pl pr n x => Nat.rec (motive := fun _ => Tr α) (.node l x r) (fun m _ => Nat.rec (motive := fun _ => Tr α) (.node (pl (Nat.div m (nat_lit 2)) x) v r) (fun _ _ => .node l v (pr (Nat.div m (nat_lit 2)) x)) (Nat.mod m (nat_lit 2))) n) t
end Tr

inductive Blk where
  | cells (st : Nat) (c : List Value)
  | map (es : List (Value × Value))

structure TI where
  desc : TypeDesc
  size : Nat
  bytes : Nat
  zero : Value
  offs : List (Nat × TypeId)
  agg : Bool
  eq : Bool

structure St where
  h : Tr Blk
  nx : Nat

/-- the program as the evaluator sees it: functions, types, contracts in place of bodies (N), functions without a body (X) -/
structure Env where
  F : Tr Func
  T : Tr TI
  N : Nat → Option (List Value → St → Option (Value × St))
  X : Nat → Option (List Value → Option Value)

/-- a frame's slots: how many there are, and what is known of them -/
structure Tm where
  n : Nat
  t : Tr Value

noncomputable def nth {α : Type} : List α → Nat → Option α
  | [], _ => none
  | x :: l, n => match n with
    | 0 => some x
    | m + 1 => nth l m

/-- the cells from off on become those of new; none if they reach over the end -/
noncomputable def over {α : Type} : List α → List α → Option (List α)
  | l, [] => some l
  | [], _ :: _ => none
  | _ :: l, y :: ys => match over l ys with
    | some r => some (y :: r)
    | none => none

noncomputable def splice {α : Type} : Nat → List α → List α → Option (List α)
  | 0, l, new => over l new
  | _ + 1, [], new => match new with
    | [] => some []
    | _ :: _ => none
  | n + 1, x :: l, new => match splice n l new with
    | some r => some (x :: r)
    | none => none

/-- n elements from off on; none if there are fewer -/
noncomputable def takeN {α : Type} : Nat → List α → Option (List α)
  | 0, _ => some []
  | _ + 1, [] => none
  | n + 1, x :: l => match takeN n l with
    | some r => some (x :: r)
    | none => none
noncomputable def cut {α : Type} : Nat → Nat → List α → Option (List α)
  | 0, n, l => takeN n l
  | _ + 1, n, [] => match n with
    | 0 => some []
    | _ + 1 => none
  | o + 1, n, _ :: l => cut o n l

noncomputable def cellsOf : Value → List Value
  | .agg cs => cs.toList
  | v => [v]

noncomputable def iLt : Int → Int → Bool
  | .ofNat a, .ofNat b => Nat.blt a b
  | .ofNat _, .negSucc _ => false
  | .negSucc _, .ofNat _ => true
  | .negSucc a, .negSucc b => Nat.blt b a
noncomputable def iEq : Int → Int → Bool
  | .ofNat a, .ofNat b => Nat.beq a b
  | .negSucc a, .negSucc b => Nat.beq a b
  | _, _ => false
noncomputable def kEq (a b : IntKind) : Bool := match a, b with
  | .i8, .i8 | .i16, .i16 | .i32, .i32 | .i64, .i64 | .u8, .u8 | .u16, .u16 | .u32, .u32 | .u64, .u64 => true
  | _, _ => false

noncomputable def lEq : List UInt8 → List UInt8 → Bool
  | [], [] => true
  | a :: l, b :: m => match Nat.beq a.toNat b.toNat with
    | true => lEq l m
    | false => false
  | _, _ => false
noncomputable def lLt : List UInt8 → List UInt8 → Bool
  | _, [] => false
  | [], _ :: _ => true
  | a :: l, b :: m => match Nat.blt a.toNat b.toNat with
    | true => true
    | false => match Nat.beq a.toNat b.toNat with
      | true => lLt l m
      | false => false
noncomputable def sEq (a b : ByteArray) : Bool := lEq a.data.toList b.data.toList
noncomputable def sLt (a b : ByteArray) : Bool := lLt a.data.toList b.data.toList
noncomputable def ofL (l : List UInt8) : ByteArray := ⟨l.toArray⟩

/-- a constant that names no memory -/
noncomputable def okC (v : Value) : Option Value := match v with
  | .bool _ | .int _ _ | .string _ | .pointer none | .slice none _ _ | .map none | .nilFunc | .nilIface => some v
  | _ => none
noncomputable def ev (tm : Tm) : Operand → Option Value
  | .tmp t => tm.t.get t
  | .const v => okC v
  | .global g => match g with
    | 0 => some (.pointer (some ⟨0, 0, none⟩))
    | _ + 1 => none
  | .func f => some (.func (.func f) #[] #[])

noncomputable def evs (tm : Tm) : List Operand → Option (List Value)
  | [] => some []
  | x :: l => match ev tm x with
    | some v => match evs tm l with
      | some vs => some (v :: vs)
      | none => none
    | none => none

noncomputable def part (E : Env) (t : TypeId) (cs : List Value) (off : Nat) : Option Value :=
  match E.T.get t with
  | some ti => match ti.agg with
    | true => match cut off ti.size cs with
      | some l => some (.agg l.toArray)
      | none => none
    | false => nth cs off
  | none => none

mutual
noncomputable def aeq (E : Env) : Nat → TypeId → Value → Value → Option Bool
  | 0, _, _, _ => none
  | d + 1, t, x, y =>
    match E.T.get t with
    | none => none
    | some ti =>
    match ti.desc, x, y with
    | .bool, .bool a, .bool b => some (a == b)
    | .int _, .int k a, .int k' b => if kEq k k' then some (iEq a b) else none
    | .string, .string a, .string b => some (sEq a b)
    | .pointer _, .pointer none, .pointer b => some b.isNone
    | .pointer _, .pointer _, .pointer none => some false
    | .interface _, .nilIface, .nilIface => some true
    | .interface _, .nilIface, .iface _ _ => some false
    | .interface _, .iface _ _, .nilIface => some false
    | .slice _, .slice none _ _, .slice b _ _ => some b.isNone
    | .slice _, .slice _ _ _, .slice none _ _ => some false
    | .map _ _, .map none, .map b => some b.isNone
    | .map _ _, .map _, .map none => some false
    | .func _ _ _, .nilFunc, .nilFunc => some true
    | .func _ _ _, .nilFunc, .func _ _ _ => some false
    | .func _ _ _, .func _ _ _, .nilFunc => some false
    | .struct _, .agg xs, .agg ys => match ti.eq with
      | true => aeqFields E d ti.offs xs.toList ys.toList
      | false => none
    | .array n e, .agg xs, .agg ys => match ti.eq, E.T.get e with
      | true, some te => aeqElems E d e te.size n 0 xs.toList ys.toList
      | _, _ => none
    | _, _, _ => none
noncomputable def aeqFields (E : Env) : Nat → List (Nat × TypeId) → List Value → List Value → Option Bool
  | 0, _, _, _ => none
  | _ + 1, [], _, _ => some true
  | d + 1, (o, t) :: fs, xs, ys => match part E t xs o, part E t ys o with
    | some a, some b => match aeq E d t a b with
      | some true => aeqFields E d fs xs ys
      | r => r
    | _, _ => none
noncomputable def aeqElems (E : Env) : Nat → TypeId → Nat → Nat → Nat → List Value → List Value → Option Bool
  | 0, _, _, _, _, _, _ => none
  | _ + 1, _, _, 0, _, _, _ => some true
  | d + 1, t, s, n + 1, i, xs, ys => match part E t xs (i * s), part E t ys (i * s) with
    | some a, some b => match aeq E d t a b with
      | some true => aeqElems E d t s n (i + 1) xs ys
      | r => r
    | _, _ => none
end

noncomputable def binI (op : BinOp) (k : IntKind) (a b : Int) : Option Value :=
  match op with
  | .add => some (.int k (k.wrap (a + b)))
  | .sub => some (.int k (k.wrap (a - b)))
  | .mul => some (.int k (k.wrap (a * b)))
  | .quo => if b = 0 then none else some (.int k (k.wrap (a.tdiv b)))
  | .rem => if b = 0 then none else some (.int k (a.tmod b))
  | .eql => some (.bool (iEq a b))
  | .neq => some (.bool (!iEq a b))
  | .lss => some (.bool (iLt a b))
  | .leq => some (.bool (!iLt b a))
  | .gtr => some (.bool (iLt b a))
  | .geq => some (.bool (!iLt a b))
  | _ => none

noncomputable def shiftI (op : BinOp) (k : IntKind) (a b : Int) : Option Value :=
  if b < 0 then none else
  let n := min b.toNat k.bits
  match op with
  | .shl => some (.int k (k.wrap (a * 2 ^ n)))
  | .shr => some (.int k (a.fdiv (2 ^ n)))
  | _ => none

noncomputable def binS (op : BinOp) (a b : ByteArray) : Option Value :=
  match op with
  | .add => match Nat.ble (a.data.toList.length + b.data.toList.length) 1000000000 with
    | true => some (.string (ofL (a.data.toList ++ b.data.toList)))
    | false => none
  | .eql => some (.bool (sEq a b))
  | .neq => some (.bool (!sEq a b))
  | .lss => some (.bool (sLt a b))
  | .leq => some (.bool (sLt a b || sEq a b))
  | .gtr => some (.bool (!(sLt a b || sEq a b)))
  | .geq => some (.bool (!sLt a b))
  | _ => none

noncomputable def notNum : Value → Bool
  | .int _ _ | .string _ | .float _ _ | .complex _ _ _ => false
  | _ => true
noncomputable def eqK (E : Env) (neg cn : Bool) (t : TypeId) (x y : Value) : Option Value :=
  match x, y with
  | .nilIface, .nilIface => match cn, aeq E 100 t .nilIface .nilIface with
    | true, some b => some (.bool (b != neg))
    | _, _ => none
  | x, y => match notNum x, aeq E 100 t x y with
    | true, some b => some (.bool (b != neg))
    | _, _ => none
noncomputable def bin (E : Env) (cn : Bool) (op : BinOp) (t : TypeId) (x y : Value) : Option Value :=
  match op, x, y with
  | .shl, .int k a, .int _ b => shiftI .shl k a b
  | .shr, .int k a, .int _ b => shiftI .shr k a b
  | op, .int k a, .int k' b => match kEq k k' with
    | true => binI op k a b
    | false => none
  | op, .string a, .string b => binS op a b
  | .eql, x, y => eqK E false cn t x y
  | .neq, x, y => eqK E true cn t x y
  | _, _, _ => none

noncomputable def fillAll (place : Nat → Option (Nat × Nat)) : List Value → List (Nat × Value) → Option (List Value)
  | cells, [] => some cells
  | cells, (i, v) :: rest => match place i with
    | none => none
    | some (off, size) => match Nat.beq (cellsOf v).length size && Nat.blt 0 size with
      | false => none
      | true => match splice off cells (cellsOf v) with
        | some cells => fillAll place cells rest
        | none => none

noncomputable def evParts (tm : Tm) : List (Nat × Operand) → Option (List (Nat × Value))
  | [] => some []
  | (i, x) :: l => match ev tm x with
    | some v => match evParts tm l with
      | some vs => some ((i, v) :: vs)
      | none => none
    | none => none

noncomputable def fieldPlace (E : Env) (ti : TI) (i : Nat) : Option (Nat × Nat) :=
  match nth ti.offs i with
  | some (o, t) => match E.T.get t with
    | some tf => some (o, tf.size)
    | none => none
  | none => none

noncomputable def repl {α : Type} : Nat → List α → List α
  | 0, _ => []
  | n + 1, l => l ++ repl n l

noncomputable def bound (x : Value) (y : Nat) : Option Nat :=
  match x with
  | .int _ (.ofNat i) => match Nat.ble i y with
    | true => some i
    | false => none
  | _ => none

noncomputable def sliceB (len cap : Nat) (lo hi mx : Option Value) : Option (Nat × Nat × Nat) :=
  match (match mx with | some v => bound v cap | none => some cap) with
  | none => none
  | some m => match (match hi with | some v => bound v m | none => match mx with | none => some len | some _ => none) with
    | none => none
    | some h => match (match lo with | some v => bound v h | none => some 0) with
      | none => none
      | some l => some (l, h, m)

noncomputable def evOpt (tm : Tm) : Option Operand → Option (Option Value)
  | none => some none
  | some x => match ev tm x with
    | some v => some (some v)
    | none => none

noncomputable def addL (a : Option Addr) (d : Nat) : Option Addr :=
  match a with
  | some ⟨b, o, _⟩ => some ⟨b, o + d, none⟩
  | none => none
noncomputable def slV (a : Option Addr) (sz l h m : Nat) : Value :=
  match Nat.beq m l with
  | true => .slice a (h - l) (m - l)
  | false => .slice (addL a (l * sz)) (h - l) (m - l)
noncomputable def strideB (n : Nat) : Option Blk → Bool
  | some (.cells st _) => Nat.beq st n
  | _ => false
noncomputable def strideOk (h : Nat → Option Blk) (n : Nat) : Option Addr → Bool
  | none => true
  | some a => strideB n (h a.block)
noncomputable def slSl (h : Nat → Option Blk) (te : TI) (lo hi mx : Option Value) : Value → Option Value
  | .slice a len cap => match Nat.ble len cap && strideOk h te.size a, sliceB len cap lo hi mx with
    | true, some (l, h, m) => some (slV a te.size l h m)
    | _, _ => none
  | _ => none
noncomputable def slStr (lo hi mx : Option Value) : Value → Option Value
  | .string s => match mx, sliceB s.data.toList.length s.data.toList.length lo hi none with
    | none, some (l, h, _) => some (.string (ofL ((s.data.toList.drop l).take (h - l))))
    | _, _ => none
  | _ => none
noncomputable def slice (E : Env) (h : Nat → Option Blk) (t : TypeId) (x : Value) (lo hi mx : Option Value) : Option Value :=
  match E.T.get t with
  | some ti => match ti.desc with
    | .string => slStr lo hi mx x
    | .slice e => match E.T.get e with
      | some te => slSl h te lo hi mx x
      | none => none
    | _ => none
  | none => none

noncomputable def ixAD (E : Env) (i : Nat) (x : Value) : TypeDesc → Option Value
  | .slice e => match x, E.T.get e with
    | .slice (some ⟨b, o, none⟩) len _, some te => match Nat.blt i len with
      | true => some (.pointer (some ⟨b, o + i * te.size, none⟩))
      | false => none
    | _, _ => none
  | .array n e => match x, E.T.get e with
    | .pointer (some ⟨b, o, none⟩), some te => match Nat.blt i n with
      | true => some (.pointer (some ⟨b, o + i * te.size, none⟩))
      | false => none
    | _, _ => none
  | _ => none
noncomputable def indexAddr (E : Env) (t : TypeId) (x : Value) (ix : Value) : Option Value :=
  match ix, E.T.get t with
  | .int _ (.ofNat i), some ti => ixAD E i x ti.desc
  | _, _ => none
noncomputable def ixD (E : Env) (i : Nat) (x : Value) : TypeDesc → Option Value
  | .string => match x with
    | .string s => match nth s.data.toList i with
      | some b => some (.int .u8 (.ofNat b.toNat))
      | none => none
    | _ => none
  | .array n e => match x, E.T.get e with
    | .agg cs, some te => match Nat.blt i n with
      | true => part E e cs.toList (i * te.size)
      | false => none
    | _, _ => none
  | _ => none
noncomputable def index (E : Env) (t : TypeId) (x ix : Value) : Option Value :=
  match ix, E.T.get t with
  | .int _ (.ofNat i), some ti => ixD E i x ti.desc
  | _, _ => none

noncomputable def load (E : Env) (h : Nat → Option Blk) (t : TypeId) (a : Value) : Option Value :=
  match a with
  | .pointer (some ⟨b, o, none⟩) => match h b with
    | some (.cells _ cs) => part E t cs o
    | _ => none
  | _ => none

noncomputable def keyEq (d : TypeDesc) (a b : Value) : Option Bool :=
  match d, a, b with
  | .string, .string x, .string y => some (sEq x y)
  | .int _, .int k x, .int k' y => match kEq k k' with
    | true => some (iEq x y)
    | false => none
  | .bool, .bool x, .bool y => some (x == y)
  | _, _, _ => none
noncomputable def find (d : TypeDesc) (k : Value) : List (Value × Value) → Option (Option Value)
  | [] => some none
  | (a, v) :: es => match keyEq d k a with
    | some true => some (some v)
    | some false => find d k es
    | none => none
noncomputable def upd (d : TypeDesc) (k v : Value) : List (Value × Value) → Option (List (Value × Value))
  | [] => some [(k, v)]
  | (a, u) :: es => match keyEq d k a with
    | some true => some ((k, v) :: es)
    | some false => match upd d k v es with
      | some r => some ((a, u) :: r)
      | none => none
    | none => none
/-- a map type: the key's kind, the element's row -/
noncomputable def mapTy (E : Env) (t : TypeId) : Option (TypeDesc × TI) :=
  match E.T.get t with
  | some ti => match ti.desc with
    | .map k e => match E.T.get k, E.T.get e with
      | some tk, some te => some (tk.desc, te)
      | _, _ => none
    | _ => none
  | none => none
noncomputable def plainKey : TypeDesc → Bool
  | .string | .int _ | .bool => true
  | _ => false
noncomputable def mapOf (h : Nat → Option Blk) : Value → Option (List (Value × Value))
  | .map none => some []
  | .map (some r) => match h r with
    | some (.map es) => some es
    | _ => none
  | _ => none
noncomputable def okV (ok : Bool) (v : Value) (b : Bool) : Value := match ok with
  | true => .tuple #[v, .bool b]
  | false => v
noncomputable def lookup (E : Env) (h : Nat → Option Blk) (t : TypeId) (m k : Value) (ok : Bool) : Option Value :=
  match mapTy E t, mapOf h m with
  | some (d, te), some es => match plainKey d, find d k es with
    | true, some (some v) => some (okV ok v true)
    | true, some none => some (okV ok te.zero false)
    | _, _ => none
  | _, _ => none


noncomputable def convD (x : Value) : TypeDesc → Option Value
  | .int k => match x with
    | .int _ n => some (.int k (k.wrap n))
    | _ => none
  | .string => match x with
    | .string s => some (.string s)
    | _ => none
  | _ => none
noncomputable def conv (E : Env) (src dst : TypeId) (x : Value) : Option Value :=
  match E.T.get src, E.T.get dst with
  | some _, some ti => convD x ti.desc
  | _, _ => none

noncomputable def maxL (mn : Bool) : Value → List Value → Option Value
  | x, [] => some x
  | .int k a, .int _ b :: l => maxL mn (.int k (if mn then (if iLt b a then b else a) else (if iLt a b then b else a))) l
  | _, _ => none


inductive Nk where
  | ptr | sl (n c : Nat) | mp

/-- what an operation comes to -/
inductive Ac where
  | fail
  | val (v : Value)
  | new (b : Blk) (k : Nk)
  | put (b : Nat) (blk : Blk) (v : Value)
  | app (dead : Option Nat) (st : Nat) (cells : List Value) (n : Nat)
  | call (f : FuncId) (vs : List Value)
  | defer (f : FuncId) (vs : List Value)
  | recover

noncomputable def nkVal : Nk → Nat → Value
  | .ptr, i => .pointer (some ⟨i, 0, none⟩)
  | .sl n c, i => .slice (some ⟨i, 0, none⟩) n c
  | .mp, i => .map (some i)

abbrev Lk := Nat → Option Blk
abbrev Fn3 := Env → Tm → Lk → Ac

noncomputable def acO : Option Value → Ac
  | some v => .val v
  | none => .fail

noncomputable def undefV : Value := .tuple #[]

/-- the element's row of a slice type -/
noncomputable def elemSl (E : Env) (t : TypeId) : Option TI :=
  match E.T.get t with
  | some ti => match ti.desc with
    | .slice e => E.T.get e
    | _ => none
  | none => none
noncomputable def elemAr (E : Env) (t : TypeId) : Option (Nat × TypeId × TI) :=
  match E.T.get t with
  | some ti => match ti.desc with
    | .array n e => match E.T.get e with
      | some te => some (n, e, te)
      | none => none
    | _ => none
  | none => none
noncomputable def fieldSz (E : Env) (d : Nat) (tf : TypeId) : Option (Nat × TypeId) :=
  match E.T.get tf with
  | some te => match te.size with
    | 0 => none
    | _ + 1 => some (d, tf)
  | none => none
noncomputable def fieldIn (E : Env) : Option (Nat × TypeId) → Option (Nat × TypeId)
  | some (d, tf) => fieldSz E d tf
  | none => none
noncomputable def fieldOf (E : Env) (t : TypeId) (f : Nat) : Option (Nat × TypeId) :=
  match E.T.get t with
  | some ti => match ti.desc with
    | .struct _ => fieldIn E (nth ti.offs f)
    | _ => none
  | none => none
noncomputable def zeroC (E : Env) (t : TypeId) : Option (List Value) :=
  match E.T.get t with
  | some ti => some (cellsOf ti.zero)
  | none => none

noncomputable def aFail : Ac := .fail
noncomputable def aMove (x : Operand) : Fn3 := fun _ tm _ => acO (ev tm x)
noncomputable def pickV (a b : Operand) (tm : Tm) : Option Value → Ac
  | some (.bool true) => acO (ev tm a)
  | some (.bool false) => acO (ev tm b)
  | _ => .fail
noncomputable def aPick (c a b : Operand) : Fn3 := fun _ tm _ => pickV a b tm (ev tm c)
noncomputable def aAlloc (t : TypeId) : Fn3 := fun E _ _ => match zeroC E t with
  | some l => .new (.cells 0 l) .ptr
  | none => .fail
noncomputable def aBox (_t : TypeId) (x : Operand) : Fn3 := fun _ tm _ => match ev tm x with
  | some v => .new (.cells 0 (cellsOf v)) .ptr
  | none => .fail
noncomputable def buildV (E : Env) (vs : List (Nat × Value)) (ti : TI) : Ac := match ti.desc with
  | .struct _ => match fillAll (fieldPlace E ti) (cellsOf ti.zero) vs with
    | some l => .val (.agg l.toArray)
    | none => .fail
  | .array _ e => match E.T.get e with
    | some te => match fillAll (fun i => some (i * te.size, te.size)) (cellsOf ti.zero) vs with
      | some l => .val (.agg l.toArray)
      | none => .fail
    | none => .fail
  | _ => .fail
noncomputable def aBuild (t : TypeId) (ps : Array (Nat × Operand)) : Fn3 := fun E tm _ => match evParts tm ps.toList, E.T.get t with
  | some vs, some ti => buildV E vs ti
  | _, _ => .fail
noncomputable def buildSl (len : Nat) (vs : List (Nat × Value)) (te : TI) : Ac :=
  match Nat.ble (len * te.size) 16777216, fillAll (fun i => some (i * te.size, te.size)) (repl len (cellsOf te.zero)) vs with
  | true, some l => match Nat.ble (len * te.size) l.length with
    | true => .new (.cells te.size l) (.sl len len)
    | false => .fail
  | _, _ => .fail
noncomputable def aBuildSlice (t : TypeId) (len : Nat) (ps : Array (Nat × Operand)) : Fn3 := fun E tm _ => match evParts tm ps.toList, elemSl E t with
  | some vs, some te => buildSl len vs te
  | _, _ => .fail
noncomputable def putMap (r : Nat) (k v : Value) (d : TypeDesc) : Option Blk → Ac
  | some (.map es) => match plainKey d, upd d k v es with
    | true, some es => .put r (.map es) undefV
    | _, _ => .fail
  | _ => .fail
noncomputable def aMapUpd (t : TypeId) (m k v : Operand) : Fn3 := fun E tm h => match ev tm m, ev tm k, ev tm v with
  | some (.map (some r)), some k, some v => match mapTy E t with
    | some (d, _) => putMap r k v d (h r)
    | none => .fail
  | _, _, _ => .fail
noncomputable def aLoad (t : TypeId) (a : Operand) : Fn3 := fun E tm h => match ev tm a with
  | some p => acO (load E h t p)
  | none => .fail
/-- is each the value of one cell? -/
noncomputable def ones : List Value → Bool
  | [] => true
  | .agg _ :: _ => false
  | .tuple _ :: _ => false
  | _ :: l => ones l
noncomputable def putCells (b o : Nat) (new : List Value) (r : Value) : Option Blk → Ac
  | some (.cells st cs) => match splice o cs new, ones new with
    | some cs, true => .put b (.cells st cs) r
    | _, _ => .fail
  | _ => .fail
noncomputable def storeV (h : Lk) (b o : Nat) (v : Value) : Option TI → Ac
  | some ti => match Nat.beq (cellsOf v).length ti.size with
    | true => putCells b o (cellsOf v) undefV (h b)
    | false => .fail
  | none => .fail
noncomputable def aStore (t : TypeId) (a x : Operand) : Fn3 := fun E tm h => match ev tm a, ev tm x with
  | some (.pointer (some ⟨b, o, none⟩)), some v => storeV h b o v (E.T.get t)
  | _, _ => .fail
noncomputable def aNil (x : Operand) : Fn3 := fun _ tm _ => match ev tm x with
  | some (.pointer (some a)) => .val (.pointer (some a))
  | some (.slice a n c) => .val (.slice a n c)
  | _ => .fail
noncomputable def isC : Operand → Bool
  | .const _ => true
  | _ => false
noncomputable def aBin (op : BinOp) (t : TypeId) (x y : Operand) (_u : TypeId) : Fn3 := fun E tm _ => match ev tm x, ev tm y with
  | some a, some b => acO (bin E (isC x || isC y) op t a b)
  | _, _ => .fail
noncomputable def aUn (op : UnOp) (_t : TypeId) (x : Operand) : Fn3 := fun _ tm _ => match op, ev tm x with
  | .not, some (.bool b) => .val (.bool (!b))
  | .neg, some (.int k n) => .val (.int k (k.wrap (0 - n)))
  | _, _ => .fail
noncomputable def strBytes (b : ByteArray) : List Value := b.data.toList.map fun x => .int .u8 (.ofNat x.toNat)
noncomputable def toBytes (te : TI) : Value → Ac
  | .string b => match te.desc with
    | .int .u8 => .new (.cells 1 (strBytes b)) (.sl b.data.toList.length b.data.toList.length)
    | _ => .fail
  | _ => .fail
noncomputable def srcOk (E : Env) (s : TypeId) : Bool := match E.T.get s with
  | some _ => true
  | none => false
noncomputable def aConv (s d : TypeId) (x : Operand) : Fn3 := fun E tm _ => match ev tm x with
  | some v => match elemSl E d with
    | some te => match srcOk E s with
      | true => toBytes te v
      | false => .fail
    | none => acO (conv E s d v)
  | none => .fail
noncomputable def ifaceV (t : TypeId) (v : Value) : Option TI → Ac
  | some ti => match ti.desc with
    | .interface _ => .fail
    | _ => .val (.iface t v)
  | none => .fail
noncomputable def aIface (t : TypeId) (x : Operand) : Fn3 := fun E tm _ => match ev tm x with
  | some v => ifaceV t v (E.T.get t)
  | none => .fail
noncomputable def aFunc (fn : Go.Fn) (a b : Array Operand) : Fn3 := fun _ tm _ => match evs tm a.toList, evs tm b.toList with
  | some a, some b => .val (.func fn a.toArray b.toArray)
  | _, _ => .fail
noncomputable def aMakeMap (_t : TypeId) : Option Operand → Fn3
  | none => fun _ _ _ => .new (.map []) .mp
  | some _ => fun _ _ _ => .fail
noncomputable def mkSl (te : TI) (n m : Nat) : Ac := match Nat.ble n m && Nat.ble m 100000 && Nat.ble (te.bytes * m) 281474976710656 with
  | true => .new (.cells te.size (repl m (cellsOf te.zero))) (.sl n m)
  | false => .fail
noncomputable def aMakeSl (t : TypeId) (l c : Operand) : Fn3 := fun E tm _ => match elemSl E t, ev tm l, ev tm c with
  | some te, some (.int _ (.ofNat n)), some (.int _ (.ofNat m)) => mkSl te n m
  | _, _, _ => .fail
noncomputable def aSlice (t : TypeId) (x : Operand) (lo hi mx : Option Operand) : Fn3 := fun E tm lk => match ev tm x, evOpt tm lo, evOpt tm hi, evOpt tm mx with
  | some v, some l, some h, some m => acO (slice E lk t v l h m)
  | _, _, _, _ => .fail
noncomputable def aFieldA (t : TypeId) (x : Operand) (f : Nat) : Fn3 := fun E tm _ => match ev tm x, fieldOf E t f with
  | some (.pointer (some ⟨b, o, none⟩)), some (d, _) => .val (.pointer (some ⟨b, o + d, none⟩))
  | _, _ => .fail
noncomputable def aField (t : TypeId) (x : Operand) (f : Nat) : Fn3 := fun E tm _ => match ev tm x, fieldOf E t f with
  | some (.agg cs), some (d, tf) => acO (part E tf cs.toList d)
  | _, _ => .fail
noncomputable def aIxA (t : TypeId) (x ix : Operand) : Fn3 := fun E tm _ => match ev tm x, ev tm ix with
  | some v, some i => acO (indexAddr E t v i)
  | _, _ => .fail
noncomputable def aIx (t : TypeId) (x ix : Operand) : Fn3 := fun E tm _ => match ev tm x, ev tm ix with
  | some v, some i => acO (index E t v i)
  | _, _ => .fail
noncomputable def aLookup (t : TypeId) (x ix : Operand) (ok : Bool) : Fn3 := fun E tm h => match ev tm x, ev tm ix with
  | some v, some i => acO (lookup E h t v i ok)
  | _, _ => .fail
noncomputable def aExtract (t : Operand) (i : Nat) : Fn3 := fun _ tm _ => match ev tm t with
  | some (.tuple vs) => acO (nth vs.toList i)
  | _ => .fail

noncomputable def srcCells (h : Lk) (size : Nat) : Value → Option (Nat × List Value)
  | .slice (some ⟨b, o, none⟩) n _ => match h b with
    | some (.cells _ cs) => match cut o (n * size) cs with
      | some l => some (n, l)
      | none => none
    | _ => none
  | .slice none 0 _ => some (0, [])
  | .string s => match size with
    | 1 => some (s.data.toList.length, strBytes s)
    | _ => none
  | _ => none
noncomputable def inPlace (h : Lk) (n m cap sz : Nat) (new : List Value) : Option Addr → Ac
  | some ⟨b, o, none⟩ => putCells b (o + n * sz) new (.slice (some ⟨b, o, none⟩) (n + m) cap) (h b)
  | _ => .fail
/-- is there room for so many elements, by any account? -/
noncomputable def roomy (te : TI) (need : Nat) : Bool := Nat.ble ((2 * need + 192) * te.bytes) 281474976710656 && Nat.ble need 1000000000 && Nat.blt 0 te.bytes
noncomputable def growB (te : TI) (b o n need : Nat) (new : List Value) : Option Blk → Ac
  | some (.cells st cs) => match Nat.beq st te.size && roomy te need && ones new, cut o (n * te.size) cs with
    | true, some old => .app (some b) te.size (old ++ new) need
    | _, _ => .fail
  | _ => .fail
noncomputable def grow (h : Lk) (te : TI) (n m : Nat) (new : List Value) : Option Addr → Ac
  | some ⟨b, o, none⟩ => growB te b o n (n + m) new (h b)
  | none => match roomy te m, n with
    | true, 0 => .app none te.size new m
    | _, _ => .fail
  | _ => .fail
noncomputable def append1 (h : Lk) (te : TI) (base : Option Addr) (n cap m : Nat) (new : List Value) : Ac :=
  match m with
  | 0 => match Nat.ble n cap with
    | true => .val (.slice base n cap)
    | false => .fail
  | m + 1 => match Nat.ble (n + (m + 1)) cap with
    | true => inPlace h n (m + 1) cap te.size new base
    | false => grow h te n (m + 1) new base
noncomputable def appendV (h : Lk) (te : TI) (base : Option Addr) (n cap : Nat) : Option (Nat × List Value) → Ac
  | none => .fail
  | some (m, new) => append1 h te base n cap m new
noncomputable def lenD (v : Value) : TypeDesc → Option Value
  | .string => match v with
    | .string s => some (.int .i64 (.ofNat s.data.toList.length))
    | _ => none
  | .slice _ => match v with
    | .slice _ n _ => some (.int .i64 (.ofNat n))
    | _ => none
  | _ => none
noncomputable def lenT (E : Env) (t : TypeId) (v : Value) : Option Value :=
  match E.T.get t with
  | some ti => lenD v ti.desc
  | none => none
noncomputable def notInt (E : Env) (t : TypeId) : Bool :=
  match E.T.get t with
  | some ti => match ti.desc with
    | .int _ => false
    | _ => true
  | none => false
noncomputable def builtinV (E : Env) (h : Lk) (b : Builtin) (vs : List Value) (ts : List TypeId) : Ac :=
  match b, vs, ts with
  | .len, [v], [t] => acO (lenT E t v)
  | .cap, [.slice none _ c], [t] => match elemSl E t with
    | some _ => .val (.int .i64 (.ofNat c))
    | none => .fail
  | .max, x :: l, _ => acO (maxL false x l)
  | .min, x :: l, _ => acO (maxL true x l)
  | .append, [.slice base n cap, x], [t, u] => match elemSl E t, notInt E u with
    | some te, true => appendV h te base n cap (srcCells h te.size x)
    | _, _ => .fail
  | .clear, [.slice none _ _], [t] => match elemSl E t with
    | some _ => .val undefV
    | none => .fail
  | .clear, [.slice (some ⟨b, o, none⟩) (n + 1) _], [t] => match elemSl E t with
    | some te => putCells b o (repl (n + 1) (cellsOf te.zero)) undefV (h b)
    | none => .fail
  | .clear, [.slice (some ⟨_, _, none⟩) 0 _], [t] => match elemSl E t with
    | some _ => .val undefV
    | none => .fail
  | .recover, [], _ => .recover
  | _, _, _ => .fail
noncomputable def callB (f : FuncId) (vs : List Value) : Option Func → Ac
  | some fn => match fn.body with
    | some _ => .call f vs
    | none => .fail
  | none => .fail
noncomputable def callX (E : Env) (f : FuncId) (vs : List Value) : Option (List Value → Option Value) → Ac
  | some g => acO (g vs)
  | none => callB f vs (E.F.get f)
noncomputable def callV (E : Env) (vs : List Value) : Option Value → Ac
  | some (.func (.func f) first captured) => callX E f (first.toList ++ vs ++ captured.toList) (E.X f)
  | _ => .fail
noncomputable def deferV (vs : List Value) : Option Value → Ac
  | some (.func (.func f) first captured) => .defer f (first.toList ++ vs ++ captured.toList)
  | _ => .fail
noncomputable def aCallB (E : Env) (h : Lk) (b : Builtin) (ts : List TypeId) : Option (List Value) → Ac
  | some vs => builtinV E h b vs ts
  | none => .fail
noncomputable def aCallF (E : Env) (tm : Tm) (f : Operand) : Option (List Value) → Ac
  | some vs => callV E vs (ev tm f)
  | none => .fail
noncomputable def aCall (c : Call) : Fn3 := fun E tm h => match c.callee with
  | .builtin b => aCallB E h b c.argTypes.toList (evs tm c.args.toList)
  | .value f => aCallF E tm f (evs tm c.args.toList)
  | .invoke _ _ => .fail
noncomputable def aDefer (c : Call) : Fn3 := fun _ tm _ => match c.callee, evs tm c.args.toList with
  | .value f, some vs => deferV vs (ev tm f)
  | _, _ => .fail

noncomputable def act (o : Op) : Fn3 :=
  Op.rec (motive := fun _ => Fn3) aMove aMove aPick aAlloc aBox aBuild aBuildSlice aMapUpd aLoad aStore
    (fun _ _ _ _ => .fail) (fun _ _ _ _ => .fail) aNil aBin aUn aConv (fun _ _ _ _ _ => .fail) aIface aFunc aMakeMap (fun _ _ _ _ _ => .fail) aMakeSl
    aSlice aFieldA aField aIxA aIx aLookup aMapUpd (fun _ _ _ _ _ _ => .fail) (fun _ _ _ _ _ _ _ => .fail) (fun _ _ _ _ _ => .fail)
    (fun _ _ _ _ _ => .fail) (fun _ _ _ _ => .fail) (fun _ _ _ _ _ _ _ => .fail) aExtract aCall (fun _ _ _ _ => .fail) aDefer
    (fun _ _ _ _ => .fail) (fun _ _ _ _ _ => .fail) (fun _ _ _ _ _ _ => .fail) (fun _ _ _ _ _ => .fail) o

noncomputable def D : Nat := 40
noncomputable def setIn (n : Nat) (t : Tr Value) (d : Tmp) (v : Value) : Bool → Tm
  | true => ⟨n, Tr.put D t d (some v)⟩
  | false => ⟨n, .nil⟩
noncomputable def setT (tm : Tm) (d : Option Tmp) (v : Value) : Tm :=
  match d with
  | some d => setIn tm.n tm.t d v (Nat.blt d tm.n)
  | none => tm

noncomputable def wantB (w : Bool) : Option Value → Option Bool
  | some (.bool b) => some (b == w)
  | some _ => some false
  | none => none
noncomputable def wants1 (ops : List Oper) (tm : Tm) (j : Nat) (w : Bool) : Option Bool :=
  match nth ops j with
  | some o => match o.dst with
    | some d => wantB w (tm.t.get d)
    | none => none
  | none => none
noncomputable def wants (ops : List Oper) (tm : Tm) : Option (Nat × Bool) → Option Bool
  | none => some true
  | some (j, w) => wants1 ops tm j w

inductive X where
  | normal | exit (i : Nat) | ret

abbrev Dl := List (FuncId × List Value)

/-- a region that draws its order, on its way: the values so far, the blocks that were made, the loud operations (the last one first), memory after each of them, the quiet ones -/
structure Dr where
  vals : Tr Value
  al : List (Nat × Blk)
  lds : List Nat
  stg : List (Tr Blk × List Nat)
  s : St
  lg : List (Nat × Oper × Tm × Value)

inductive Task where
  | draw (all : List Oper) (an : List Nat) (base : Nat) (tm : Tm) (i : Nat) (l : List Oper) (d : Dr)
  | code (rc : Bool) (c : Code) (tm : Tm) (ds : Dl) (s : St)
  | ops (rc : Bool) (all l : List Oper) (tm : Tm) (ds : Dl) (s : St)
  | call (f : FuncId) (vs : List Value) (s : St)
  | defers (ds : Dl) (s : St)

inductive Out where
  | drawn (d : Dr)
  | code (x : X) (tm : Tm) (ds : Dl) (s : St)
  | ops (tm : Tm) (ds : Dl) (s : St)
  | call (v : Value) (s : St)

abbrev Ih := Task → Option Out

noncomputable def kill (h : Tr Blk) : Option Nat → Tr Blk
  | some b => Tr.put D h b none
  | none => h

noncomputable def resV (E : Env) (tm : Tm) (h : Lk) : List ResultVar → Option (List Value)
  | [] => some []
  | .tmp t :: l => match tm.t.get t, resV E tm h l with
    | some v, some vs => some (v :: vs)
    | _, _ => none
  | .cell a t :: l => match tm.t.get a with
    | some p => match load E h t p, resV E tm h l with
      | some v, some vs => some (v :: vs)
      | _, _ => none
    | none => none
noncomputable def results (E : Env) (tm : Tm) (h : Lk) (l : List ResultVar) : Option Value :=
  match resV E tm h l with
  | some [v] => some v
  | some vs => some (.tuple vs.toArray)
  | none => none
noncomputable def putArgs : Nat → List Value → Tr Value → Tr Value
  | _, [], tm => tm
  | i, v :: l, tm => putArgs (i + 1) l (Tr.put D tm i (some v))

noncomputable def afterCall (rc : Bool) (all l : List Oper) (dst : Option Tmp) (tm : Tm) (ds : Dl) (ih : Ih) : Option Out → Option Out
  | some (.call v s) => ih (.ops rc all l (setT tm dst v) ds s)
  | _ => none
noncomputable def fin (rc : Bool) (all l : List Oper) (dst : Option Tmp) (tm : Tm) (ds : Dl) (s : St) (ih : Ih) : Ac → Option Out
  | .val v => ih (.ops rc all l (setT tm dst v) ds s)
  | .new b k => ih (.ops rc all l (setT tm dst (nkVal k s.nx)) ds ⟨Tr.put D s.h s.nx (some b), s.nx + 1⟩)
  | .put b blk v => ih (.ops rc all l (setT tm dst v) ds ⟨Tr.put D s.h b (some blk), s.nx⟩)
  | .app dead st cells n => ih (.ops rc all l (setT tm dst (.slice (some ⟨s.nx, 0, none⟩) n n)) ds ⟨Tr.put D (kill s.h dead) s.nx (some (.cells st cells)), s.nx + 1⟩)
  | .call f vs => afterCall rc all l dst tm ds ih (ih (.call f vs s))
  | .defer f vs => ih (.ops rc all l (setT tm dst undefV) ((f, vs) :: ds) s)
  | .recover => match rc with
    | true => ih (.ops rc all l (setT tm dst .nilIface) ds s)
    | false => none
  | .fail => none
noncomputable def doOp (E : Env) (rc : Bool) (all l : List Oper) (o : Oper) (tm : Tm) (ds : Dl) (s : St) (ih : Ih) : Option Bool → Option Out
  | some true => fin rc all l o.dst tm ds s ih (act o.op E tm s.h.get)
  | some false => ih (.ops rc all l (setT tm o.dst undefV) ds s)
  | none => none
noncomputable def tOps (E : Env) (ih : Ih) (rc : Bool) (all l : List Oper) (tm : Tm) (ds : Dl) (s : St) : Option Out :=
  match l with
  | [] => some (.ops tm ds s)
  | o :: l => doOp E rc all l o tm ds s ih (wants all tm o.guard)

noncomputable def seqK (rc : Bool) (b : Code) (ih : Ih) : Option Out → Option Out
  | some (.code x tm ds s) => match x with
    | .normal => ih (.code rc b tm ds s)
    | x => some (.code x tm ds s)
  | _ => none
noncomputable def blockK (id : Nat) : Option Out → Option Out
  | some (.code x tm ds s) => match x with
    | .exit j => match Nat.beq j id with
      | true => some (.code .normal tm ds s)
      | false => some (.code (.exit j) tm ds s)
    | x => some (.code x tm ds s)
  | _ => none
noncomputable def regK : Option Out → Option Out
  | some (.ops tm ds s) => some (.code .normal tm ds s)
  | _ => none
noncomputable def condK (rc : Bool) (a b : Code) (tm : Tm) (ds : Dl) (s : St) (ih : Ih) : Option Value → Option Out
  | some (.bool true) => ih (.code rc a tm ds s)
  | some (.bool false) => ih (.code rc b tm ds s)
  | _ => none

/-! regions that draw their order -/
noncomputable def bit (m i : Nat) : Bool := Nat.testBit m i
noncomputable def ancE (acc : List Nat) : List Edge → Nat → Option Nat
  | [], s => some s
  | e :: l, s => match Region.binds .any e with
    | false => ancE acc l s
    | true => match nth acc e.on with
      | some m => ancE acc l (s ||| m ||| 2 ^ e.on)
      | none => none
/-- for each operation, all that stand before it -/
noncomputable def ancs : List Oper → List Nat → Option (List Nat)
  | [], acc => some acc
  | o :: l, acc => match ancE acc o.after.toList 0 with
    | some m => ancs l (acc ++ [m])
    | none => none
noncomputable def opTmps : List Operand → List Tmp
  | [] => []
  | .tmp t :: l => t :: opTmps l
  | _ :: l => opTmps l
noncomputable def guardTmps (all : List Oper) : Option (Nat × Bool) → List Tmp
  | none => []
  | some (j, _) => match nth all j with
    | some o => o.dst.toList
    | none => []
noncomputable def namesOf (all : List Oper) (o : Oper) : List Tmp := guardTmps all o.guard ++ opTmps o.op.operands.toList
noncomputable def isDst (t : Tmp) : Option Tmp → Bool
  | some d => Nat.beq d t
  | none => false
/-- which operation, from the i-th on, writes a slot -/
noncomputable def writer (t : Tmp) : Nat → List Oper → Option Nat
  | _, [] => none
  | i, o :: l => match isDst t o.dst with
    | true => some i
    | false => writer t (i + 1) l
noncomputable def anOf (an : List Nat) (i : Nat) : Nat := match nth an i with
  | some m => m
  | none => 0
/-- a slot's value, as the i-th operation finds it; none: that is open -/
noncomputable def valFor (an : List Nat) (tm : Tm) (vals : Tr Value) (i : Nat) (t : Tmp) : Option Nat → Option (Option Value)
  | none => some (tm.t.get t)
  | some j => match bit (anOf an i) j, bit (anOf an j) i with
    | true, _ => some (vals.get j)
    | false, true => some (tm.t.get t)
    | false, false => none
noncomputable def putO (r : Tr Value) (t : Tmp) : Option Value → Tr Value
  | some v => Tr.put D r t (some v)
  | none => r
noncomputable def tmFor (all : List Oper) (an : List Nat) (tm : Tm) (vals : Tr Value) (i : Nat) : List Tmp → Option (Tr Value)
  | [] => some .nil
  | t :: ts => match valFor an tm vals i t (writer t 0 all), tmFor all an tm vals i ts with
    | some v, some r => some (putO r t v)
    | _, _ => none
/-- is it before none of these? -/
noncomputable def unc (an : List Nat) (lds : List Nat) (j : Nat) : Bool := match lds with
  | [] => true
  | l :: lds => !bit (anOf an l) j && unc an lds j
/-- memory, and the new blocks that surely are there for the i-th operation -/
noncomputable def preH (an : List Nat) (base : Nat) (h : Tr Blk) (lds : List Nat) (i : Nat) : List (Nat × Blk) → Tr Blk
  | [] => h
  | (j, b) :: al => match bit (anOf an i) j && unc an lds j with
    | true => Tr.put D (preH an base h lds i al) (base + j) (some b)
    | false => preH an base h lds i al
noncomputable def endH (an : List Nat) (base : Nat) (h : Tr Blk) (lds : List Nat) : List (Nat × Blk) → Tr Blk
  | [] => h
  | (j, b) :: al => match unc an lds j with
    | true => Tr.put D (endH an base h lds al) (base + j) (some b)
    | false => endH an base h lds al
/-- does what an operation comes to hang on memory? -/
noncomputable def reads : Op → Bool
  | .load .. | .store .. | .lookup .. | .mapUpdate .. | .insert .. | .slice .. | .call _ => true
  | _ => false
noncomputable def memN (n : Nat) : List Nat → Bool
  | [] => false
  | m :: l => Nat.beq m n || memN n l
/-- may the i-th operation run when just the loud ones of ldk have? -/
noncomputable def inRange (an : List Nat) (lds ldk : List Nat) (i : Nat) : Bool := unc an ldk i && restOk lds
  where
  restOk : List Nat → Bool
    | [] => true
    | l :: r => (memN l ldk || !bit (anOf an i) l) && restOk r
noncomputable def veq : Nat → Value → Value → Bool
  | _, .bool a, .bool b => a == b
  | _, .int k a, .int k' b => kEq k k' && iEq a b
  | _, .string a, .string b => sEq a b
  | _, .pointer none, .pointer none => true
  | _, .pointer (some ⟨b, o, none⟩), .pointer (some ⟨c, p, none⟩) => Nat.beq b c && Nat.beq o p
  | _, .slice none n k, .slice none n' k' => Nat.beq n n' && Nat.beq k k'
  | _, .slice (some ⟨b, o, none⟩) n k, .slice (some ⟨c, p, none⟩) n' k' => Nat.beq b c && Nat.beq o p && Nat.beq n n' && Nat.beq k k'
  | _, .map none, .map none => true
  | _, .map (some a), .map (some b) => Nat.beq a b
  | _, .nilFunc, .nilFunc => true
  | _, .nilIface, .nilIface => true
  | n + 1, .func (.func f) x y, .func (.func f') x' y' => Nat.beq f f' && go n x.toList x'.toList && go n y.toList y'.toList
  | n + 1, .iface t v, .iface t' v' => Nat.beq t t' && veq n v v'
  | n + 1, .agg x, .agg y => go n x.toList y.toList
  | n + 1, .tuple x, .tuple y => go n x.toList y.toList
  | _, _, _ => false
  where
  go : Nat → List Value → List Value → Bool
    | _, [], [] => true
    | 0, _, _ => false
    | n + 1, a :: l, b :: m => veq n a b && go n l m
    | _, _, _ => false
noncomputable def isVal (v : Value) : Ac → Bool
  | .val u => veq 200 v u
  | _ => false
noncomputable def logStage (E : Env) (an : List Nat) (base : Nat) (d : Dr) (i : Nat) (o : Oper) (tm : Tm) (v : Value) : List (Tr Blk × List Nat) → Bool
  | [] => true
  | (h, ldk) :: r => (!inRange an d.lds ldk i || isVal v (act o.op E tm (preH an base h ldk i d.al).get)) && logStage E an base d i o tm v r
noncomputable def logsOk (E : Env) (an : List Nat) (base : Nat) (d : Dr) : List (Nat × Oper × Tm × Value) → Bool
  | [] => true
  | (i, o, tm, v) :: l => (!reads o.op || logStage E an base d i o tm v d.stg) && logsOk E an base d l
noncomputable def chainOk (an : List Nat) : List Nat → Bool
  | a :: b :: l => bit (anOf an a) b && chainOk an (b :: l)
  | _ => true
noncomputable def dsts : List Oper → List Tmp
  | [] => []
  | o :: l => o.dst.toList ++ dsts l
noncomputable def nodupN : List Nat → Bool
  | [] => true
  | a :: l => !memN a l && nodupN l
noncomputable def belowN (n : Nat) : List Nat → Bool
  | [] => true
  | a :: l => Nat.blt a n && belowN n l
noncomputable def endT (vals : Tr Value) : Nat → List Oper → Tr Value → Tr Value
  | _, [], t => t
  | i, o :: l, t => match o.dst, vals.get i with
    | some d, some v => endT vals (i + 1) l (Tr.put D t d (some v))
    | some d, none => endT vals (i + 1) l (Tr.put D t d none)
    | none, _ => endT vals (i + 1) l t

noncomputable def dLoud (all : List Oper) (an : List Nat) (base : Nat) (tm0 : Tm) (i : Nat) (l : List Oper) (d : Dr) (ih : Ih) (v : Value) (s : St) : Option Out :=
  ih (.draw all an base tm0 (i + 1) l ⟨Tr.put D d.vals i (some v), d.al, i :: d.lds, (s.h, i :: d.lds) :: d.stg, s, d.lg⟩)
noncomputable def dCall (all : List Oper) (an : List Nat) (base : Nat) (tm0 : Tm) (i : Nat) (l : List Oper) (d : Dr) (ih : Ih) : Option Out → Option Out
  | some (.call v s) => dLoud all an base tm0 i l d ih v s
  | _ => none
noncomputable def dFin (all : List Oper) (an : List Nat) (base : Nat) (tm0 : Tm) (i : Nat) (o : Oper) (l : List Oper) (d : Dr) (ih : Ih) (tm : Tm) (pre : Tr Blk) : Ac → Option Out
  | .val v => ih (.draw all an base tm0 (i + 1) l ⟨Tr.put D d.vals i (some v), d.al, d.lds, d.stg, d.s, (i, o, tm, v) :: d.lg⟩)
  | .new b k => match reads o.op with
    | true => none
    | false => ih (.draw all an base tm0 (i + 1) l ⟨Tr.put D d.vals i (some (nkVal k (base + i))), (i, b) :: d.al, d.lds, d.stg, d.s, d.lg⟩)
  | .put b blk v => dLoud all an base tm0 i l d ih v ⟨Tr.put D pre b (some blk), d.s.nx⟩
  | .app dead st cells n => dLoud all an base tm0 i l d ih (.slice (some ⟨d.s.nx, 0, none⟩) n n) ⟨Tr.put D (kill pre dead) d.s.nx (some (.cells st cells)), d.s.nx + 1⟩
  | .call f vs => dCall all an base tm0 i l d ih (ih (.call f vs ⟨pre, d.s.nx⟩))
  | _ => none
noncomputable def dOp (E : Env) (all : List Oper) (an : List Nat) (base : Nat) (tm0 : Tm) (i : Nat) (o : Oper) (l : List Oper) (d : Dr) (ih : Ih) (tm : Tm) (pre : Tr Blk) : Option Bool → Option Out
  | some true => dFin all an base tm0 i o l d ih tm pre (act o.op E tm pre.get)
  | some false => ih (.draw all an base tm0 (i + 1) l ⟨Tr.put D d.vals i (some undefV), d.al, d.lds, d.stg, d.s, d.lg⟩)
  | none => none
noncomputable def dTm (E : Env) (all : List Oper) (an : List Nat) (base : Nat) (tm0 : Tm) (i : Nat) (o : Oper) (l : List Oper) (d : Dr) (ih : Ih) : Option (Tr Value) → Option Out
  | some t => dOp E all an base tm0 i o l d ih ⟨tm0.n, t⟩ (preH an base d.s.h d.lds i d.al) (wants all ⟨tm0.n, t⟩ o.guard)
  | none => none
noncomputable def tDraw (E : Env) (ih : Ih) (all : List Oper) (an : List Nat) (base : Nat) (tm0 : Tm) (i : Nat) (l : List Oper) (d : Dr) : Option Out :=
  match l with
  | [] => some (.drawn d)
  | o :: l => dTm E all an base tm0 i o l d ih (tmFor all an tm0 d.vals i (namesOf all o))
noncomputable def drawnK (E : Env) (all : List Oper) (an : List Nat) (base : Nat) (tm0 : Tm) (ds : Dl) : Option Out → Option Out
  | some (.drawn d) => match chainOk an d.lds && logsOk E an base d d.lg with
    | true => some (.code .normal ⟨tm0.n, endT d.vals 0 all tm0.t⟩ ds ⟨endH an base d.s.h d.lds d.al, d.s.nx⟩)
    | false => none
  | _ => none
noncomputable def startD (E : Env) (ops : List Oper) (tm : Tm) (ds : Dl) (s : St) (ih : Ih) : Option (List Nat) → Option Out
  | some an => match nodupN (dsts ops) && belowN tm.n (dsts ops) with
    | true => drawnK E ops an s.nx tm ds (ih (.draw ops an s.nx tm 0 ops ⟨.nil, [], [], [(s.h, [])], ⟨s.h, s.nx + ops.length⟩, []⟩))
    | false => none
  | none => none

abbrev CodeK := Env → Ih → Bool → Tm → Dl → St → Option Out
noncomputable def kSkip : CodeK := fun _ _ _ tm ds s => some (.code .normal tm ds s)
noncomputable def kRegion (_id : Nat) (ops : Array Oper) (draw : Bool) : CodeK := fun E ih rc tm ds s => match draw with
  | false => regK (ih (.ops rc ops.toList ops.toList tm ds s))
  | true => match rc with
    | false => startD E ops.toList tm ds s ih (ancs ops.toList [])
    | true => none
noncomputable def kSeq (a b : Code) (_ _ : CodeK) : CodeK := fun _ ih rc tm ds s => seqK rc b ih (ih (.code rc a tm ds s))
noncomputable def kCond (c : Operand) (a b : Code) (_ _ : CodeK) : CodeK := fun _ ih rc tm ds s => condK rc a b tm ds s ih (ev tm c)
noncomputable def kBlock (id : Nat) (a : Code) (_ : CodeK) : CodeK := fun _ ih rc tm ds s => blockK id (ih (.code rc a tm ds s))
noncomputable def kLoop (a : Code) (_ : CodeK) : CodeK := fun _ ih rc tm ds s => match rc with
  | false => seqK false (.loop a) ih (ih (.code false a tm ds s))
  | true => none
noncomputable def kExit (id : Nat) : CodeK := fun _ _ _ tm ds s => some (.code (.exit id) tm ds s)
noncomputable def kRet : CodeK := fun _ _ _ tm ds s => some (.code .ret tm ds s)
noncomputable def kNo : CodeK := fun _ _ _ _ _ _ => none
noncomputable def tCode (E : Env) (ih : Ih) (rc : Bool) (c : Code) (tm : Tm) (ds : Dl) (s : St) : Option Out :=
  Code.rec (motive := fun _ => CodeK) kSkip kRegion kSeq kCond kBlock kLoop (fun _ _ _ _ _ _ => kNo) kExit (fun _ _ => kNo) (fun _ => kSkip) (fun _ => kNo) kRet (fun _ => kNo) c E ih rc tm ds s

noncomputable def valK (s : St) : Option Value → Option Out
  | some v => some (.call v s)
  | none => none
noncomputable def resK (E : Env) (rs : List ResultVar) (tm : Tm) : Option Out → Option Out
  | some (.ops _ _ s) => valK s (results E tm s.h.get rs)
  | _ => none
noncomputable def bodyK (E : Env) (rs : List ResultVar) (ih : Ih) : Option Out → Option Out
  | some (.code x tm ds s) => match x with
    | .exit _ => none
    | _ => resK E rs tm (ih (.defers ds s))
  | _ => none
noncomputable def enterK (E : Env) (vs : List Value) (s : St) (ih : Ih) (fn : Func) : Option Code → Option Out
  | some c => bodyK E fn.results.toList ih (ih (.code false c ⟨fn.ntmps, putArgs 0 vs .nil⟩ [] s))
  | none => none
noncomputable def natK : Option (Value × St) → Option Out
  | some (v, s) => some (.call v s)
  | none => none
noncomputable def callK (E : Env) (f : FuncId) (vs : List Value) (s : St) (ih : Ih) : Option (List Value → St → Option (Value × St)) → Option Out
  | some g => natK (g vs s)
  | none => match E.F.get f with
    | some fn => enterK E vs s ih fn fn.body
    | none => none
noncomputable def tCall (E : Env) (ih : Ih) (f : FuncId) (vs : List Value) (s : St) : Option Out := callK E f vs s ih (E.N f)

noncomputable def bodyD (E : Env) (rs : List ResultVar) : Option Out → Option Out
  | some (.code x tm ds s) => match x, ds with
    | .exit _, _ => none
    | _, [] => valK s (results E tm s.h.get rs)
    | _, _ => none
  | _ => none
noncomputable def enterD (E : Env) (vs : List Value) (s : St) (ih : Ih) (fn : Func) : Option Code → Option Out
  | some c => bodyD E fn.results.toList (ih (.code true c ⟨fn.ntmps, putArgs 0 vs .nil⟩ [] s))
  | none => none
noncomputable def defK (ds : Dl) (ih : Ih) : Option Out → Option Out
  | some (.call _ s) => ih (.defers ds s)
  | _ => none
noncomputable def tDefers (E : Env) (ih : Ih) (ds : Dl) (s : St) : Option Out :=
  match ds with
  | [] => some (.ops ⟨0, .nil⟩ [] s)
  | (f, vs) :: ds => match E.F.get f with
    | some fn => defK ds ih (enterD E vs s ih fn fn.body)
    | none => none

noncomputable def run (E : Env) (n : Nat) : Ih :=
  Nat.rec (motive := fun _ => Ih) (fun _ => none) (fun _ ih t => Task.rec (motive := fun _ => Option Out) (tDraw E ih) (tCode E ih) (tOps E ih) (tCall E ih) (tDefers E ih) t) n

noncomputable def runCall (E : Env) (n : Nat) (f : FuncId) (vs : List Value) (s : St) : Option (Value × St) :=
  match run E n (.call f vs s) with
  | some (.call v s) => some (v, s)
  | _ => none
end Go.Ev
