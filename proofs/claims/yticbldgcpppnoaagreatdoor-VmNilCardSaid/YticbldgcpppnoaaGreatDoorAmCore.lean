/- An abstract machine over the model's Code: what a run comes to whatever the tape answers: the definitions alone. -/
import GoSem.Step
namespace Go.AM

/-- Tries over the natural numbers. -/
inductive T (α : Type) where
  | nil
  | node (v : Option α) (a b c d : T α)
  deriving Inhabited

namespace T
variable {α : Type}
def get : T α → Nat → Option α
  | .nil, _ => none
  | .node v a b c d, n => match n with
    | 0 => v
    | m + 1 => match m % 4 with
      | 0 => a.get (m / 4)
      | k + 1 => match k with
        | 0 => b.get (m / 4)
        | k + 1 => match k with
          | 0 => c.get (m / 4)
          | _ + 1 => d.get (m / 4)
def setF (x : α) : Nat → T α → Nat → T α
  | 0, t, _ => t
  | f + 1, t, n => match t with
    | .nil => match n with
      | 0 => .node (some x) .nil .nil .nil .nil
      | m + 1 => match m % 4 with
        | 0 => .node none (setF x f .nil (m / 4)) .nil .nil .nil
        | k + 1 => match k with
          | 0 => .node none .nil (setF x f .nil (m / 4)) .nil .nil
          | k + 1 => match k with
            | 0 => .node none .nil .nil (setF x f .nil (m / 4)) .nil
            | _ + 1 => .node none .nil .nil .nil (setF x f .nil (m / 4))
    | .node v a b c d => match n with
      | 0 => .node (some x) a b c d
      | m + 1 => match m % 4 with
        | 0 => .node v (setF x f a (m / 4)) b c d
        | k + 1 => match k with
          | 0 => .node v a (setF x f b (m / 4)) c d
          | k + 1 => match k with
            | 0 => .node v a b (setF x f c (m / 4)) d
            | _ + 1 => .node v a b c (setF x f d (m / 4))
def set (t : T α) (n : Nat) (x : α) : T α := setF x (n + 1) t n
def setL (t : T α) (i : Nat) : List α → T α
  | [] => t
  | x :: xs => setL (t.set i x) (i + 1) xs
def ofList (l : List α) : T α := setL .nil 0 l
def range (t : T α) (i : Nat) : Nat → Option (List α)
  | 0 => some []
  | n + 1 => match t.get i with
    | some x => match t.range (i + 1) n with
      | some xs => some (x :: xs)
      | none => none
    | none => none
end T

/-- A row of cells. -/
structure Row where
  own : Bool
  size : Nat
  cells : T Value
  elem : TypeId
  esz : Nat
  opn : Bool
  grp : Nat
  frz : Nat
  sb : Bool

structure ALoop where
  state : LoopState
  pending : Option Code

inductive AObj where
  | dead
  | row (r : Row)
  | map (es : List MapEntry) (clock : Nat)
  | siter (s : ByteArray) (pos : Nat)
  | miter (m : Option Nat) (since : Nat) (seen : List Nat) (stepped : Nat)
  | loop (l : ALoop)
  | defd

structure St where
  next : Nat
  h : T AObj
  g : T (List Nat)

/-- An entry of a panic: its value, whether it is recovered. -/
structure PE where
  v : Value
  re : Bool
/-- How a frame is left. -/
inductive Mode where
  | ret
  | pan (ch : List PE)
/-- What is put off: the mark of a loop over a function; a call. -/
inductive DI where
  | mark (m : Nat)
  | fn (g : FuncId) (cap args : List Value)

/-- An activation: its slots, what is put off. -/
structure Fr where
  tm : T Value
  marks : List DI

inductive Out where
  | norm
  | ret
  | exit (id : Nat)
  | pan (ch : List PE)

inductive Nx where
  | val (v : Value)
  | skip
  | dfr (d : Deferred)
  | enter (f : FuncId) (args : List Value)
  | round (l : Nat) (args : List Value)
  | recov
  | pan (v : Value)

/-- A value without addresses, no deeper than so. -/
def noAddr : Nat → Value → Bool
  | _, .bool _ | _, .int _ _ | _, .string _ | _, .pointer none | _, .map none | _, .nilFunc | _, .nilIface => true
  | _, .slice none _ _ => true
  | n + 1, .iface _ v => noAddr n v
  | n + 1, .agg cs => cs.toList.all (noAddr n)
  | n + 1, .tuple cs => cs.toList.all (noAddr n)
  | n + 1, .func fn first captured => (match fn with | .func _ => true | _ => false) && first.toList.all (noAddr n) && captured.toList.all (noAddr n)
  | _, _ => false
def plainV (v : Value) : Bool := noAddr 40 v
def one : Value → Bool
  | .agg _ | .tuple _ => false
  | _ => true

/-- A global's row: its number, its cells, its type. -/
structure GRow where
  g : Nat
  cells : List Value
  elem : TypeId
/-- A row that a known call makes: its number, its cells. -/
structure KRow where
  b : Nat
  cells : List Value
  elem : TypeId
  esz : Nat
  opn : Bool
  frz : Nat
  sb : Bool
/-- A call that is known: of which function, with what; which globals' rows it looks at; what it answers, how many blocks it makes, and its rows, by their numbers behind the first. -/
structure Known where
  f : FuncId
  args : List Value
  looks : List GRow
  v : Value
  cnt : Nat
  objs : List KRow

/-- What is looked up in the program. -/
structure Env where
  P : Program
  sl : List (List UInt8)
  ng : Nat
  ty : T TypeInfo
  fn : T Func
  known : List Known

def mkEnv (P : Program) (sl : List (List UInt8) := []) : Env := { P, sl, ng := P.globals.size, ty := T.ofList P.types.toList, fn := T.ofList P.funcs.toList, known := [] }

namespace Env
variable (E : Env)
def inf (t : TypeId) : Option TypeInfo := E.ty.get t
def und (t : TypeId) : Option TypeDesc :=
  match E.inf t with
  | some i => match i.desc with
    | .named _ u => match E.inf u with
      | some j => some j.desc
      | none => none
    | d => some d
  | none => none
def size (t : TypeId) : Option Nat := (E.inf t).map (·.size)
def zero (t : TypeId) : Option Value :=
  match E.inf t with
  | some i => match i.zero with
    | some z => if plainV z then some z else none
    | none => none
  | none => none
def agg (t : TypeId) : Option Bool := (E.und t).map fun d => match d with | .struct _ | .array _ _ => true | _ => false
end Env

/-- A computation that looks at the program alone. -/
def pureRun (P : Program) {α : Type} : Sem α → Option (Except Value α)
  | .pure a => some (.ok a)
  | .program k => pureRun P (k P)
  | .halt (.panic v) => some (.error v)
  | _ => none

namespace St
variable (A : St)
def row? (b : Nat) : Option Row := match A.h.get b with
  | some (.row r) => some r
  | _ => none
def loadN (a : Addr) (n : Nat) : Option (List Value) :=
  match a.spot with
  | some _ => none
  | none => match A.row? a.block with
    | some r => if a.off + n ≤ r.size then r.cells.range a.off n else none
    | none => none
def new (o : AObj) : Nat × St := (A.next, { A with next := A.next + 1, h := A.h.set A.next o })
def newRow (elem : TypeId) (cells : List Value) : Addr × St :=
  (⟨A.next, 0, none⟩, { A with next := A.next + 1, h := A.h.set A.next (.row { own := true, size := cells.length, cells := T.ofList cells, elem, esz := 0, opn := false, grp := A.next, frz := 0, sb := false }) })
def setObj (b : Nat) (o : AObj) : St := { A with h := A.h.set b o }
def kill (h : T AObj) (b : Nat) : List Nat → T AObj
  | [] => h
  | m :: ms => kill (if m == b then h else h.set m .dead) b ms
/-- Of a row's group the row alone is left. -/
def alone (b : Nat) (r : Row) : St :=
  match A.g.get r.grp with
  | none => A
  | some ms => { A with h := kill A.h b ms, g := A.g.set r.grp [b] }
def storeN (a : Addr) (vs : List Value) : Option St :=
  match a.spot with
  | some _ => none
  | none => match A.row? a.block with
    | some r =>
      if r.own && decide (a.off + vs.length ≤ r.size) && decide (r.frz ≤ a.off) && vs.all one then
        let A1 := A.alone a.block r
        some (A1.setObj a.block (.row { r with cells := r.cells.setL a.off vs }))
      else none
    | none => none
end St

section
variable (E : Env)

def loadV (A : St) (t : TypeId) (a : Addr) : Option Value :=
  match E.agg t with
  | some true => match E.size t with
    | some n => match A.loadN a n with
      | some vs => some (.agg vs.toArray)
      | none => none
    | none => none
  | some false => match A.loadN a 1 with
    | some [v] => some v
    | _ => none
  | none => none

def storeV (A : St) (t : TypeId) (a : Addr) (v : Value) : Option St :=
  match E.size t with
  | some n => if v.cells.size == n then A.storeN a v.cells.toList else none
  | none => none

def addA (a : Addr) (n : Nat) : Addr := ⟨a.block, a.off + n, none⟩

def getPart (t : TypeId) (cs : Array Value) (off : Nat) : Option Value :=
  match E.agg t with
  | some true => match E.size t with
    | some n => some (.agg (cs.extract off (off + n)))
    | none => none
  | some false => cs[off]?
  | none => none

def bound (v : Value) (hi : Nat) : Option Nat :=
  match v with
  | .int _ i => if 0 ≤ i ∧ i ≤ (hi : Int) then some i.toNat else none
  | _ => none
def optBound (v : Option Value) (hi dflt : Nat) : Option Nat :=
  match v with
  | none => some dflt
  | some v => bound v hi

def sliceOp (A : St) (t : TypeId) (x : Value) (lo hi mx : Option Value) : Option Value :=
  if mx.isSome && hi.isNone then none else
  match E.und t, x with
  | some .string, .string s =>
    match mx with
    | some _ => none
    | none => match optBound hi s.size s.size with
      | some h => match optBound lo h 0 with
        | some l => some (.string (s.extract l h))
        | none => none
      | none => none
  | some (.slice e), .slice none len cap =>
    match E.size e, Nat.ble len cap with
    | some _, true => match optBound mx cap cap with
      | some m => match optBound hi m len with
        | some h => match optBound lo h 0 with
          | some l => some (.slice none (h - l) (m - l))
          | none => none
        | none => none
      | none => none
    | _, _ => none
  | some (.slice e), .slice (some a) len cap =>
    match A.row? a.block, E.size e with
    | some r, some sz =>
      match optBound mx cap cap with
      | some m => match optBound hi m len with
        | some h => match optBound lo h 0 with
          | some l =>
            match r.opn with
            | true => if r.esz != sz then none else some (.slice (some (addA a (l * sz))) (h - l) (m - l))
            | false => some (.slice (some (if m = l then a else addA a (l * sz))) (h - l) (m - l))
          | none => none
        | none => none
      | none => none
    | _, _ => none
  | some (.array n e), .pointer (some a) =>
    match A.row? a.block, E.size e with
    | some r, some sz =>
      match r.opn with
      | true => none
      | false => match optBound mx n n with
        | some m => match optBound hi m n with
          | some h => match optBound lo h 0 with
            | some l => some (.slice (some (if m = l then a else addA a (l * sz))) (h - l) (m - l))
            | none => none
          | none => none
        | none => none
    | _, _ => none
  | _, _ => none

/-- nil held against what is none. -/
def eqNil (t : TypeDesc) (x y : Value) : Option Bool :=
  match t, x, y with
  | .pointer _, .pointer (some _), .pointer none => some false
  | .pointer _, .pointer none, .pointer (some _) => some false
  | .slice _, .slice (some _) _ _, .slice none _ _ => some false
  | .slice _, .slice none _ _, .slice (some _) _ _ => some false
  | .map _ _, .map (some _), .map none => some false
  | .map _ _, .map none, .map (some _) => some false
  | .func _ _ _, .func _ _ _, .nilFunc => some false
  | .func _ _ _, .nilFunc, .func _ _ _ => some false
  | .interface _, .iface _ _, .nilIface => some false
  | .interface _, .nilIface, .iface _ _ => some false
  | .pointer e, .pointer (some a), .pointer (some b) => if a.block = b.block ∧ a.off = b.off ∧ (E.size e).isSome = true then some true else none
  | .interface _, .iface tx _, .iface ty _ => if tx = ty then none else some false
  | _, _, _ => none

def findE (k : Value) : List MapEntry → Nat → Option (Option (Nat × Value))
  | [], _ => some none
  | e :: es, i => match k, e.key with
    | .int a x, .int b y => if a = b then (if x = y then some (some (i, e.val)) else findE k es (i + 1)) else none
    | .string x, .string y => if x.data.toList = y.data.toList then some (some (i, e.val)) else findE k es (i + 1)
    | .bool x, .bool y => if x = y then some (some (i, e.val)) else findE k es (i + 1)
    | _, _ => none
def keyOk (t : TypeDesc) (k : Value) : Bool :=
  match t, k with
  | .int _, .int _ _ | .string, .string _ | .bool, .bool _ => true
  | _, _ => false
def sameKey : Value → Value → Bool
  | .int j a, .int k b => j == k && a == b
  | .string a, .string b => a.data.toList == b.data.toList
  | .bool a, .bool b => a == b
  | _, _ => false

def mapPut (es : List MapEntry) (clock : Nat) (k v : Value) : Option (List MapEntry × Nat) :=
  match findE k es 0 with
  | some (some (i, _)) => some (es.modify i fun e => { e with val := v }, clock)
  | some none => some (es ++ [{ key := k, val := v, born := clock }], clock + 1)
  | none => none

def nilDeref : Value := .iface E.P.rt.errorString (strVal "invalid memory address or nil pointer dereference")

def zeros (z : List Value) : Nat → List Value
  | 0 => []
  | n + 1 => z ++ zeros z n

/-- The cells of the first n elements. -/
def firstN (A : St) (sz n : Nat) (x : Value) : Option (List Value) :=
  match x with
  | .slice (some a) _ _ => A.loadN a (n * sz)
  | .slice none _ _ => if n = 0 then some [] else none
  | .string s => some ((s.data.toList.take n).map fun b => .int .u8 b.toNat)
  | _ => none
def lenV : Value → Option Nat
  | .slice _ n _ => some n
  | .string s => some s.size
  | _ => none

/-- What an append appends: how many elements, and their cells. -/
def newCells (A : St) (d1 : TypeDesc) (e : TypeId) (i : TypeInfo) (x : Value) : Option (Nat × List Value) :=
  match d1 with
  | .int _ => match x, E.zero e with
    | .int _ n, some z => if 0 ≤ n ∧ n ≤ 4294967296 ∧ z.cells.size = i.size then some (n.toNat, zeros z.cells.toList n.toNat) else none
    | _, _ => none
  | _ => match lenV x with
    | some n => match firstN A i.size n x with
      | some new => some (n, new)
      | none => none
    | none => none

/-- Of the rows that may lie in the block of a row behind which is appended: what is left of them, and which may share the block. -/
def appMode (A : St) (b : Nat) (r : Row) (reach : Bool) : T AObj × List Nat :=
  match A.g.get r.grp with
  | none => if reach then (A.h, [b]) else (A.h.set b .dead, [])
  | some ms =>
    if reach then match ms with
      | m :: _ => if Nat.beq m b then (A.h, ms) else (St.kill A.h b ms, [b])
      | [] => (A.h, [b])
    else (St.kill A.h A.next (b :: ms), [])

def openRow (cells : T Value) (size : Nat) (e : TypeId) (sz grp frz : Nat) (sb : Bool) : Row :=
  { own := true, size, cells, elem := e, esz := sz, opn := true, grp, frz, sb }

/-- A slice in a new array. -/
def appNew (A : St) (e : TypeId) (sz n : Nat) (cells : List Value) : Value × St :=
  (.slice (some ⟨A.next, 0, none⟩) n n, { A with next := A.next + 1, h := A.h.set A.next (.row (openRow (T.ofList cells) cells.length e sz A.next 0 false)) })

/-- Behind an open row: in its array, or in a new one. -/
def appOpen (A : St) (r : Row) (a : Addr) (e : TypeId) (sz len n : Nat) (old new : List Value) : Value × St :=
  let reach := Nat.beq (a.off + len * sz) r.size
  let m := appMode A a.block r reach
  let cells := if reach && Nat.beq a.off 0 then r.cells.setL r.size new else T.ofList (old ++ new)
  (.slice (some ⟨A.next, 0, none⟩) (len + n) (len + n),
    { A with next := A.next + 1, h := m.1.set A.next (.row (openRow cells ((len + n) * sz) e sz r.grp (r.frz - a.off) r.sb)), g := A.g.set r.grp (A.next :: m.2) })

def appGrow (A : St) (e : TypeId) (i : TypeInfo) (base : Option Addr) (len n : Nat) (new : List Value) : Option (Value × St) :=
  match base with
  | none => match len with
    | 0 => some (appNew A e i.size n new)
    | _ + 1 => none
  | some a => match A.row? a.block with
    | some r =>
      if a.off + len * i.size ≤ r.size then
        match r.cells.range a.off (len * i.size) with
        | none => none
        | some old => match r.opn with
          | true => if r.elem = e ∧ r.esz = i.size ∧ r.own = true ∧ r.frz ≤ a.off + len * i.size then some (appOpen A r a e i.size len n old new) else none
          | false => some (appNew A e i.size (len + n) (old ++ new))
      else none
    | none => none

def appIn (A : St) (base : Option Addr) (sz len n cap : Nat) (new : List Value) : Option (Value × St) :=
  match n with
  | 0 => some (.slice base len cap, A)
  | _ + 1 => match base with
    | none => none
    | some a => match A.storeN (addA a (len * sz)) new with
      | some A' => some (.slice base (len + n) cap, A')
      | none => none

/-- append. -/
def app (A : St) (ts : List TypeId) (args : List Value) : Option (Value × St) :=
  match ts, args with
  | [t, t1], [.slice base len cap, x] =>
    match E.und t, E.und t1 with
    | some (.slice e), some d1 => match E.inf e, E.zero e with
      | some i, some z => match newCells E A d1 e i x with
        | some (n, new) =>
          if i.size ≠ 0 ∧ new.length = n * i.size ∧ (len + n) * i.bytes ≤ 140737488355328 ∧ len + n ≤ 4611686018427387904 ∧ z.cells.size = i.size ∧ new.all one = true then
            if len + n ≤ cap then appIn A base i.size len n cap new else appGrow A e i base len n new
          else none
        | none => none
      | _, _ => none
    | _, _ => none
  | _, _ => none

def bytesL (A : St) (x : Value) : Option (List UInt8) :=
  match x with
  | .string s => some s.data.toList
  | .slice none _ _ => some []
  | .slice (some a) n _ => match A.loadN a n with
    | some vs => vs.foldr (fun v acc => match v, acc with | .int .u8 b, some l => some (UInt8.ofNat b.toNat :: l) | _, _ => none) (some [])
    | none => none
  | _ => none
def mkStr (l : List UInt8) : Value := .string ⟨l.toArray⟩

def und0 (ts : List TypeId) : Option TypeDesc := match ts with
  | t :: _ => E.und t
  | [] => none

def bLen (A : St) (ts : List TypeId) (args : List Value) : Option (Nx × St) :=
  match und0 E ts, args with
  | some (.slice _), [.slice _ n _] => some (.val (goInt n), A)
  | some .string, [.string s] => some (.val (goInt s.size), A)
  | some (.map _ _), [.map none] => some (.val (goInt 0), A)
  | some (.map _ _), [.map (some r)] => match A.h.get r with
    | some (.map es _) => some (.val (goInt es.length), A)
    | _ => none
  | some (.array n _), [_] => some (.val (goInt n), A)
  | some (.pointer arr), [_] => match E.und arr with
    | some (.array n _) => some (.val (goInt n), A)
    | _ => none
  | _, _ => none

def bCap (A : St) (ts : List TypeId) (args : List Value) : Option (Nx × St) :=
  match und0 E ts, args with
  | some (.slice _), [.slice none _ n] => some (.val (goInt n), A)
  | some (.slice _), [.slice (some a) _ n] => match A.row? a.block with
    | some r => if r.opn then none else some (.val (goInt n), A)
    | none => none
  | _, _ => none

def bAppend (A : St) (ts : List TypeId) (args : List Value) : Option (Nx × St) :=
  match app E A ts args with
  | some (v, A') => some (.val v, A')
  | none => none

def bCopy (A : St) (ts : List TypeId) (args : List Value) : Option (Nx × St) :=
  match und0 E ts, args with
  | some (.slice e), [.slice base dl _, src] => match E.size e, lenV src with
    | some sz, some sl => match firstN A sz (Nat.min sl dl) src with
      | some cs => match base with
        | none => some (.val (goInt (Nat.min sl dl)), A)
        | some a => if cs.length = 0 then some (.val (goInt (Nat.min sl dl)), A) else
          match A.storeN a cs with
          | some A' => some (.val (goInt (Nat.min sl dl)), A')
          | none => none
      | none => none
    | _, _ => none
  | _, _ => none

def bDelete (A : St) (ts : List TypeId) (args : List Value) : Option (Nx × St) :=
  match und0 E ts, args with
  | some (.map kt _), [.map (some r), k] => match E.und kt, A.h.get r with
    | some kd, some (.map es c) => if keyOk kd k then match findE k es 0 with
        | some (some (i, _)) => some (.val (.tuple #[]), A.setObj r (.map (es.eraseIdx i) c))
        | some none => some (.val (.tuple #[]), A)
        | none => none
      else none
    | _, _ => none
  | _, _ => none

def bClear (A : St) (ts : List TypeId) (args : List Value) : Option (Nx × St) :=
  match und0 E ts, args with
  | some (.slice e), [.slice (some a) n _] => match E.zero e with
    | some z => if n = 0 then some (.val (.tuple #[]), A) else match A.storeN a (zeros z.cells.toList n) with
      | some A' => some (.val (.tuple #[]), A')
      | none => none
    | none => none
  | some (.slice _), [.slice none _ _] => some (.val (.tuple #[]), A)
  | _, _ => none

def bMin (A : St) (b : Builtin) (ts : List TypeId) (ty : TypeId) (args : List Value) : Option (Nx × St) :=
  if args.all plainV then
    match pureRun E.P (builtin b ts.toArray ty #[] args.toArray) with
    | some (.ok (.value v)) => if plainV v then some (.val v, A) else none
    | _ => none
  else none

def bPanic (A : St) (args : List Value) : Option (Nx × St) :=
  match args with
  | [.iface t v] => some (.pan (.iface t v), A)
  | _ => none

def bUnsafeSliceData (A : St) (args : List Value) : Option (Nx × St) :=
  match args with
  | [.slice none _ _] => some (.val (.pointer none), A)
  | [.slice (some a) _ c] => if c = 0 then none else some (.val (.pointer (some a)), A)
  | _ => none

def strOk (ts : List TypeId) (r : Row) : Bool := r.own && !r.sb && (match E.size r.elem with | some k => Nat.beq k 1 | none => false) && (match und0 E ts with | some (.pointer u) => sameLayout E.P E.P.depth r.elem u | _ => false)

def bUnsafeString (A : St) (ts : List TypeId) (args : List Value) : Option (Nx × St) :=
  match args with
  | [.pointer none, .int _ n] => if n = 0 then some (.val (.string .empty), A) else none
  | [.pointer (some a), .int _ n] =>
    if n = 0 then some (.val (.string .empty), A) else
    if n < 0 ∨ 4294967296 < n then none else
    match A.row? a.block, a.spot with
    | some r, none =>
      if strOk E ts r then
        match bytesL A (.slice (some a) n.toNat n.toNat) with
        | some l =>
          let A1 := A.alone a.block r
          some (.val (mkStr l), A1.setObj a.block (.row { r with frz := max r.frz (a.off + n.toNat) }))
        | none => none
      else none
    | _, _ => none
  | _ => none

def builtinOp (A : St) (b : Builtin) (ts : List TypeId) (ty : TypeId) (args : List Value) : Option (Nx × St) :=
  match b with
  | .len => bLen E A ts args
  | .cap => bCap E A ts args
  | .append => bAppend E A ts args
  | .copy => bCopy E A ts args
  | .delete => bDelete E A ts args
  | .clear => bClear E A ts args
  | .min | .max => bMin E A b ts ty args
  | .recover => some (.recov, A)
  | .panic => bPanic A args
  | .unsafeSliceData => bUnsafeSliceData A args
  | .unsafeString => match ts with
    | [] => none
    | _ :: _ => bUnsafeString E A ts args
  | _ => none

def externOp (A : St) (name : String) (args : List Value) : Option (Value × St) :=
  if name = "internal/bytealg.IndexByteString" ∨ name = "internal/bytealg.IndexByte" then
    match args with
    | [b, .int .u8 c] => match bytesL A b with
      | some l => some (goInt (match l.findIdx? (· == c.toNat.toUInt8) with | some i => (i : Int) | none => -1), A)
      | none => none
    | _ => none
  else if name = "internal/abi.NoEscape" then
    match args with
    | [x] => some (x, A)
    | _ => none
  else if name = "internal/bytealg.abigen_runtime_cmpstring" then
    match args with
    | [.string a, .string b] => some (goInt (Extern.BytealgCompare.cmp a b), A)
    | _ => none
  else if name = "internal/bytealg.CountString" then
    match args with
    | [.string a, .int .u8 c] => some (goInt (((a.data.toList.filter (· == c.toNat.toUInt8)).length : Nat)), A)
    | _ => none
  else none

def callF (A : St) (f : FuncId) (args : List Value) : Option (Nx × St) :=
  match E.fn.get f with
  | some fn => match fn.body with
    | some _ => some (.enter f args, A)
    | none => match externOp A fn.name args with
      | some (v, A') => some (.val v, A')
      | none => none
  | none => none

def callM (A : St) (recv : Value) (name : String) (args : List Value) : Option (Nx × St) :=
  match recv with
  | .iface t v => match E.inf t with
    | some i => match i.methods.find? (·.name == name) with
      | some m => if m.path.isEmpty then match m.func with
          | some (f, ptr) => match E.und t, ptr with
            | some (.pointer _), true => callF E A f (v :: args)
            | some (.pointer _), false => none
            | some _, false => callF E A f (v :: args)
            | _, _ => none
          | none => none
        else none
      | none => none
    | none => none
  | .nilIface => some (.pan (nilDeref E), A)
  | _ => none

/-- What is called: a target and its arguments. -/
def invokeT (A : St) (t : Target) (args : List Value) : Option (Nx × St) :=
  match t with
  | .nil => some (.pan (nilDeref E), A)
  | .fn (.func f) captured => callF E A f (args ++ captured.toList)
  | .fn (.method name) _ => match args with
    | recv :: rest => callM E A recv name rest
    | [] => none
  | .fn (.yield l) _ => some (.round l args, A)
  | .builtin b ts ty _ => builtinOp E A b ts.toList ty args
  | _ => none

def resolveT (ρ : Operand → Value) (c : Call) (ty : TypeId) : Option Deferred :=
  match c.callee with
  | .builtin b => some { target := .builtin b c.argTypes ty (c.args.map fun | .const _ => true | _ => false), args := c.args.map ρ }
  | .invoke recv name => some { target := .fn (.method name) #[], args := #[ρ recv] ++ c.args.map ρ }
  | .value f => match ρ f with
    | .func fn first captured => some { target := .fn fn captured, args := first ++ c.args.map ρ }
    | .nilFunc => some { target := .nil, args := c.args.map ρ }
    | _ => none

def fillL (place : Nat → Option (Nat × Nat)) (cells : Array Value) : List (Nat × Value) → Option (Array Value) := Instr.fill place cells

def pureOp (o : Oper) : Bool :=
  match o.op with
  | .binOp .. | .unOp .. | .convert .. | .index .. | .slice .. | .field .. | .build .. | .extract .. | .typeAssert .. | .makeInterface .. => true
  | _ => false

def viaPure (A : St) (ρ : Operand → Value) (o : Oper) : Option (Nx × St) :=
  if pureOp o && (o.op.operands.toList.map ρ).all plainV then
    match pureRun E.P (execOp ρ o) with
    | some (.ok (.value v)) => if plainV v then some (.val v, A) else none
    | some (.error v) => if plainV v then some (.pan v, A) else none
    | _ => none
  else none

def lo : IntKind → Int
  | .i8 => -128 | .i16 => -32768 | .i32 => -2147483648 | .i64 => -9223372036854775808
  | _ => 0
def hi : IntKind → Int
  | .i8 => 127 | .i16 => 32767 | .i32 => 2147483647 | .i64 => 9223372036854775807
  | .u8 => 255 | .u16 => 65535 | .u32 => 4294967295 | .u64 => 18446744073709551615
def wrapF (k : IntKind) (n : Int) : Int := if lo k ≤ n ∧ n ≤ hi k then n else k.wrap n

/-- Whole numbers, texts and flags: the commonest operations. -/
def fast (sl : List (List UInt8)) (op : BinOp) (x y : Value) : Option Value :=
  match x, y with
  | .int k a, .int k' b => if k = k' then match op with
      | .add => some (.int k (wrapF k (a + b)))
      | .sub => some (.int k (wrapF k (a - b)))
      | .mul => some (.int k (wrapF k (a * b)))
      | .eql => some (.bool (a == b))
      | .neq => some (.bool (a != b))
      | .lss => some (.bool (decide (a < b)))
      | .leq => some (.bool (decide (a ≤ b)))
      | .gtr => some (.bool (decide (a > b)))
      | .geq => some (.bool (decide (a ≥ b)))
      | _ => none
    else none
  | .string a, .string b => match op with
      | .eql => some (.bool (a.data.toList == b.data.toList))
      | .neq => some (.bool !(a.data.toList == b.data.toList))
      | _ => none
  | .float .f64 0, .string b => match op with
      | .eql => if sl.contains b.data.toList then some (.bool false) else none
      | .neq => if sl.contains b.data.toList then some (.bool true) else none
      | _ => none
  | .string b, .float .f64 0 => match op with
      | .eql => if sl.contains b.data.toList then some (.bool false) else none
      | .neq => if sl.contains b.data.toList then some (.bool true) else none
      | _ => none
  | _, _ => none

def xPick (A : St) (ρ : Operand → Value) (c a b : Operand) : Option (Nx × St) :=
  match ρ c with
  | .bool t => some (.val (if t then ρ a else ρ b), A)
  | _ => none

def xAlloc (A : St) (_ρ : Operand → Value) (t : TypeId) : Option (Nx × St) :=
  match E.zero t with
  | some z => let (a, A') := A.newRow t z.cells.toList; some (.val (.pointer (some a)), A')
  | none => none

def xBox (A : St) (ρ : Operand → Value) (t : TypeId) (x : Operand) : Option (Nx × St) :=
  let (a, A') := A.newRow t (ρ x).cells.toList; some (.val (.pointer (some a)), A')

def xBuild (A : St) (ρ : Operand → Value) (t : TypeId) (parts : Array (Nat × Operand)) : Option (Nx × St) :=
  match E.und t, E.zero t with
  | some (.struct fs), some z =>
    match fs.toList.mapM (fun f => (E.size f.type).map fun s => (f.offset, s)) with
    | some places => match Instr.fill (places.toArray[·]?) z.cells (parts.toList.map fun p => (p.1, ρ p.2)) with
      | some cells => some (.val (.agg cells), A)
      | none => none
    | none => none
  | some (.array _ e), some z => match E.size e with
    | some s => match Instr.fill (fun i => some (i * s, s)) z.cells (parts.toList.map fun p => (p.1, ρ p.2)) with
      | some cells => some (.val (.agg cells), A)
      | none => none
    | none => none
  | _, _ => none

def xBuildSlice (A : St) (ρ : Operand → Value) (t : TypeId) (len : Nat) (parts : Array (Nat × Operand)) : Option (Nx × St) :=
  match E.und t with
  | some (.slice e) => match E.size e, E.zero e with
    | some s, some z =>
      if s = 0 ∨ len * s > 16777216 ∨ z.cells.size ≠ s then none else
      match Instr.fill (fun i => some (i * s, s)) (zeros z.cells.toList len).toArray (parts.toList.map fun p => (p.1, ρ p.2)) with
      | some cells => let (a, A') := A.newRow e cells.toList; some (.val (.slice (some a) len len), A')
      | none => none
    | _, _ => none
  | _ => none

def xLoad (A : St) (ρ : Operand → Value) (t : TypeId) (a : Operand) : Option (Nx × St) :=
  match ρ a with
  | .pointer (some ad) => match loadV E A t ad with
    | some v => some (.val v, A)
    | none => none
  | _ => none

def xStore (A : St) (ρ : Operand → Value) (t : TypeId) (a x : Operand) : Option (Nx × St) :=
  match ρ a with
  | .pointer (some ad) => match storeV E A t ad (ρ x) with
    | some A' => some (.skip, A')
    | none => none
  | _ => none

def xNilCheck (A : St) (ρ : Operand → Value) (x : Operand) : Option (Nx × St) :=
  match ρ x with
  | .pointer none | .nilIface | .nilFunc => some (.pan (nilDeref E), A)
  | .func (.func _) _ _ => some (.val (ρ x), A)
  | .func (.yield _) _ _ => some (.val (ρ x), A)
  | .func _ _ _ => none
  | v => some (.val v, A)

def xBinOp (A : St) (ρ : Operand → Value) (o : Oper) (op : BinOp) (t : TypeId) (x y : Operand) : Option (Nx × St) :=
  match fast E.sl op (ρ x) (ρ y) with
  | some v => some (.val v, A)
  | none =>
  match viaPure E A ρ o with
  | some r => some r
  | none => match op with
    | .eql => match (E.und t).bind fun d => eqNil E d (ρ x) (ρ y) with
      | some b => some (.val (.bool b), A)
      | none => none
    | .neq => match (E.und t).bind fun d => eqNil E d (ρ x) (ρ y) with
      | some b => some (.val (.bool (!b)), A)
      | none => none
    | _ => none

def xConvert (A : St) (ρ : Operand → Value) (o : Oper) (src dst : TypeId) (x : Operand) : Option (Nx × St) :=
  match E.und src, E.und dst, ρ x with
  | some (.slice e), some .string, x => match E.und e with
    | some (.int .u8) => match bytesL A x with
      | some l => some (.val (mkStr l), A)
      | none => none
    | _ => none
  | some .string, some (.slice e), .string s => match E.und e with
    | some (.int .u8) =>
      let b := A.next
      some (.val (.slice (some ⟨b, 0, none⟩) s.size s.size),
        { A with next := A.next + 1, h := A.h.set b (.row { own := true, size := s.size, cells := T.ofList (s.data.toList.map fun c => .int .u8 c.toNat), elem := e, esz := 1, opn := true, grp := b, frz := 0, sb := true }) })
    | some (.int .i32) =>
      let b := A.next
      let vs := (Conv.runesFrom s s.size 0 #[]).toList
      some (.val (.slice (some ⟨b, 0, none⟩) vs.length vs.length),
        { A with next := A.next + 1, h := A.h.set b (.row { own := true, size := vs.length, cells := T.ofList vs, elem := e, esz := 1, opn := true, grp := b, frz := 0, sb := false }) })
    | _ => none
  | some .unsafePointer, some (.pointer u), .pointer (some a) => match A.row? a.block with
    | some r => if !r.opn && (E.size u).isSome && liesAt E.P E.P.depth r.elem (r.size / E.P.cellsOf r.elem) a.off u 1 then some (.val (.pointer (some a)), A) else none
    | none => none
  | some (.pointer t), some .unsafePointer, .pointer (some a) => match A.row? a.block, E.size t with
    | some r, some n => if !r.opn && n != 0 && Nat.blt a.off r.size then some (.val (.pointer (some a)), A) else none
    | _, _ => none
  | _, _, _ => viaPure E A ρ o

def xMakeInterface (A : St) (ρ : Operand → Value) (t : TypeId) (x : Operand) : Option (Nx × St) :=
  match E.und t with
  | some (.interface _) => none
  | some _ => some (.val (.iface t (ρ x)), A)
  | none => none

def xMakeMap (A : St) (_ρ : Operand → Value) (r : Option Operand) : Option (Nx × St) :=
  match r with
  | none => let (b, A') := A.new (.map [] 0); some (.val (.map (some b)), A')
  | some _ => none

def xMakeSlice (A : St) (ρ : Operand → Value) (t : TypeId) (l c : Operand) : Option (Nx × St) :=
  match E.und t, ρ l, ρ c with
  | some (.slice e), .int _ ln, .int _ cp => match E.inf e with
    | some i => match E.zero e with
      | some z =>
        if 0 ≤ ln ∧ ln ≤ cp ∧ cp * i.bytes ≤ 140737488355328 ∧ cp ≤ 4294967296 ∧ i.size ≠ 0 ∧ z.cells.size = i.size then
          let (a, A') := A.newRow e (zeros z.cells.toList cp.toNat)
          some (.val (.slice (some a) ln.toNat cp.toNat), A')
        else none
      | none => none
    | none => none
  | _, _, _ => none

def xSlice (A : St) (ρ : Operand → Value) (t : TypeId) (x : Operand) (lo hi mx : Option Operand) : Option (Nx × St) :=
  match sliceOp E A t (ρ x) (lo.map ρ) (hi.map ρ) (mx.map ρ) with
  | some v => some (.val v, A)
  | none => none

def xFieldAddr (A : St) (ρ : Operand → Value) (s : TypeId) (x : Operand) (f : Nat) : Option (Nx × St) :=
  match E.und s, ρ x with
  | some (.struct fs), .pointer (some a) => match fs[f]? with
    | some fd => match E.size fd.type with
      | some n => if n = 0 then none else some (.val (.pointer (some (addA a fd.offset))), A)
      | none => none
    | none => none
  | _, _ => none

def xField (A : St) (ρ : Operand → Value) (t : TypeId) (x : Operand) (f : Nat) : Option (Nx × St) :=
  match E.und t, ρ x with
  | some (.struct fs), .agg cs => match fs[f]? with
    | some fd => match getPart E fd.type cs fd.offset with
      | some v => some (.val v, A)
      | none => none
    | none => none
  | _, _ => none

def xIndexAddr (A : St) (ρ : Operand → Value) (t : TypeId) (x ix : Operand) : Option (Nx × St) :=
  match E.und t, ρ x, ρ ix with
  | some (.slice e), .slice (some a) len _, .int _ i => match E.size e with
    | some s => if 0 ≤ i ∧ i < (len : Int) ∧ s ≠ 0 then some (.val (.pointer (some (addA a (i.toNat * s)))), A) else none
    | none => none
  | some (.array len e), .pointer (some a), .int _ i => match E.size e with
    | some s => if 0 ≤ i ∧ i < (len : Int) ∧ s ≠ 0 then some (.val (.pointer (some (addA a (i.toNat * s)))), A) else none
    | none => none
  | _, _, _ => none

def xIndex (A : St) (ρ : Operand → Value) (t : TypeId) (x ix : Operand) : Option (Nx × St) :=
  match E.und t, ρ x, ρ ix with
  | some .string, .string s, .int _ i => if 0 ≤ i then match s.data.toList[i.toNat]? with
      | some b => some (.val (.int .u8 b.toNat), A)
      | none => none
    else none
  | some (.array len e), .agg cs, .int _ i => match E.size e with
    | some s => if 0 ≤ i ∧ i < (len : Int) then match getPart E e cs (i.toNat * s) with
        | some v => some (.val v, A)
        | none => none
      else none
    | none => none
  | _, _, _ => none

def xLookup (A : St) (ρ : Operand → Value) (t : TypeId) (m ix : Operand) (ok : Bool) : Option (Nx × St) :=
  match E.und t with
  | some (.map kt et) => match E.und kt, E.zero et with
    | some kd, some z =>
      if keyOk kd (ρ ix) then
        let es := match ρ m with
          | .map none => some []
          | .map (some r) => match A.h.get r with
            | some (.map es _) => some es
            | _ => none
          | _ => none
        match es with
        | some es => match findE (ρ ix) es 0 with
          | some (some (_, v)) => some (.val (if ok then .tuple #[v, .bool true] else v), A)
          | some none => some (.val (if ok then .tuple #[z, .bool false] else z), A)
          | none => none
        | none => none
      else none
    | _, _ => none
  | _ => none

def xMapUpdate (A : St) (ρ : Operand → Value) (t : TypeId) (m k x : Operand) : Option (Nx × St) :=
  match E.und t, ρ m with
  | some (.map kt _), .map (some r) => match E.und kt, A.h.get r with
    | some kd, some (.map es c) => if keyOk kd (ρ k) then match mapPut es c (ρ k) (ρ x) with
        | some (es', c') => some (.skip, A.setObj r (.map es' c'))
        | none => none
      else none
    | _, _ => none
  | _, _ => none

def xMapEntry (A : St) (ρ : Operand → Value) (t : TypeId) (m k : Operand) : Option (Nx × St) :=
  match E.und t, ρ m with
  | some (.map kt et), .map (some r) => match E.und kt, A.h.get r, E.zero et with
    | some kd, some (.map es c), some z => if keyOk kd (ρ k) then match findE (ρ k) es 0 with
        | some (some (i, v)) => match es[i]? with
          | some e => some (.val (.tuple #[v, goInt e.born]), A)
          | none => none
        | some none => some (.val (.tuple #[z, goInt c]), A.setObj r (.map (es ++ [{ key := ρ k, val := z, born := c }]) (c + 1)))
        | none => none
      else none
    | _, _, _ => none
  | _, _ => none

def xEntryStore (A : St) (ρ : Operand → Value) (m s x : Operand) : Option (Nx × St) :=
  match ρ m, ρ s with
  | .map (some r), .int _ n => match A.h.get r with
    | some (.map es c) => match es.findIdx? (fun e => (e.born : Int) == n) with
      | some i => some (.skip, A.setObj r (.map (es.modify i fun e => { e with val := ρ x }) c))
      | none => none
    | _ => none
  | _, _ => none

def xRange (A : St) (ρ : Operand → Value) (t : TypeId) (x : Operand) : Option (Nx × St) :=
  match E.und t, ρ x with
  | some .string, .string s => let (b, A') := A.new (.siter s 0); some (.val (.pointer (some ⟨b, 0, none⟩)), A')
  | some (.map _ _), .map none => let (b, A') := A.new (.miter none 0 [] 0); some (.val (.pointer (some ⟨b, 0, none⟩)), A')
  | some (.map _ _), .map (some m) => match A.h.get m with
    | some (.map _ c) => let (b, A') := A.new (.miter (some m) c [] c); some (.val (.pointer (some ⟨b, 0, none⟩)), A')
    | _ => none
  | _, _ => none

def xNext (A : St) (ρ : Operand → Value) (it : Operand) (isStr : Bool) : Option (Nx × St) :=
  match ρ it with
  | .pointer (some ⟨b, 0, none⟩) => match A.h.get b, isStr with
    | some (.siter s pos), true =>
      if pos < s.size then
        let d := Utf8.decode s pos
        some (.val (.tuple #[.bool true, goInt pos, .int .i32 d.1]), A.setObj b (.siter s (pos + d.2)))
      else some (.val (.tuple #[.bool false]), A)
    | some (.miter none _ _ _), false => some (.val (.tuple #[.bool false]), A)
    | some (.miter (some m) since seen stepped), false => match A.h.get m with
      | some (.map es c) =>
        if c = since ∧ c = stepped ∧ es.all (fun e => Nat.blt e.born c) then
          match es.filter (fun e => !seen.contains e.born) with
          | [] => some (.val (.tuple #[.bool false]), A)
          | [e] => some (.val (.tuple #[.bool true, e.key, e.val]), A.setObj b (.miter (some m) since (seen ++ [e.born]) c))
          | _ => none
        else none
      | _ => none
    | _, _ => none
  | _ => none

def xTypeAssert (A : St) (ρ : Operand → Value) (x : Operand) (t : TypeId) (ok : Bool) : Option (Nx × St) :=
  match E.und t, ρ x, E.zero t with
  | some (.interface _want), .nilIface, some z => if ok then some (.val (.tuple #[z, .bool false]), A) else none
  | some (.interface want), .iface ty v, some z => match E.inf ty with
    | some i => match Instr.missingMethod want i.methods with
      | none => some (.val (if ok then .tuple #[.iface ty v, .bool true] else .iface ty v), A)
      | some _ => if ok then some (.val (.tuple #[z, .bool false]), A) else none
    | none => none
  | some _d, .nilIface, some z => if ok then some (.val (.tuple #[z, .bool false]), A) else none
  | some _d, .iface ty v, some z => if ty = t then some (.val (if ok then .tuple #[v, .bool true] else v), A) else if ok then some (.val (.tuple #[z, .bool false]), A) else none
  | _, _, _ => none

def xExtract (A : St) (ρ : Operand → Value) (t : Operand) (i : Nat) : Option (Nx × St) :=
  match ρ t with
  | .tuple vs => match vs[i]? with
    | some v => some (.val v, A)
    | none => none
  | _ => none

def xCall (A : St) (ρ : Operand → Value) (o : Oper) (c : Call) : Option (Nx × St) :=
  match resolveT ρ c o.type with
  | some d => invokeT E A d.target d.args.toList
  | none => none

def xDefer (A : St) (ρ : Operand → Value) (o : Oper) (c : Call) : Option (Nx × St) :=
  match resolveT ρ c o.type with
  | some d => some (.dfr d, A)
  | none => none

def xMakeFunc (A : St) (ρ : Operand → Value) (fn : Fn) (first captured : Array Operand) : Option (Nx × St) :=
  match fn with
  | .func _ | .method _ => some (.val (.func fn (first.map ρ) (captured.map ρ)), A)
  | _ => none

def xPanic (A : St) (ρ : Operand → Value) (x : Operand) : Option (Nx × St) :=
  match ρ x with
  | .iface t v => some (.pan (.iface t v), A)
  | _ => none

def opD (A : St) (ρ : Operand → Value) (o : Oper) : Option (Nx × St) :=
  match o.op with
  | .move x | .assign x => some (.val (ρ x), A)
  | .pick c a b => xPick A ρ c a b
  | .alloc t => xAlloc E A ρ t
  | .box t x => xBox A ρ t x
  | .build t parts => xBuild E A ρ t parts
  | .buildSlice t len parts => xBuildSlice E A ρ t len parts
  | .load t a => xLoad E A ρ t a
  | .store t a x => xStore E A ρ t a x
  | .nilCheck x => xNilCheck E A ρ x
  | .binOp op t x y _ => xBinOp E A ρ o op t x y
  | .unOp .. => viaPure E A ρ o
  | .convert src dst x => xConvert E A ρ o src dst x
  | .makeInterface t x => xMakeInterface E A ρ t x
  | .makeFunc fn first captured => xMakeFunc A ρ fn first captured
  | .makeMap _t r => xMakeMap A ρ r
  | .makeSlice t l c => xMakeSlice E A ρ t l c
  | .slice t x lo hi mx => xSlice E A ρ t x lo hi mx
  | .fieldAddr s x f => xFieldAddr E A ρ s x f
  | .field t x f => xField E A ρ t x f
  | .indexAddr t x ix => xIndexAddr E A ρ t x ix
  | .index t x ix => xIndex E A ρ t x ix
  | .lookup t m ix ok => xLookup E A ρ t m ix ok
  | .mapUpdate t m k x | .insert t m k x => xMapUpdate E A ρ t m k x
  | .mapEntry t m k => xMapEntry E A ρ t m k
  | .entryStore _ m s x => xEntryStore A ρ m s x
  | .range t x => xRange E A ρ t x
  | .next it isStr => xNext A ρ it isStr
  | .entry _ => none
  | .typeAssert x _ t ok => xTypeAssert E A ρ x t ok
  | .extract t i => xExtract A ρ t i
  | .call c => xCall E A ρ o c
  | .defer c => xDefer A ρ o c
  | .panic x => xPanic A ρ x
  | _ => none

/-- The literals are plain, the globals are there. -/
def litOk (x : Operand) : Bool := match x with
  | .const v => plainV v
  | .global g => Nat.blt g E.ng
  | _ => true
def litsOk (o : Oper) : Bool := o.op.operands.toList.all fun x => litOk E x
def opX (A : St) (ρ : Operand → Value) (o : Oper) : Option (Nx × St) := if litsOk E o then opD E A ρ o else none

def evalO (fr : Fr) : Operand → Value
  | .tmp t => (fr.tm.get t).getD undef
  | .const v => v
  | .global g => .pointer (some ⟨g, 0, none⟩)
  | .func f => .func (.func f) #[] #[]
def Fr.put (nt : Nat) (fr : Fr) (d : Option Tmp) (v : Value) : Option Fr :=
  match d with
  | none => some fr
  | some d => match Nat.blt d nt with
    | true => some { fr with tm := fr.tm.set d v }
    | false => none

/-- The runs that a run goes on by: of code; of a call that returns, that panics; of a call that was put off. -/
inductive Res where
  | ret (v : Value)
  | pan (ch : List PE)
structure Rec where
  code : Nat → Code → Fr → St → Option (Out × Fr × St)
  callR : FuncId → List Value → St → Option (Res × St)
  callD : FuncId → List Value → Mode → St → Option (Mode × St)
def Rec.call (r : Rec) (f : FuncId) (args : List Value) (A : St) : Option (Value × St) :=
  match r.callR f args A with
  | some (.ret v, A') => some (v, A')
  | _ => none
def Rec.callP (r : Rec) (f : FuncId) (args : List Value) (A : St) : Option (List PE × St) :=
  match r.callR f args A with
  | some (.pan ch, A') => some (ch, A')
  | _ => none

def guardOk (ops : Array Oper) (o : Oper) (fr : Fr) : Bool :=
  match o.guard with
  | none => true
  | some (j, want) => match ((ops[j]?).bind (·.dst)).bind (fr.tm.get ·) with
    | some (.bool b) => b == want
    | _ => false

def doVal (nt : Nat) (fr : Fr) (d : Option Tmp) (v : Value) (A : St) : Option (Fr × St) :=
  match Fr.put nt fr d v with
  | some fr' => some (fr', A)
  | none => none

def doEnter (rec_ : Rec) (nt : Nat) (fr : Fr) (d : Option Tmp) (f : FuncId) (args : List Value) (A : St) : Option (Fr × St) :=
  match rec_.call f args A with
  | some (v, A2) => doVal nt fr d v A2
  | none => none

def doNx (rec_ : Rec) (nt : Nat) (fr : Fr) (d : Option Tmp) (nx : Nx) (A : St) : Option (Fr × St) :=
  match nx with
  | .val v => doVal nt fr d v A
  | .skip => doVal nt fr d undef A
  | .enter f args => doEnter rec_ nt fr d f args A
  | _ => none

/-- One operation, its call made. -/
def doOp (rec_ : Rec) (nt : Nat) (o : Oper) (fr : Fr) (A : St) : Option (Fr × St) :=
  match opX E A (evalO fr) o with
  | none => none
  | some (nx, A1) => doNx rec_ nt fr o.dst nx A1

/-- An operation that puts a call off. -/
def dferOp (nt : Nat) (o : Oper) (fr : Fr) (A : St) : Option (Fr × St) :=
  match opX E A (evalO fr) o with
  | some (.dfr d, A1) => match d.target with
    | .fn (.func g) cap => doVal nt { fr with marks := .fn g cap.toList d.args.toList :: fr.marks } o.dst undef A1
    | _ => none
  | _ => none
def stepOp (rec_ : Rec) (nt : Nat) (o : Oper) (fr : Fr) (A : St) : Option (Fr × St) :=
  match doOp E rec_ nt o fr A with
  | some r => some r
  | none => dferOp E nt o fr A
/-- An operation that panics. -/
def panOp (rec_ : Rec) (o : Oper) (fr : Fr) (A : St) : Option (List PE × St) :=
  match opX E A (evalO fr) o with
  | some (.pan v, A1) => some ([⟨v, false⟩], A1)
  | some (.enter f args, A1) => rec_.callP f args A1
  | _ => none

def doOps (rec_ : Rec) (nt : Nat) (ops : Array Oper) : List Oper → Fr → St → Option (Fr × St)
  | [], fr, A => some (fr, A)
  | o :: os, fr, A =>
      if guardOk ops o fr then
        match stepOp E rec_ nt o fr A with
        | some (fr1, A1) => doOps rec_ nt ops os fr1 A1
        | none => none
      else match Fr.put nt fr o.dst undef with
        | some fr1 => doOps rec_ nt ops os fr1 A
        | none => none
/-- Operations of which one panics. -/
def doOpsP (rec_ : Rec) (nt : Nat) (ops : Array Oper) : List Oper → Fr → St → Option (List PE × Fr × St)
  | [], _, _ => none
  | o :: os, fr, A =>
      if guardOk ops o fr then
        match stepOp E rec_ nt o fr A with
        | some (fr1, A1) => doOpsP rec_ nt ops os fr1 A1
        | none => match panOp E rec_ o fr A with
          | some (ch, A1) => some (ch, fr, A1)
          | none => none
      else match Fr.put nt fr o.dst undef with
        | some fr1 => doOpsP rec_ nt ops os fr1 A
        | none => none

/-- One operation, whatever comes of it. -/
inductive OpR where
  | ok (fr : Fr) (A : St)
  | pan (ch : List PE) (A : St)
def okR : Option (Fr × St) → Option OpR
  | some (fr, A) => some (.ok fr A)
  | none => none
def opR (rec_ : Rec) (nt : Nat) (o : Oper) (fr : Fr) (A : St) : Option OpR :=
  match opX E A (evalO fr) o with
  | none => none
  | some (nx, A1) => match nx with
    | .val v => okR (doVal nt fr o.dst v A1)
    | .skip => okR (doVal nt fr o.dst undef A1)
    | .enter f args => match rec_.callR f args A1 with
      | some (.ret v, A2) => okR (doVal nt fr o.dst v A2)
      | some (.pan ch, A2) => some (.pan ch A2)
      | none => none
    | .pan v => some (.pan [⟨v, false⟩] A1)
    | .dfr d => match d.target with
      | .fn (.func g) cap => okR (doVal nt { fr with marks := .fn g cap.toList d.args.toList :: fr.marks } o.dst undef A1)
      | _ => none
    | _ => none
def opsR (rec_ : Rec) (nt : Nat) (ops : Array Oper) : List Oper → Fr → St → Option (Out × Fr × St)
  | [], fr, A => some (.norm, fr, A)
  | o :: os, fr, A =>
      if guardOk ops o fr then
        match opR E rec_ nt o fr A with
        | some (.ok fr1 A1) => opsR rec_ nt ops os fr1 A1
        | some (.pan ch A1) => some (.pan ch, fr, A1)
        | none => none
      else match Fr.put nt fr o.dst undef with
        | some fr1 => opsR rec_ nt ops os fr1 A
        | none => none

/-- An operation that changes nothing but its own slot. -/
def isFloat (o : Oper) : Bool :=
  match o.op with
  | .move _ | .assign _ | .pick .. | .build .. | .load .. | .nilCheck _ | .binOp .. | .unOp .. | .makeInterface .. | .makeFunc .. | .slice .. | .fieldAddr .. | .field ..
  | .indexAddr .. | .index .. | .lookup .. | .typeAssert .. | .extract .. => true
  | .convert _ d _ => match E.und d with
    | some (.slice _) => false
    | some _ => true
    | none => false
  | .call { callee := .builtin b, .. } => match b with
    | .len | .cap | .min | .max | .unsafeSliceData => true
    | _ => false
  | _ => false

/-- An operation that makes one new block and does nothing else. -/
def isAlloc (o : Oper) : Bool :=
  match o.op with
  | .alloc _ | .box .. | .buildSlice .. | .makeMap .. | .makeSlice .. => true
  | _ => false

/-- The slots that an operation looks at. -/
def looks (ops : Array Oper) (o : Oper) : List Tmp :=
  (o.op.operands.toList.filterMap fun x => match x with | .tmp t => some t | _ => none) ++
  (match o.guard with
   | some (j, _) => match (ops[j]?).bind (·.dst) with
     | some t => [t]
     | none => []
   | none => [])

structure Brief where
  dst : Option Tmp
  see : List Tmp
  eff : Bool
  alc : Bool
  bef : Nat
def hits (d : Option Tmp) (l : List Tmp) : Bool := match d with
  | some t => l.any (Nat.beq t)
  | none => false
def sameDst (a b : Option Tmp) : Bool := match a, b with
  | some s, some t => Nat.beq s t
  | _, _ => false
/-- i stands ahead of j in the text. -/
def pairOk (i : Nat) (a b : Brief) : Bool :=
  !sameDst a.dst b.dst && (b.bef.testBit i || (!hits a.dst b.see && !hits b.dst a.see && !((a.eff || a.alc) && b.eff)))
def pairsOk : Nat → List Brief → Bool
  | _, [] => true
  | i, a :: l => l.all (pairOk i a) && pairsOk (i + 1) l
def edgesOk (ops : Array Oper) : Bool :=
  ops.toList.zipIdx.all fun (o, i) => o.after.toList.all fun e => !Region.binds .any e || Nat.blt e.on i
def briefs (ops : Array Oper) : List Brief :=
  (ops.toList.zip (Region.before ops).toList).map fun (o, b) => { dst := o.dst, see := looks ops o, eff := !isFloat E o && !isAlloc o, alc := isAlloc o, bef := b }
def regOk (ops : Array Oper) : Bool := edgesOk ops && pairsOk 0 (briefs E ops)

/-- The same value, looked at no deeper than so. -/
def veq : Nat → Value → Value → Bool
  | _, .bool a, .bool b => a == b
  | _, .int j a, .int k b => decide (j = k) && decide (a = b)
  | _, .string a, .string b => decide (a.data.toList = b.data.toList)
  | _, .pointer none, .pointer none | _, .map none, .map none | _, .nilFunc, .nilFunc | _, .nilIface, .nilIface => true
  | _, .pointer (some a), .pointer (some b) => decide (a = b)
  | _, .map (some a), .map (some b) => decide (a = b)
  | _, .slice none l c, .slice none m d => decide (l = m) && decide (c = d)
  | _, .slice (some a) l c, .slice (some b) m d => decide (a = b) && decide (l = m) && decide (c = d)
  | n + 1, .iface t v, .iface u w => decide (t = u) && veq n v w
  | n + 1, .agg a, .agg b => a.size == b.size && (a.toList.zip b.toList).all fun p => veq n p.1 p.2
  | n + 1, .tuple a, .tuple b => a.size == b.size && (a.toList.zip b.toList).all fun p => veq n p.1 p.2
  | n + 1, .func f a c, .func g b d => decide (f = g) && (a.size == b.size && (a.toList.zip b.toList).all fun p => veq n p.1 p.2) && (c.size == d.size && (c.toList.zip d.toList).all fun p => veq n p.1 p.2)
  | _, _, _ => false

structure Ent where
  o : Oper
  fr : Fr
  v : Value
  kind : Nat
  bef : Nat

/-- An entry's value is the same at a state. -/
def sameAt (e : Ent) (H : St) : Bool :=
  match opX E H (evalO e.fr) e.o with
  | some (.val v, _) => veq 40 v e.v
  | _ => false
/-- ks: the effects' places. At the state in which the effects ahead of place k are done an entry at place i may be asked for: -/
def allowed (i : Nat) (bef : Nat) (befs : List Nat) (ks : List Nat) (k : Nat) : Bool :=
  ks.all fun j => if Nat.blt j k then !((befs.getD j 0).testBit i) else !bef.testBit j
def chkEnt (befs : List Nat) (ks : List Nat) (Hs : List (Nat × St)) (e : Ent) (i : Nat) : Bool :=
  match e.kind with
  | 1 => Hs.all fun p => !allowed i e.bef befs ks p.1 || sameAt E e p.2
  | _ => true
def chkAll (befs : List Nat) (ks : List Nat) (Hs : List (Nat × St)) : List Ent → Nat → Bool
  | [], _ => true
  | e :: es, i => chkEnt E befs ks Hs e i && chkAll befs ks Hs es (i + 1)

def slotOf (fr : Fr) (d : Option Tmp) : Value := match d with
  | some d => (fr.tm.get d).getD undef
  | none => undef

/-- A region in whatever order. log, Hs, ks: the latest first. rid: the block kept free for this operation. -/
def doDraw (rec_ : Rec) (nt : Nat) (ops : Array Oper) (befs : List Nat) : List (Oper × Nat) → Nat → Nat → Fr → St → List Ent → List (Nat × St) → List Nat → Option (Fr × St)
  | [], _, _, fr, A, log, Hs, ks => if chkAll E befs ks Hs log.reverse 0 then some (fr, A) else none
  | (o, b) :: os, i, rid, fr, A, log, Hs, ks =>
    if guardOk ops o fr then
      if isFloat E o then
        match opX E A (evalO fr) o with
        | some (.val v, _) => match Fr.put nt fr o.dst v with
          | some fr1 => doDraw rec_ nt ops befs os (i + 1) (rid + 1) fr1 A ({ o, fr, v, kind := 1, bef := b } :: log) Hs ks
          | none => none
        | _ => none
      else if isAlloc o then
        match opX E { A with next := rid } (evalO fr) o with
        | some (.val v, A1) => match Fr.put nt fr o.dst v with
          | some fr1 => doDraw rec_ nt ops befs os (i + 1) (rid + 1) fr1 { A1 with next := A.next } ({ o, fr, v, kind := 3, bef := b } :: log) Hs ks
          | none => none
        | _ => none
      else
        match doOp E rec_ nt o fr A with
        | some (fr1, A1) => doDraw rec_ nt ops befs os (i + 1) (rid + 1) fr1 A1 ({ o, fr, v := slotOf fr1 o.dst, kind := 2, bef := b } :: log) ((i + 1, A1) :: Hs) (i :: ks)
        | none => none
    else match Fr.put nt fr o.dst undef with
      | some fr1 => doDraw rec_ nt ops befs os (i + 1) (rid + 1) fr1 A ({ o, fr, v := undef, kind := 0, bef := b } :: log) Hs ks
      | none => none

/-! ### Another order of a region's text -/
def idxAt : List Nat → Nat → Nat
  | [], _ => 0
  | x :: l, i => if Nat.beq x i then 0 else idxAt l i + 1
def renOp (ι : Nat → Nat) (o : Oper) : Oper := { o with after := o.after.map fun e => { e with on := ι e.on }, guard := o.guard.map fun g => (ι g.1, g.2) }
def permOps (ops : Array Oper) (π : List Nat) : Array Oper := ((List.range ops.size).map fun p => renOp (idxAt π) (ops.getD (π.getD p 0) default)).toArray
def permOk (ops : Array Oper) (π : List Nat) : Bool :=
  (List.range ops.size).all (fun p => Nat.blt (π.getD p 0) ops.size && Nat.beq (idxAt π (π.getD p 0)) p) &&
  (List.range ops.size).all (fun i => Nat.blt (idxAt π i) ops.size && Nat.beq (π.getD (idxAt π i) 0) i) &&
  ops.toList.all (fun o => (match o.guard with | some (j, _) => Nat.blt j ops.size | none => true) && o.after.toList.all fun e => Nat.blt e.on ops.size)
def pickOp (ops : Array Oper) (done : List Nat) (all : Bool) : List Nat → Option Nat
  | [] => none
  | i :: l => match ops[i]? with
    | some o => if (all || !isAlloc o) && (o.after.toList.all fun e => !Region.binds .any e || done.any (Nat.beq e.on)) then some i else pickOp ops done all l
    | none => pickOp ops done all l
def schedOps (ops : Array Oper) : Nat → List Nat → List Nat → List Nat
  | 0, _, done => done.reverse
  | n + 1, rem, done => match (match pickOp ops done false rem with | some i => some i | none => pickOp ops done true rem) with
    | some i => schedOps ops n (rem.filter fun j => !Nat.beq i j) (i :: done)
    | none => done.reverse
/-- The text's order, or one in which new blocks are made as late as may be. -/
def best (ops : Array Oper) : Array Oper :=
  if regOk E ops then ops else
    let π := schedOps ops ops.size (List.range ops.size) []
    if permOk ops π then permOps ops π else ops

def drawRegion0 (rec_ : Rec) (nt : Nat) (ops : Array Oper) (fr : Fr) (A : St) : Option (Fr × St) :=
  if regOk E ops then doDraw E rec_ nt ops (Region.before ops).toList (ops.toList.zip (Region.before ops).toList) 0 A.next fr { A with next := A.next + ops.size } [] [(0, { A with next := A.next + ops.size })] [] else none
def drawRegion (rec_ : Rec) (nt : Nat) (ops : Array Oper) (fr : Fr) (A : St) : Option (Fr × St) := drawRegion0 E rec_ nt (best E ops) fr A

def resultsOf (fn : Func) (fr : Fr) (A : St) : Option Value :=
  match fn.results.toList.mapM (fun r => match r with
    | .tmp t => some ((fr.tm.get t).getD undef)
    | .cell a t => match (fr.tm.get a).getD undef with
      | .pointer (some ad) => loadV E A t ad
      | _ => none) with
  | some [v] => some v
  | some vs => some (.tuple vs.toArray)
  | none => none

/-- A loop over a function that makes no round. -/
def codeRange (rec_ : Rec) (f : Operand) (fr : Fr) (A : St) : Option (Out × Fr × St) :=
  let m := A.next
  let l := A.next + 1
  let A1 : St := { A with next := A.next + 2, h := (A.h.set m .defd).set l (.loop { state := .ready, pending := none }) }
  if litOk E f then
  match resolveT (evalO fr) { callee := .value f, args := #[.const (.func (.yield l) #[] #[])], argTypes := #[] } 0 with
  | none => none
  | some d => match invokeT E A1 d.target d.args.toList with
    | some (.enter g args, A2) => match rec_.call g args A2 with
      | some (_, A3) => match A3.h.get l with
        | some (.loop { state := .ready, pending := none }) => some (.norm, { fr with marks := .mark m :: fr.marks }, A3.setObj l (.loop { state := .exhausted, pending := none }))
        | _ => none
      | none => none
    | _ => none
  else none

def codeB (rec_ : Rec) (nt : Nat) (c : Code) (fr : Fr) (A : St) : Option (Out × Fr × St) :=
  match c with
  | .skip | .label _ => some (.norm, fr, A)
  | .seq a b => match rec_.code nt a fr A with
    | some (.norm, fr1, A1) => rec_.code nt b fr1 A1
    | r => r
  | .cond c t e => match evalO fr c with
    | .bool true => rec_.code nt t fr A
    | .bool false => rec_.code nt e fr A
    | _ => none
  | .block id b => match rec_.code nt b fr A with
    | some (.exit id', fr1, A1) => some (if id' = id then .norm else .exit id', fr1, A1)
    | r => r
  | .loop b => match rec_.code nt b fr A with
    | some (.norm, fr1, A1) => rec_.code nt (.loop b) fr1 A1
    | r => r
  | .scope b => rec_.code nt b fr A
  | .exit id => some (.exit id, fr, A)
  | .ret => some (.ret, fr, A)
  | .region _ ops draw => if draw then (match drawRegion E rec_ nt ops fr A with
      | some (fr1, A1) => some (.norm, fr1, A1)
      | none => none)
    else opsR E rec_ nt ops ops.toList fr A
  | .rangeFunc f _ _ _ => codeRange E rec_ f fr A
  | _ => none

/-- A recovered panic is over when the call that was put off returns. -/
def settleM : Mode → Mode
  | .pan (⟨_, true⟩ :: _) => .ret
  | m => m
/-- What was put off is done. -/
def leave (rec_ : Rec) : List DI → Mode → St → Option (Mode × St)
  | [], m, A => some (m, A)
  | .mark b :: ds, m, A => match A.h.get b with
    | some .defd => leave rec_ ds m (A.setObj b .dead)
    | _ => none
  | .fn g cap args :: ds, m, A => match rec_.callD g (args ++ cap) m A with
    | some (m', A') => leave rec_ ds (settleM m') A'
    | none => none
def modeOf : Out → Option Mode
  | .norm | .ret => some .ret
  | .pan ch => some (.pan ch)
  | .exit _ => none

/-- A call: how it is left. -/
def callL (rec_ : Rec) (f : FuncId) (args : List Value) (A : St) : Option (Func × Fr × Mode × St) :=
  match E.fn.get f with
  | none => none
  | some fn => match fn.body with
    | none => none
    | some c =>
      if args.length ≤ fn.ntmps then
        match rec_.code fn.ntmps c { tm := T.ofList args, marks := [] } A with
        | some (out, fr, A1) => match modeOf out with
          | some m => match leave rec_ fr.marks m A1 with
            | some (m', A2) => some (fn, fr, m', A2)
            | none => none
          | none => none
        | none => none
      else none
def callC (rec_ : Rec) (f : FuncId) (args : List Value) (A : St) : Option (Value × St) :=
  match callL E rec_ f args A with
  | some (fn, fr, .ret, A2) => match resultsOf E fn fr A2 with
    | some v => some (v, A2)
    | none => none
  | _ => none

/-- The same value without addresses, no deeper than so. -/
def peq (v w : Value) : Bool := plainV v && veq 40 v w
def peqL : List Value → List Value → Bool
  | [], [] => true
  | v :: l, w :: m => peq v w && peqL l m
  | _, _ => false
def shiftA (s : Nat) : Option Addr → Option Addr
  | none => none
  | some a => some ⟨a.block + s, a.off, a.spot⟩
def shiftF (s : Nat) : Fn → Fn
  | .yield l => .yield (l + s)
  | f => f
/-- The same value, its blocks so much further on (as deep as so). -/
def shiftV (s : Nat) : Nat → Value → Value
  | _, .pointer a => .pointer (shiftA s a)
  | _, .slice a l c => .slice (shiftA s a) l c
  | _, .map (some r) => .map (some (r + s))
  | n + 1, .iface t v => .iface t (shiftV s n v)
  | n + 1, .agg cs => .agg (cs.map (shiftV s n))
  | n + 1, .tuple cs => .tuple (cs.map (shiftV s n))
  | n + 1, .func f a c => .func (shiftF s f) (a.map (shiftV s n)) (c.map (shiftV s n))
  | _, v => v
/-- No deeper than so. -/
def shallow : Nat → Value → Bool
  | n + 1, .iface _ v => shallow n v
  | n + 1, .agg cs => cs.toList.all (shallow n)
  | n + 1, .tuple cs => cs.toList.all (shallow n)
  | n + 1, .func _ a c => a.toList.all (shallow n) && c.toList.all (shallow n)
  | 0, .iface _ _ | 0, .agg _ | 0, .tuple _ | 0, .func _ _ _ => false
  | _, _ => true
def kRow (s : Nat) (r : KRow) : Row := { own := true, size := r.cells.length, cells := T.ofList (r.cells.map (shiftV s 8)), elem := r.elem, esz := r.esz, opn := r.opn, grp := r.b + s, frz := r.frz, sb := r.sb }
def addRows (s : Nat) : T AObj → List KRow → T AObj
  | h, [] => h
  | h, r :: l => addRows s (h.set (r.b + s) (.row (kRow s r))) l
def lookOk (A : St) (r : GRow) : Bool := match A.h.get r.g with
  | some (.row x) => !x.own && !x.opn && Nat.beq x.size r.cells.length && (match x.cells.range 0 x.size with
    | some vs => peqL vs r.cells
    | none => false)
  | _ => false
def knownAt (f : FuncId) (args : List Value) : List Known → Option Known
  | [] => none
  | k :: ks => if Nat.beq k.f f && peqL k.args args then some k else knownAt f args ks
def callB (rec_ : Rec) (f : FuncId) (args : List Value) (A : St) : Option (Value × St) :=
  match knownAt f args E.known with
  | some k => if k.looks.all fun r => Nat.blt r.g E.ng && lookOk A r then
      some (shiftV A.next 8 k.v, { A with next := A.next + k.cnt, h := addRows A.next A.h k.objs })
    else none
  | none => callC E rec_ f args A

/-- A call that panics. -/
def callP (rec_ : Rec) (f : FuncId) (args : List Value) (A : St) : Option (List PE × St) :=
  match knownAt f args E.known with
  | some _ => none
  | none => match callL E rec_ f args A with
    | some (_, _, .pan ch, A2) => some (ch, A2)
    | _ => none
/-- A call, whatever comes of it. -/
def callR (rec_ : Rec) (f : FuncId) (args : List Value) (A : St) : Option (Res × St) :=
  match knownAt f args E.known with
  | some k => if k.looks.all fun r => Nat.blt r.g E.ng && lookOk A r then
      some (.ret (shiftV A.next 8 k.v), { A with next := A.next + k.cnt, h := addRows A.next A.h k.objs })
    else none
  | none => match callL E rec_ f args A with
    | some (fn, fr, .ret, A2) => match resultsOf E fn fr A2 with
      | some v => some (.ret v, A2)
      | none => none
    | some (_, _, .pan ch, A2) => some (.pan ch, A2)
    | none => none
/-- What recover answers, and how the frame is left then. -/
def recM : Mode → Value × Mode
  | .pan (⟨v, false⟩ :: older) => (v, .pan (⟨v, true⟩ :: older))
  | m => (.nilIface, m)
/-- A call that was put off, whose text opens with recover. -/
def callD (rec_ : Rec) (f : FuncId) (args : List Value) (m : Mode) (A : St) : Option (Mode × St) :=
  match E.fn.get f with
  | none => none
  | some fn => match fn.body with
    | some (.seq (.region _ ops false) rest) => match ops.toList with
      | o :: os => match o.op, o.guard with
        | .call { callee := .builtin .recover, .. }, none =>
          if args.length ≤ fn.ntmps then
            match Fr.put fn.ntmps { tm := T.ofList args, marks := [] } o.dst (recM m).1 with
            | some fr0 => match opsR E rec_ fn.ntmps ops os fr0 A with
              | some (.norm, fr, A0) => match rec_.code fn.ntmps rest fr A0 with
                | some (out, fr1, A1) => match modeOf out, fr1.marks, resultsOf E fn fr1 A1 with
                  | some .ret, [], some _ => some ((recM m).2, A1)
                  | _, _, _ => none
                | none => none
              | _ => none
            | none => none
          else none
        | _, _ => none
      | _ => none
    | _ => none

def big : Nat → Rec
  | 0 => { code := fun _ _ _ _ => none, callR := fun _ _ _ => none, callD := fun _ _ _ _ => none }
  | n + 1 => { code := codeB E (big n), callR := callR E (big n), callD := callD E (big n) }
end
/-- In parts. -/
theorem recCall_of {E : Env} {r : Rec} {c : Nat → Code → Fr → St → Option (Out × Fr × St)} {d : FuncId → List Value → Mode → St → Option (Mode × St)} {f : FuncId} {as : List Value} {A : St} : Rec.call { code := c, callR := callR E r, callD := d } f as A = callB E r f as A := by
  show (match callR E r f as A with | some (.ret v, A') => some (v, A') | _ => none) = _
  unfold callR callB callC
  cases knownAt f as E.known with
  | some k =>
    by_cases hb : (k.looks.all fun r => Nat.blt r.g E.ng && lookOk A r) = true
    · simp only [if_pos hb]
    · simp only [if_neg hb]
  | none =>
    rcases callL E r f as A with _ | ⟨fn, fr, m, A2⟩
    · rfl
    · cases m with
      | ret => cases hr : resultsOf E fn fr A2 <;> simp only [hr]
      | pan ch => rfl
theorem recCallP_of {E : Env} {r : Rec} {c : Nat → Code → Fr → St → Option (Out × Fr × St)} {d : FuncId → List Value → Mode → St → Option (Mode × St)} {f : FuncId} {as : List Value} {A : St} : Rec.callP { code := c, callR := callR E r, callD := d } f as A = callP E r f as A := by
  show (match callR E r f as A with | some (.pan v, A') => some (v, A') | _ => none) = _
  unfold callR callP
  cases knownAt f as E.known with
  | some k =>
    by_cases hb : (k.looks.all fun r => Nat.blt r.g E.ng && lookOk A r) = true
    · simp only [if_pos hb]
    · simp only [if_neg hb]
  | none =>
    rcases callL E r f as A with _ | ⟨fn, fr, m, A2⟩
    · rfl
    · cases m with
      | ret => cases hr : resultsOf E fn fr A2 <;> simp only [hr]
      | pan ch => rfl
theorem okR_ok {x : Option (Fr × St)} {fr : Fr} {A : St} (h : okR x = some (.ok fr A)) : x = some (fr, A) := by
  cases x with
  | none => cases h
  | some y => cases h; rfl
theorem okR_pan {x : Option (Fr × St)} {ch : List PE} {A : St} (h : okR x = some (.pan ch A)) : False := by
  cases x with
  | none => cases h
  | some y => cases h
theorem opR_ok {E : Env} {r : Rec} {nt : Nat} {o : Oper} {fr fr' : Fr} {A A' : St} (h : opR E r nt o fr A = some (.ok fr' A')) : stepOp E r nt o fr A = some (fr', A') := by
  unfold opR at h
  unfold stepOp doOp dferOp
  split at h
  · cases h
  · rename_i nx A1 hx
    rw [hx]
    split at h
    · simp only [doNx]; rw [okR_ok h]
    · simp only [doNx]; rw [okR_ok h]
    · rename_i f args
      simp only [doNx, doEnter, Rec.call]
      split at h
      · rename_i hc; rw [hc]; simp only; rw [okR_ok h]
      · cases h
      · cases h
    · cases h
    · rename_i d
      split at h
      · rename_i hd; simp only [doNx, hd]; exact okR_ok h
      · cases h
    · cases h
theorem opR_pan {E : Env} {r : Rec} {nt : Nat} {o : Oper} {fr : Fr} {A A' : St} {ch : List PE} (h : opR E r nt o fr A = some (.pan ch A')) : stepOp E r nt o fr A = none ∧ panOp E r o fr A = some (ch, A') := by
  unfold opR at h
  unfold stepOp doOp dferOp panOp
  split at h
  · cases h
  · rename_i nx A1 hx
    rw [hx]
    split at h
    · exact (okR_pan h).elim
    · exact (okR_pan h).elim
    · rename_i f args
      simp only [doNx, doEnter, Rec.call, Rec.callP]
      split at h
      · exact (okR_pan h).elim
      · rename_i hc; rw [hc]; cases h; exact ⟨rfl, rfl⟩
      · cases h
    · cases h; exact ⟨rfl, rfl⟩
    · rename_i d
      split at h
      · exact (okR_pan h).elim
      · cases h
    · cases h
theorem opR_of_step {E : Env} {r : Rec} {nt : Nat} {o : Oper} {fr fr' : Fr} {A A' : St} (h : stepOp E r nt o fr A = some (fr', A')) : opR E r nt o fr A = some (.ok fr' A') := by
  unfold stepOp doOp dferOp at h
  unfold opR
  split at h
  · rename_i q hq
    cases h
    split at hq
    · cases hq
    · rename_i nx A1 hx
      unfold doNx at hq
      split at hq
      · simp only [hq, okR]
      · simp only [hq, okR]
      · unfold doEnter Rec.call at hq
        simp only
        split at hq
        · rename_i hc
          split at hc
          · rename_i hcc
            cases hc
            rw [hcc]
            simp only [hq, okR]
          · cases hc
        · cases hq
      · cases hq
  · split at h
    · rename_i d A1 hx
      rw [hx]
      simp only
      split at h
      · simp only [h, okR]
      · cases h
    · cases h
theorem opsR_norm {E : Env} {r : Rec} {nt : Nat} {ops : Array Oper} : ∀ {os : List Oper} {fr fr' : Fr} {A A' : St}, opsR E r nt ops os fr A = some (.norm, fr', A') → doOps E r nt ops os fr A = some (fr', A')
  | [], _, _, _, _, h => by cases h; rfl
  | o :: os, fr, fr', A, A', h => by
    unfold opsR at h
    unfold doOps
    split at h
    · rename_i hg
      rw [if_pos hg]
      split at h
      · rename_i hq; rw [opR_ok hq]; exact opsR_norm h
      · cases h
      · cases h
    · rename_i hg
      rw [if_neg hg]
      split at h
      · rename_i hq; exact opsR_norm h
      · cases h
theorem opsR_of_do {E : Env} {r : Rec} {nt : Nat} {ops : Array Oper} : ∀ {os : List Oper} {fr fr' : Fr} {A A' : St}, doOps E r nt ops os fr A = some (fr', A') → opsR E r nt ops os fr A = some (.norm, fr', A')
  | [], _, _, _, _, h => by cases h; rfl
  | o :: os, fr, fr', A, A', h => by
    unfold doOps at h
    unfold opsR
    split at h
    · rename_i hg
      rw [if_pos hg]
      split at h
      · rename_i hq; rw [opR_of_step hq]; exact opsR_of_do h
      · cases h
    · rename_i hg
      rw [if_neg hg]
      split at h
      · rename_i hq; exact opsR_of_do h
      · cases h
theorem opsR_out {E : Env} {r : Rec} {nt : Nat} {ops : Array Oper} : ∀ {os : List Oper} {out : Out} {fr fr' : Fr} {A A' : St}, opsR E r nt ops os fr A = some (out, fr', A') → out = .norm ∨ ∃ ch, out = .pan ch ∧ doOpsP E r nt ops os fr A = some (ch, fr', A')
  | [], _, _, _, _, _, h => by cases h; exact .inl rfl
  | o :: os, out, fr, fr', A, A', h => by
    unfold opsR at h
    unfold doOpsP
    split at h
    · rename_i hg
      rw [if_pos hg]
      split at h
      · rename_i hq; rw [opR_ok hq]; exact opsR_out h
      · rename_i ch A1 hq; obtain ⟨h1, h2⟩ := opR_pan hq; rw [h1, h2]; cases h; exact .inr ⟨ch, rfl, rfl⟩
      · cases h
    · rename_i hg
      rw [if_neg hg]
      split at h
      · rename_i hq; exact opsR_out h
      · cases h
end Go.AM
