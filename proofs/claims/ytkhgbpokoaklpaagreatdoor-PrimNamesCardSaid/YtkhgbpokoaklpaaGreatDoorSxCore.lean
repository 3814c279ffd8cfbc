/- A symbolic evaluator over the abstract machine: of a function's text a small tree is left: what it asks of memory, which calls it makes, on what it branches. The definitions alone. -/
import Derived.Test.YtkhgbpokoaklpaaGreatDoorAmTop
namespace Go.AM.SX
open Go

/-- What stands for a value: a value, or the variable of so many. -/
inductive At where
  | v (x : Value)
  | n (k : Nat)
inductive X where
  | at (a : At)
  | ifc (t : TypeId) (a : At)
  | fn (f : FuncId) (cs : List At)
  | sl (a : At) (len : Nat)

abbrev Sg := List Value
def look : Sg → Nat → Value
  | [], _ => undef
  | v :: _, 0 => v
  | _ :: l, k + 1 => look l k

def At.den (σ : Sg) : At → Value
  | .v x => x
  | .n k => look σ k
def slV (p : Value) (len : Nat) : Value := match p with
  | .pointer a => .slice a len len
  | _ => undef
def X.den (σ : Sg) : X → Value
  | .at a => a.den σ
  | .ifc t a => .iface t (a.den σ)
  | .fn f cs => .func (.func f) #[] (cs.map (·.den σ)).toArray
  | .sl a len => slV (a.den σ) len

def At.ok (n : Nat) : At → Bool
  | .v _ => true
  | .n k => Nat.blt k n
def X.ok (n : Nat) : X → Bool
  | .at a => a.ok n
  | .ifc _ a => a.ok n
  | .fn _ cs => cs.all (·.ok n)
  | .sl a _ => a.ok n

/-- The same, as far as is seen. -/
def At.same : At → At → Bool
  | .v (.int k a), .v (.int j b) => decide (k = j) && decide (a = b)
  | .v (.bool a), .v (.bool b) => decide (a = b)
  | .v (.string a), .v (.string b) => decide (a.data.toList = b.data.toList)
  | .v (.pointer none), .v (.pointer none) => true
  | .v .nilIface, .v .nilIface => true
  | .v (.slice none a b), .v (.slice none c d) => decide (a = c) && decide (b = d)
  | .n a, .n b => Nat.beq a b
  | _, _ => false
def sameL : List At → List At → Bool
  | [], [] => true
  | a :: l, b :: m => a.same b && sameL l m
  | _, _ => false
def X.same : X → X → Bool
  | .at a, .at b => a.same b
  | .ifc t a, .ifc u b => Nat.beq t u && a.same b
  | .fn f l, .fn g m => Nat.beq f g && sameL l m
  | .sl a l, .sl b m => a.same b && Nat.beq l m
  | _, _ => false

/-! ### What is asked of memory -/

/-- What a step with operands that are looked up is. -/
inductive R where
  | idStr
  | bin (op : BinOp)
  | eqn (d : TypeDesc) (neg : Bool)
  | beq (neg : Bool)
  | not
  | neg
  | conv (k : IntKind)
  | runeStr
  | toStr
  | toBytes (e : TypeId)
  | alloc (t : TypeId) (z : List Value)
  | box (t : TypeId)
  | build (z : List Value) (places : List (Nat × Nat))
  | newSl (t : TypeId) (z : List Value) (places : List (Nat × Nat))
  | mkMap
  | mkSl (e : TypeId) (z : List Value) (bytes : Nat)
  | load (n : Option Nat)
  | store (n : Nat)
  | nilc
  | fld (off : Nat)
  | field (off : Nat) (n : Option Nat)
  | idxA (s : Nat)
  | idxP (len s : Nat)
  | idxS
  | lenL
  | lenS
  | lenM
  | capL
  | subS (lo hi : Bool)
  | subL (sz : Nat) (lo hi mx : Bool)
  | app (e : TypeId) (i : TypeInfo) (z : Value)
  | copy (sz : Nat)
  | lookup (kd : TypeDesc) (z : Value) (ok : Bool)
  | mapUpd (kd : TypeDesc)
  | mapEnt (kd : TypeDesc) (z : Value)
  | entSt
  | del (kd : TypeDesc)
  | range (str : Bool)
  | next (str : Bool)
  | ext (i : Nat)
  | ta (t : TypeId) (z : Value) (ok : Bool)
  | tup
  | mm (mx : Bool)
  | extern (name : String)

def intBin (op : BinOp) (k : IntKind) (a b : Int) : Option Value :=
  match op with
  | .quo => if b = 0 then none else some (.int k (k.wrap (a.tdiv b)))
  | .rem => if b = 0 then none else some (.int k (a.tmod b))
  | .and => some (.int k (k.wrap (BitVec.ofInt k.bits a &&& BitVec.ofInt k.bits b).toNat))
  | .or => some (.int k (k.wrap (BitVec.ofInt k.bits a ||| BitVec.ofInt k.bits b).toNat))
  | .xor => some (.int k (k.wrap (BitVec.ofInt k.bits a ^^^ BitVec.ofInt k.bits b).toNat))
  | .andNot => some (.int k (k.wrap (BitVec.ofInt k.bits a &&& ~~~ BitVec.ofInt k.bits b).toNat))
  | _ => none
def strBin (op : BinOp) (x y : ByteArray) : Option Value :=
  match op with
  | .add => if ((x.size + y.size : Nat) : Int) > IntKind.i64.max then none else some (.string (x ++ y))
  | .lss => some (.bool (Op.bytesLess x.toList y.toList))
  | .leq => some (.bool (Op.bytesLess x.toList y.toList || x.toList == y.toList))
  | .gtr => some (.bool !(Op.bytesLess x.toList y.toList || x.toList == y.toList))
  | .geq => some (.bool !(Op.bytesLess x.toList y.toList))
  | _ => none
def shlV (op : BinOp) (k : IntKind) (x y : Int) : Option Value :=
  if y < 0 then none else match op with
  | .shl => some (.int k (k.wrap (x * 2 ^ min y.toNat k.bits)))
  | .shr => some (.int k (x.fdiv (2 ^ min y.toNat k.bits)))
  | _ => none
def isShift : BinOp → Bool
  | .shl | .shr => true
  | _ => false
def binV (op : BinOp) (x y : Value) : Option Value :=
  match fast [] op x y with
  | some v => some v
  | none => match x, y with
    | .int k a, .int k' b => if isShift op then shlV op k a b else if k = k' then intBin op k a b else none
    | .string a, .string b => strBin op a b
    | _, _ => none

/-- nil held against what is none, or is. -/
def nilEq : TypeDesc → Value → Value → Option Bool
  | .pointer _, .pointer (some _), .pointer none => some false
  | .pointer _, .pointer none, .pointer none => some true
  | .slice _, .slice (some _) _ _, .slice none _ _ => some false
  | .slice _, .slice none _ _, .slice none _ _ => some true
  | .map _ _, .map (some _), .map none => some false
  | .map _ _, .map none, .map none => some true
  | .interface _, .iface _ _, .nilIface => some false
  | .interface _, .nilIface, .nilIface => some true
  | .func _ _ _, .func _ _ _, .nilFunc => some false
  | .func _ _ _, .nilFunc, .nilFunc => some true
  | _, _, _ => none

def setFrom : List Value → Nat → List Value → List Value
  | l, _, [] => l
  | l, off, c :: cs => setFrom (l.set off c) (off + 1) cs
/-- Parts laid in their places. -/
def fillP : List (Nat × Nat) → List Value → List Value → Option (List Value)
  | [], [], l => some l
  | (off, size) :: pl, v :: vs, l => if v.cells.size = size ∧ off + v.cells.size ≤ l.length then fillP pl vs (setFrom l off v.cells.toList) else none
  | _, _, _ => none

/-- What is appended. -/
def newC (A : St) (sz : Nat) (x : Value) : Option (Nat × List Value) :=
  match lenV x with
  | some n => match firstN A sz n x with
    | some new => some (n, new)
    | none => none
  | none => none

def semR (r : R) (args : List Value) (A : St) : Option (Value × St) :=
  match r, args with
  | .idStr, [.string s] => some (.string s, A)
  | .bin op, [x, y] => match binV op x y with
    | some v => some (v, A)
    | none => none
  | .eqn d neg, [x, y] => match nilEq d x y with
    | some b => some (.bool (b != neg), A)
    | none => none
  | .beq neg, [.bool a, .bool b] => some (.bool ((a == b) != neg), A)
  | .not, [.bool b] => some (.bool !b, A)
  | .neg, [.int k n] => some (.int k (k.wrap (0 - n)), A)
  | .conv k, [.int _ n] => some (.int k (k.wrap n), A)
  | .runeStr, [.int _ n] => some (.string (Utf8.encode n), A)
  | .toStr, [x] => match bytesL A x with
    | some l => some (mkStr l, A)
    | none => none
  | .toBytes e, [.string s] => some (.slice (some ⟨A.next, 0, none⟩) s.size s.size,
        { A with next := A.next + 1, h := A.h.set A.next (.row { own := true, size := s.size, cells := T.ofList (s.data.toList.map fun c => .int .u8 c.toNat), elem := e, esz := 1, opn := true, grp := A.next, frz := 0, sb := true }) })
  | .alloc t z, [] => some (.pointer (some ⟨A.next, 0, none⟩), (A.newRow t z).2)
  | .box t, [x] => some (.pointer (some ⟨A.next, 0, none⟩), (A.newRow t x.cells.toList).2)
  | .build z pl, vs => match fillP pl vs z with
    | some cs => some (.agg cs.toArray, A)
    | none => none
  | .newSl t z pl, vs => match fillP pl vs z with
    | some cs => some (.pointer (some ⟨A.next, 0, none⟩), (A.newRow t cs).2)
    | none => none
  | .mkMap, [] => some (.map (some A.next), (A.new (.map [] 0)).2)
  | .mkSl e z bytes, [.int _ ln, .int _ cp] =>
    if 0 ≤ ln ∧ ln ≤ cp ∧ cp * bytes ≤ 140737488355328 ∧ cp ≤ 4294967296 then
      some (.slice (some ⟨A.next, 0, none⟩) ln.toNat cp.toNat, (A.newRow e (zeros z cp.toNat)).2)
    else none
  | .load none, [.pointer (some a)] => match A.loadN a 1 with
    | some [v] => some (v, A)
    | _ => none
  | .load (some n), [.pointer (some a)] => match A.loadN a n with
    | some vs => some (.agg vs.toArray, A)
    | none => none
  | .store n, [.pointer (some a), v] => if v.cells.size == n then match A.storeN a v.cells.toList with
      | some A' => some (undef, A')
      | none => none
    else none
  | .nilc, [x] => match x with
    | .pointer none | .nilIface | .nilFunc => none
    | .func (.func _) _ _ => some (x, A)
    | .func (.yield _) _ _ => some (x, A)
    | .func _ _ _ => none
    | x => some (x, A)
  | .fld off, [.pointer (some a)] => some (.pointer (some (addA a off)), A)
  | .field off none, [.agg cs] => match cs[off]? with
    | some v => some (v, A)
    | none => none
  | .field off (some n), [.agg cs] => some (.agg (cs.extract off (off + n)), A)
  | .idxA s, [.slice (some a) len _, .int _ i] => if 0 ≤ i ∧ i < (len : Int) then some (.pointer (some (addA a (i.toNat * s))), A) else none
  | .idxP len s, [.pointer (some a), .int _ i] => if 0 ≤ i ∧ i < (len : Int) then some (.pointer (some (addA a (i.toNat * s))), A) else none
  | .idxS, [.string s, .int _ i] => if 0 ≤ i then match s.data.toList[i.toNat]? with
      | some b => some (.int .u8 b.toNat, A)
      | none => none
    else none
  | .lenL, [.slice _ n _] => some (goInt n, A)
  | .lenS, [.string s] => some (goInt s.size, A)
  | .lenM, [.map none] => some (goInt 0, A)
  | .lenM, [.map (some r)] => match A.h.get r with
    | some (.map es _) => some (goInt es.length, A)
    | _ => none
  | .capL, [.slice none _ n] => some (goInt n, A)
  | .capL, [.slice (some a) _ n] => match A.row? a.block with
    | some r => if r.opn then none else some (goInt n, A)
    | none => none
  | .subS lo hi, .string s :: vs =>
    let l := if lo then vs.head? else none
    let h := if hi then (if lo then vs.tail.head? else vs.head?) else none
    match optBound h s.size s.size with
      | some h => match optBound l h 0 with
        | some l => some (.string (s.extract l h), A)
        | none => none
      | none => none
  | .subL sz lo hi mx, x :: vs =>
    let l := if lo then vs.head? else none
    let vs1 := if lo then vs.tail else vs
    let h := if hi then vs1.head? else none
    let vs2 := if hi then vs1.tail else vs1
    let m := if mx then vs2.head? else none
    match x with
    | .slice none len cap => if Nat.ble len cap then match optBound m cap cap with
      | some m => match optBound h m len with
        | some h => match optBound l h 0 with
          | some l => some (.slice none (h - l) (m - l), A)
          | none => none
        | none => none
      | none => none
      else none
    | .slice (some a) len cap => match A.row? a.block with
      | some r => match optBound m cap cap with
        | some m => match optBound h m len with
          | some h => match optBound l h 0 with
            | some l => match r.opn with
              | true => if mx || r.esz != sz then none else some (.slice (some (addA a (l * sz))) (h - l) (m - l), A)
              | false => some (.slice (some (if m = l then a else addA a (l * sz))) (h - l) (m - l), A)
            | none => none
          | none => none
        | none => none
      | none => none
    | _ => none
  | .app e i z, [.slice base len cap, x] => match newC A i.size x with
    | some (n, new) =>
      if i.size ≠ 0 ∧ new.length = n * i.size ∧ (len + n) * i.bytes ≤ 140737488355328 ∧ len + n ≤ 4611686018427387904 ∧ z.cells.size = i.size ∧ new.all one = true then
        if len + n ≤ cap then appIn A base i.size len n cap new else appGrow A e i base len n new
      else none
    | none => none
  | .copy sz, [.slice base dl _, src] => match lenV src with
    | some sl => match firstN A sz (Nat.min sl dl) src with
      | some cs => match base with
        | none => some (goInt (Nat.min sl dl), A)
        | some a => if cs.length = 0 then some (goInt (Nat.min sl dl), A) else
          match A.storeN a cs with
          | some A' => some (goInt (Nat.min sl dl), A')
          | none => none
      | none => none
    | none => none
  | .lookup kd z ok, [m, k] => if keyOk kd k then
      match (match m with
        | .map none => some []
        | .map (some r) => match A.h.get r with
          | some (.map es _) => some es
          | _ => none
        | _ => none : Option (List MapEntry)) with
      | some es => match findE k es 0 with
        | some (some (_, v)) => some (if ok then .tuple #[v, .bool true] else v, A)
        | some none => some (if ok then .tuple #[z, .bool false] else z, A)
        | none => none
      | none => none
    else none
  | .mapUpd kd, [.map (some r), k, x] => match A.h.get r with
    | some (.map es c) => if keyOk kd k then match mapPut es c k x with
        | some (es', c') => some (undef, A.setObj r (.map es' c'))
        | none => none
      else none
    | _ => none
  | .mapEnt kd z, [.map (some r), k] => match A.h.get r with
    | some (.map es c) => if keyOk kd k then match findE k es 0 with
        | some (some (i, v)) => match es[i]? with
          | some e => some (.tuple #[v, goInt e.born], A)
          | none => none
        | some none => some (.tuple #[z, goInt c], A.setObj r (.map (es ++ [{ key := k, val := z, born := c }]) (c + 1)))
        | none => none
      else none
    | _ => none
  | .entSt, [.map (some r), .int _ n, x] => match A.h.get r with
    | some (.map es c) => match es.findIdx? (fun e => (e.born : Int) == n) with
      | some i => some (undef, A.setObj r (.map (es.modify i fun e => { e with val := x }) c))
      | none => none
    | _ => none
  | .del kd, [.map (some r), k] => match A.h.get r with
    | some (.map es c) => if keyOk kd k then match findE k es 0 with
        | some (some (i, _)) => some (.tuple #[], A.setObj r (.map (es.eraseIdx i) c))
        | some none => some (.tuple #[], A)
        | none => none
      else none
    | _ => none
  | .range true, [.string s] => some (.pointer (some ⟨A.next, 0, none⟩), (A.new (.siter s 0)).2)
  | .range false, [.map none] => some (.pointer (some ⟨A.next, 0, none⟩), (A.new (.miter none 0 [] 0)).2)
  | .range false, [.map (some m)] => match A.h.get m with
    | some (.map _ c) => some (.pointer (some ⟨A.next, 0, none⟩), (A.new (.miter (some m) c [] c)).2)
    | _ => none
  | .next true, [.pointer (some ⟨b, 0, none⟩)] => match A.h.get b with
    | some (.siter s pos) =>
      if pos < s.size then
        some (.tuple #[.bool true, goInt pos, .int .i32 (Utf8.decode s pos).1], A.setObj b (.siter s (pos + (Utf8.decode s pos).2)))
      else some (.tuple #[.bool false], A)
    | _ => none
  | .next false, [.pointer (some ⟨b, 0, none⟩)] => match A.h.get b with
    | some (.miter none _ _ _) => some (.tuple #[.bool false], A)
    | some (.miter (some m) since seen stepped) => match A.h.get m with
      | some (.map es c) =>
        if c = since ∧ c = stepped ∧ es.all (fun e => Nat.blt e.born c) then
          match es.filter (fun e => !seen.contains e.born) with
          | [] => some (.tuple #[.bool false], A)
          | [e] => some (.tuple #[.bool true, e.key, e.val], A.setObj b (.miter (some m) since (seen ++ [e.born]) c))
          | _ => none
        else none
      | _ => none
    | _ => none
  | .ext i, [.tuple vs] => match vs[i]? with
    | some v => some (v, A)
    | none => none
  | .ta _ z ok, [.nilIface] => if ok then some (.tuple #[z, .bool false], A) else none
  | .ta t z ok, [.iface ty v] => if ty = t then some (if ok then .tuple #[v, .bool true] else v, A) else if ok then some (.tuple #[z, .bool false], A) else none
  | .tup, vs => some (.tuple vs.toArray, A)
  | .mm true, [.int k x, .int _ y] => some (.int k (if y > x then y else x), A)
  | .mm false, [.int k x, .int _ y] => some (.int k (if y < x then y else x), A)
  | .extern name, vs => externOp A name vs
  | _, _ => none
end Go.AM.SX

namespace Go.AM.SX
open Go

inductive N where
  | bad
  | fin (o : Nat) (outs : List X)
  | op (r : R) (args : List X) (k : N)
  | opAt (b : Nat) (off : Nat) (r : R) (args : List X) (k : N)
  | br (x : X) (a b : N)
  | call (f : FuncId) (args : List X) (k : N)
  | callv (f : X) (args : List X) (k : N)
  | callm (recv : X) (name : String) (args : List X) (k : N)
  | loop (ins : List X) (body k : N)
  | sw (x : Nat) (c : Nat) (a b : N)
  | bump (n : Nat) (k : N)
  | save (k : N)
  | self (x : X) (k : N)
  | chk (i : Nat) (r : R) (args : List X) (x : X) (k : N)

/-- A function's run. -/
def Runs (E : Env) (f : FuncId) (args : List Value) (A : St) (v : Value) (A' : St) : Prop := ∃ n, (big E n).call f args A = some (v, A')
abbrev Post := Nat → List Value → St → Prop
/-- So many rounds at most. -/
def LoopN (W : List Value → St → Post → Prop) (Q : Post) : Nat → List Value → St → Prop
  | 0, _, _ => False
  | n + 1, vs, A => W vs A fun o outs A' => match o with
    | 0 => LoopN W Q n outs A'
    | o + 1 => Q (o + 1) outs A'

def denL (σ : Sg) (xs : List X) : List Value := xs.map (·.den σ)
def natV : Value → Nat
  | .int _ n => n.toNat
  | _ => 0
/-- What a tree says: run from here it comes to what Q says. -/
def wp (E : Env) : N → Sg → List St → St → Post → Prop
  | .bad, _, _, _, _ => False
  | .fin o xs, σ, _, A, Q => Q o (denL σ xs) A
  | .op r xs k, σ, H, A, Q => ∃ v A', semR r (denL σ xs) A = some (v, A') ∧ wp E k (σ ++ [v]) H A' Q
  | .opAt b off r xs k, σ, H, A, Q => ∃ v A', semR r (denL σ xs) { A with next := natV (look σ b) + off } = some (v, A') ∧ wp E k (σ ++ [v]) H { A' with next := A.next } Q
  | .br x a b, σ, H, A, Q => ∃ t, x.den σ = .bool t ∧ (t = true → wp E a σ H A Q) ∧ (t = false → wp E b σ H A Q)
  | .call f xs k, σ, H, A, Q => ∃ v A', Runs E f (denL σ xs) A v A' ∧ wp E k (σ ++ [v]) H A' Q
  | .callv f xs k, σ, H, A, Q => ∃ g fs cs v A', f.den σ = .func (.func g) fs cs ∧ (∃ fn, E.fn.get g = some fn ∧ fn.body.isSome = true) ∧ Runs E g (fs.toList ++ denL σ xs ++ cs.toList) A v A' ∧ wp E k (σ ++ [v]) H A' Q
  | .callm x name xs k, σ, H, A, Q => ∃ g args v A', callM E A (x.den σ) name (denL σ xs) = some (.enter g args, A) ∧ Runs E g args A v A' ∧ wp E k (σ ++ [v]) H A' Q
  | .loop xs body k, σ, H, A, Q => ∃ n, LoopN (fun vs A Q' => wp E body (σ ++ vs) H A Q') (fun o outs A' => wp E k (σ ++ goInt o :: outs) H A' Q) n (denL σ xs) A
  | .sw x c a b, σ, H, A, Q => (natV (look σ x) = c → wp E a σ H A Q) ∧ (natV (look σ x) ≠ c → wp E b σ H A Q)
  | .bump n k, σ, H, A, Q => wp E k (σ ++ [goInt A.next]) H { A with next := A.next + n } Q
  | .save k, σ, H, A, Q => wp E k σ (H ++ [A]) A Q
  | .self x k, σ, H, A, Q => veq 40 (x.den σ) (x.den σ) = true ∧ wp E k σ H A Q
  | .chk i r xs x k, σ, H, A, Q => (∃ B v A', H[i]? = some B ∧ semR r (denL σ xs) B = some (v, A') ∧ veq 40 v (x.den σ) = true) ∧ wp E k σ H A Q

/-! ### Symbolic frames -/
abbrev SF := List (Nat × X)
def SF.get : SF → Nat → Option X
  | [], _ => none
  | (t, x) :: sf, n => if Nat.beq t n then some x else SF.get sf n
def vn (k : Nat) : X := .at (.n k)
def vv (v : Value) : X := .at (.v v)
def At.learn (k : Nat) (b : Bool) : At → At
  | .n j => if Nat.beq j k then .v (.bool b) else .n j
  | a => a
def X.learn (k : Nat) (b : Bool) : X → X
  | .at a => .at (a.learn k b)
  | x => x
def SF.learn (k : Nat) (b : Bool) : SF → SF
  | [] => []
  | (t, x) :: sf => (t, x.learn k b) :: SF.learn k b sf

section
variable (E : Env)

def evalS (sf : SF) : Operand → Option X
  | .tmp t => sf.get t
  | .const v => some (vv v)
  | .global g => some (vv (.pointer (some ⟨g, 0, none⟩)))
  | .func f => some (.fn f [])
def evalL (sf : SF) : List Operand → Option (List X)
  | [] => some []
  | o :: os => match evalS sf o, evalL sf os with
    | some x, some xs => some (x :: xs)
    | _, _ => none

/-- What an operation comes to: what is known, what is asked, which call is made. -/
inductive Act where
  | st (x : X)
  | op (r : R) (args : List X)
  | opSl (r : R) (args : List X) (len : Nat)
  | eff (r : R) (args : List X)
  | call (f : FuncId) (args : List X)
  | callv (f : X) (args : List X)
  | callm (x : X) (name : String) (args : List X)
  | pick (k : Nat) (a b : X)

def isConst : Operand → Bool
  | .const _ => true
  | _ => false
def nilLit : X → Bool
  | .at (.v (.pointer none)) | .at (.v (.slice none _ _)) | .at (.v (.map none)) | .at (.v .nilIface) | .at (.v .nilFunc) => true
  | _ => false

def binC (a b : X) (op : BinOp) : Option X :=
  match a, b with
  | .at (.v u), .at (.v w) => match binV op u w with
    | some v => if plainV u && plainV w && plainV v then some (vv v) else none
    | none => none
  | _, _ => none
def trBin (op : BinOp) (t : TypeId) (y : Operand) (a b : X) : Option Act :=
  match binC a b op with
  | some x => some (.st x)
  | none =>
    if isConst y && nilLit b then match op, E.und t with
      | .eql, some d => some (.op (.eqn d false) [a, b])
      | .neq, some d => some (.op (.eqn d true) [a, b])
      | _, _ => none
    else match op, E.und t with
      | .eql, some .bool => some (.op (.beq false) [a, b])
      | .neq, some .bool => some (.op (.beq true) [a, b])
      | _, _ => some (.op (.bin op) [a, b])

def numPlaces (pl : List (Nat × Nat)) : List Nat → Option (List (Nat × Nat))
  | [] => some []
  | i :: is => match pl[i]?, numPlaces pl is with
    | some p, some ps => some (p :: ps)
    | _, _ => none

def trBuild (sf : SF) (t : TypeId) (parts : List (Nat × Operand)) : Option Act :=
  match E.und t, E.zero t, evalL sf (parts.map (·.2)) with
  | some (.struct fs), some z, some xs => match fs.toList.mapM (fun f => (E.size f.type).map fun s => (f.offset, s)) with
    | some pl => match numPlaces pl (parts.map (·.1)) with
      | some pl' => some (.op (.build z.cells.toList pl') xs)
      | none => none
    | none => none
  | some (.array _ e), some z, some xs => match E.size e with
    | some s => some (.op (.build z.cells.toList (parts.map fun p => (p.1 * s, s))) xs)
    | none => none
  | _, _, _ => none

def trBuildSlice (sf : SF) (t : TypeId) (len : Nat) (parts : List (Nat × Operand)) : Option Act :=
  match E.und t, evalL sf (parts.map (·.2)) with
  | some (.slice e), some xs => match E.size e, E.zero e with
    | some s, some z =>
      if s = 0 ∨ len * s > 16777216 ∨ z.cells.size ≠ s then none else
      some (.opSl (.newSl e (zeros z.cells.toList len) (parts.map fun p => (p.1 * s, s))) xs len)
    | _, _ => none
  | _, _ => none

def optL (sf : SF) : List (Option Operand) → Option (List X)
  | [] => some []
  | none :: os => optL sf os
  | some o :: os => match evalS sf o, optL sf os with
    | some x, some xs => some (x :: xs)
    | _, _ => none

def trSlice (sf : SF) (t : TypeId) (x : Operand) (lo hi mx : Option Operand) : Option Act :=
  if mx.isSome && hi.isNone then none else
  match E.und t, evalS sf x, optL sf [lo, hi, mx] with
  | some .string, some a, some xs => match mx with
    | some _ => none
    | none => some (.op (.subS lo.isSome hi.isSome) (a :: xs))
  | some (.slice e), some a, some xs => match E.size e with
    | some sz => some (.op (.subL sz lo.isSome hi.isSome mx.isSome) (a :: xs))
    | none => none
  | _, _, _ => none

def trConvert (sf : SF) (src dst : TypeId) (x : Operand) : Option Act :=
  match E.und src, E.und dst, evalS sf x with
  | some (.int _), some (.int k), some a => match a with
    | .at (.v (.int _ n)) => some (.st (vv (.int k (k.wrap n))))
    | _ => some (.op (.conv k) [a])
  | some (.int _), some .string, some a => some (.op .runeStr [a])
  | some (.slice e), some .string, some a => match E.und e with
    | some (.int .u8) => some (.op .toStr [a])
    | _ => none
  | some .string, some (.slice e), some a => match E.und e with
    | some (.int .u8) => some (.op (.toBytes e) [a])
    | _ => none
  | some .string, some .string, some a => some (.op .idStr [a])
  | _, _, _ => none

def trBuiltin (b : Builtin) (ts : List TypeId) (args : List X) : Option Act :=
  match b, ts, args with
  | .len, t :: _, [a] => match E.und t with
    | some (.slice _) => match a with
      | .sl _ n => some (.st (vv (goInt n)))
      | .at (.v (.slice _ n _)) => some (.st (vv (goInt n)))
      | _ => some (.op .lenL [a])
    | some .string => match a with
      | .at (.v (.string s)) => some (.st (vv (goInt s.size)))
      | _ => some (.op .lenS [a])
    | some (.map _ _) => some (.op .lenM [a])
    | some (.array n _) => some (.st (vv (goInt n)))
    | _ => none
  | .cap, t :: _, [a] => match E.und t with
    | some (.slice _) => some (.op .capL [a])
    | _ => none
  | .append, [t, t1], [a, b] => match E.und t, E.und t1 with
    | some (.slice _), some (.int _) => none
    | some (.slice e), some _ => match E.inf e, E.zero e with
      | some i, some z => some (.op (.app e i z) [a, b])
      | _, _ => none
    | _, _ => none
  | .copy, t :: _, [a, b] => match E.und t with
    | some (.slice e) => match E.size e with
      | some sz => some (.op (.copy sz) [a, b])
      | none => none
    | _ => none
  | .delete, t :: _, [a, b] => match E.und t with
    | some (.map kt _) => match E.und kt with
      | some kd => some (.op (.del kd) [a, b])
      | none => none
    | _ => none
  | .max, _, [a, b] => some (.op (.mm true) [a, b])
  | .min, _, [a, b] => some (.op (.mm false) [a, b])
  | _, _, _ => none

def trCall (sf : SF) (c : Call) : Option Act :=
  match evalL sf c.args.toList with
  | none => none
  | some xs => match c.callee with
    | .builtin b => trBuiltin E b c.argTypes.toList xs
    | .value f => match evalS sf f with
      | some (.fn g cs) => match E.fn.get g with
        | some fn => match fn.body with
          | some _ => some (.call g (xs ++ cs.map .at))
          | none => match cs with
            | [] => some (.op (.extern fn.name) xs)
            | _ => none
        | none => none
      | some (.at (.n k)) => some (.callv (vn k) xs)
      | _ => none
    | .invoke r name => match evalS sf r with
      | some x => some (.callm x name xs)
      | none => none

def atomic : X → Option At
  | .at a => some a
  | _ => none
def atomicL : List X → Option (List At)
  | [] => some []
  | x :: xs => match atomic x, atomicL xs with
    | some a, some l => some (a :: l)
    | _, _ => none

def tr (sf : SF) (o : Oper) : Option Act :=
  match o.op with
  | .move x | .assign x => (evalS sf x).map .st
  | .pick c a b => match evalS sf c, evalS sf a, evalS sf b with
    | some (.at (.v (.bool t))), some a, some b => some (.st (if t then a else b))
    | some (.at (.n k)), some a, some b => some (.pick k a b)
    | _, _, _ => none
  | .alloc t => match E.zero t with
    | some z => some (.op (.alloc t z.cells.toList) [])
    | none => none
  | .box t x => match evalS sf x with
    | some a => some (.op (.box t) [a])
    | none => none
  | .build t parts => trBuild E sf t parts.toList
  | .buildSlice t len parts => trBuildSlice E sf t len parts.toList
  | .load t a => match E.agg t, E.size t, evalS sf a with
    | some true, some n, some x => some (.op (.load (some n)) [x])
    | some false, _, some x => some (.op (.load none) [x])
    | _, _, _ => none
  | .store t a v => match E.size t, evalS sf a, evalS sf v with
    | some n, some x, some y => some (.eff (.store n) [x, y])
    | _, _, _ => none
  | .nilCheck x => match evalS sf x with
    | some (.fn f cs) => some (.st (.fn f cs))
    | some (.ifc t a) => some (.st (.ifc t a))
    | some x => some (.op .nilc [x])
    | none => none
  | .binOp op t x y _ => match evalS sf x, evalS sf y with
    | some a, some b => trBin E op t y a b
    | _, _ => none
  | .unOp op _ x => match op, evalS sf x with
    | .not, some a => match a with
      | .at (.v (.bool b)) => some (.st (vv (.bool !b)))
      | _ => some (.op .not [a])
    | .neg, some a => some (.op .neg [a])
    | _, _ => none
  | .convert src dst x => trConvert E sf src dst x
  | .makeInterface t x => match E.und t, evalS sf x with
    | some (.interface _), _ => none
    | some _, some (.at a) => some (.st (.ifc t a))
    | _, _ => none
  | .makeFunc (.func f) first captured => match first.toList, evalL sf captured.toList with
    | [], some xs => match atomicL xs with
      | some l => some (.st (.fn f l))
      | none => none
    | _, _ => none
  | .makeMap _ none => some (.op .mkMap [])
  | .makeSlice t l c => match E.und t, evalS sf l, evalS sf c with
    | some (.slice e), some x, some y => match E.inf e, E.zero e with
      | some i, some z => if i.size ≠ 0 ∧ z.cells.size = i.size then some (.op (.mkSl e z.cells.toList i.bytes) [x, y]) else none
      | _, _ => none
    | _, _, _ => none
  | .slice t x lo hi mx => trSlice E sf t x lo hi mx
  | .fieldAddr s x f => match E.und s, evalS sf x with
    | some (.struct fs), some a => match fs[f]? with
      | some fd => match E.size fd.type with
        | some n => if n = 0 then none else some (.op (.fld fd.offset) [a])
        | none => none
      | none => none
    | _, _ => none
  | .field t x f => match E.und t, evalS sf x with
    | some (.struct fs), some a => match fs[f]? with
      | some fd => match E.agg fd.type, E.size fd.type with
        | some true, some n => some (.op (.field fd.offset (some n)) [a])
        | some false, _ => some (.op (.field fd.offset none) [a])
        | _, _ => none
      | none => none
    | _, _ => none
  | .indexAddr t x ix => match E.und t, evalS sf x, evalS sf ix with
    | some (.slice e), some a, some i => match E.size e with
      | some s => if s = 0 then none else some (.op (.idxA s) [a, i])
      | none => none
    | some (.array len e), some a, some i => match E.size e with
      | some s => if s = 0 then none else some (.op (.idxP len s) [a, i])
      | none => none
    | _, _, _ => none
  | .index t x ix => match E.und t, evalS sf x, evalS sf ix with
    | some .string, some a, some i => some (.op .idxS [a, i])
    | _, _, _ => none
  | .lookup t m ix ok => match E.und t, evalS sf m, evalS sf ix with
    | some (.map kt et), some a, some i => match E.und kt, E.zero et with
      | some kd, some z => some (.op (.lookup kd z ok) [a, i])
      | _, _ => none
    | _, _, _ => none
  | .mapUpdate t m k x | .insert t m k x => match E.und t, evalS sf m, evalS sf k, evalS sf x with
    | some (.map kt _), some a, some b, some c => match E.und kt with
      | some kd => some (.eff (.mapUpd kd) [a, b, c])
      | none => none
    | _, _, _, _ => none
  | .mapEntry t m k => match E.und t, evalS sf m, evalS sf k with
    | some (.map kt et), some a, some b => match E.und kt, E.zero et with
      | some kd, some z => some (.op (.mapEnt kd z) [a, b])
      | _, _ => none
    | _, _, _ => none
  | .entryStore _ m s x => match evalS sf m, evalS sf s, evalS sf x with
    | some a, some b, some c => some (.eff .entSt [a, b, c])
    | _, _, _ => none
  | .range t x => match E.und t, evalS sf x with
    | some .string, some a => some (.op (.range true) [a])
    | some (.map _ _), some a => some (.op (.range false) [a])
    | _, _ => none
  | .next it isStr => match evalS sf it with
    | some a => some (.op (.next isStr) [a])
    | none => none
  | .typeAssert x _ t ok => match E.und t, evalS sf x, E.zero t with
    | some (.interface _), _, _ => none
    | some _, some a, some z => some (.op (.ta t z ok) [a])
    | _, _, _ => none
  | .extract t i => match evalS sf t with
    | some a => some (.op (.ext i) [a])
    | none => none
  | .call c => trCall E sf c
  | _ => none
end
end Go.AM.SX

namespace Go.AM.SX
open Go

/-- Which functions are walked into; which loops are gone round (function, number of the loop's first region). -/
structure Cfg where
  inl : List Nat
  unr : List (Nat × Nat)
abbrev K := SF → Nat → Nat → Option N
abbrev KO := Nat → SF → Nat → Nat → Option N
abbrev KX := X → Nat → Nat → Option N
structure SRec where
  code : Nat → Nat → Code → SF → Nat → Nat → KO → Option N
  call : Nat → List X → Nat → Nat → KX → Option N

def sput (nt : Nat) (sf : SF) (d : Option Tmp) (x : X) : Option SF :=
  match d with
  | none => some sf
  | some d => match Nat.blt d nt with
    | true => some ((d, x) :: sf)
    | false => none
inductive G where
  | yes
  | no
  | sym (k : Nat) (want : Bool)
  | bad
def gd (ops : Array Oper) (o : Oper) (sf : SF) : G :=
  match o.guard with
  | none => .yes
  | some (j, want) => match ((ops[j]?).bind (·.dst)).bind (SF.get sf ·) with
    | some (.at (.v (.bool b))) => if b == want then .yes else .no
    | some (.at (.v _)) => .no
    | some (.at (.n k)) => .sym k want
    | _ => .bad
def mkBr (k : Nat) (a b : Option N) : Option N := match a, b with
  | some a, some b => some (.br (vn k) a b)
  | _, _ => none
def nOp (r : R) (args : List X) : Option N → Option N
  | some n => some (.op r args n)
  | none => none
def nCall (f : Nat) (args : List X) : Option N → Option N
  | some n => some (.call f args n)
  | none => none
def nCallv (f : X) (args : List X) : Option N → Option N
  | some n => some (.callv f args n)
  | none => none
def nCallm (x : X) (name : String) (args : List X) : Option N → Option N
  | some n => some (.callm x name args n)
  | none => none
def nOpAt (b off : Nat) (r : R) (args : List X) : Option N → Option N
  | some n => some (.opAt b off r args n)
  | none => none
def nSave : Option N → Option N
  | some n => some (.save n)
  | none => none
def nBump (m : Nat) : Option N → Option N
  | some n => some (.bump m n)
  | none => none

section
variable (E : Env) (cfg : Cfg) (rec_ : SRec)

def sxAct (a : Act) (nv nh : Nat) (k : KX) : Option N :=
  match a with
  | .st x => k x nv nh
  | .op r args => nOp r args (k (vn nv) (nv + 1) nh)
  | .opSl r args len => nOp r args (k (.sl (.n nv) len) (nv + 1) nh)
  | .eff r args => nOp r args (k (vv undef) (nv + 1) nh)
  | .call f args => if cfg.inl.any (Nat.beq f) then rec_.call f args nv nh k else nCall f args (k (vn nv) (nv + 1) nh)
  | .callv f args => nCallv f args (k (vn nv) (nv + 1) nh)
  | .callm x name args => nCallm x name args (k (vn nv) (nv + 1) nh)
  | .pick .. => none

def putK (nt : Nat) (sf : SF) (d : Option Tmp) (k : K) : KX := fun x nv nh => match sput nt sf d x with
  | some sf1 => k sf1 nv nh
  | none => none

def sxOp (nt : Nat) (o : Oper) (sf : SF) (nv nh : Nat) (k : K) : Option N :=
  if litsOk E o then
    match tr E sf o with
    | none => none
    | some (.pick j a b) => mkBr j (putK nt (sf.learn j true) o.dst k (a.learn j true) nv nh) (putK nt (sf.learn j false) o.dst k (b.learn j false) nv nh)
    | some act => sxAct cfg rec_ act nv nh (putK nt sf o.dst k)
  else none

def sxOps (nt : Nat) (ops : Array Oper) : List Oper → SF → Nat → Nat → K → Option N
  | [], sf, nv, nh, k => k sf nv nh
  | o :: os, sf, nv, nh, k =>
    match gd ops o sf with
    | .yes => sxOp E cfg rec_ nt o sf nv nh fun sf nv nh => sxOps nt ops os sf nv nh k
    | .no => putK nt sf o.dst (fun sf nv nh => sxOps nt ops os sf nv nh k) (vv undef) nv nh
    | .sym j true => mkBr j (sxOp E cfg rec_ nt o (sf.learn j true) nv nh fun sf nv nh => sxOps nt ops os sf nv nh k) (putK nt (sf.learn j false) o.dst (fun sf nv nh => sxOps nt ops os sf nv nh k) (vv undef) nv nh)
    | .sym j false => mkBr j (putK nt (sf.learn j true) o.dst (fun sf nv nh => sxOps nt ops os sf nv nh k) (vv undef) nv nh) (sxOp E cfg rec_ nt o (sf.learn j false) nv nh fun sf nv nh => sxOps nt ops os sf nv nh k)
    | .bad => none

/-- An entry of a drawn region: whether it is looked at again; what it asked; what it came to. -/
structure SEnt where
  kind : Nat
  r : Option (R × List X)
  x : X
  bef : Nat
def nChks (e : SEnt) (i : Nat) (befs ks : List Nat) : List (Nat × Nat) → Option N → Option N
  | [], n => n
  | (k, h) :: Hs, n => if allowed i e.bef befs ks k then
      match e.r, nChks e i befs ks Hs n with
      | some (r, args), some n => some (.chk h r args e.x n)
      | none, some n => some (.self e.x n)
      | _, none => none
    else nChks e i befs ks Hs n
def chkNodes (befs ks : List Nat) (Hs : List (Nat × Nat)) : List SEnt → Nat → Option N → Option N
  | [], _, n => n
  | e :: es, i, n => match e.kind with
    | 1 => nChks e i befs ks Hs (chkNodes befs ks Hs es (i + 1) n)
    | _ => chkNodes befs ks Hs es (i + 1) n

/-- One entry that is done. -/
def dFloat (nt : Nat) (o : Oper) (bf : Nat) (sf : SF) (nv nh : Nat) (k : SF → Nat → Nat → SEnt → Option N) : Option N :=
  if litsOk E o then
    match tr E sf o with
    | some (.st x) => putK nt sf o.dst (fun sf nv nh => k sf nv nh { kind := 1, r := none, x, bef := bf }) x nv nh
    | some (.op r args) => if args.all (·.ok nv) then nOp r args (putK nt sf o.dst (fun sf' nv' nh' => k sf' nv' nh' { kind := 1, r := some (r, args), x := vn nv, bef := bf }) (vn nv) (nv + 1) nh) else none
    | some (.pick j a b) => mkBr j
        (putK nt (sf.learn j true) o.dst (fun sf nv nh => k sf nv nh { kind := 1, r := none, x := a.learn j true, bef := bf }) (a.learn j true) nv nh)
        (putK nt (sf.learn j false) o.dst (fun sf nv nh => k sf nv nh { kind := 1, r := none, x := b.learn j false, bef := bf }) (b.learn j false) nv nh)
    | _ => none
  else none
def dAlloc (nt : Nat) (b i : Nat) (o : Oper) (bf : Nat) (sf : SF) (nv nh : Nat) (k : SF → Nat → Nat → SEnt → Option N) : Option N :=
  if litsOk E o then
    match tr E sf o with
    | some (.op r args) => nOpAt b i r args (putK nt sf o.dst (fun sf nv nh => k sf nv nh { kind := 3, r := none, x := vv undef, bef := bf }) (vn nv) (nv + 1) nh)
    | some (.opSl r args len) => nOpAt b i r args (putK nt sf o.dst (fun sf nv nh => k sf nv nh { kind := 3, r := none, x := vv undef, bef := bf }) (.sl (.n nv) len) (nv + 1) nh)
    | _ => none
  else none

def sxDraw (nt : Nat) (ops : Array Oper) (befs : List Nat) (b : Nat) : List (Oper × Nat) → Nat → SF → Nat → Nat → List SEnt → List (Nat × Nat) → List Nat → K → Option N
  | [], _, sf, nv, nh, log, Hs, ks, k => chkNodes befs ks Hs log.reverse 0 (k sf nv nh)
  | (o, bf) :: os, i, sf, nv, nh, log, Hs, ks, k =>
    let no := fun sf => putK nt sf o.dst (fun sf nv nh => sxDraw nt ops befs b os (i + 1) sf nv nh ({ kind := 0, r := none, x := vv undef, bef := bf } :: log) Hs ks k) (vv undef) nv nh
    let yes := fun sf =>
      if isFloat E o then dFloat E nt o bf sf nv nh fun sf nv nh e => sxDraw nt ops befs b os (i + 1) sf nv nh (e :: log) Hs ks k
      else if isAlloc o then dAlloc E nt b i o bf sf nv nh fun sf nv nh e => sxDraw nt ops befs b os (i + 1) sf nv nh (e :: log) Hs ks k
      else sxOp E cfg rec_ nt o sf nv nh fun sf nv nh => nSave (sxDraw nt ops befs b os (i + 1) sf nv (nh + 1) ({ kind := 2, r := none, x := vv undef, bef := bf } :: log) ((i + 1, nh) :: Hs) (i :: ks) k)
    match gd ops o sf with
    | .yes => yes sf
    | .no => no sf
    | .sym j true => mkBr j (yes (sf.learn j true)) (no (sf.learn j false))
    | .sym j false => mkBr j (no (sf.learn j true)) (yes (sf.learn j false))
    | .bad => none

def sxDrawRegion (nt : Nat) (ops : Array Oper) (sf : SF) (nv nh : Nat) (k : K) : Option N :=
  if regOk E ops then
    nBump ops.size (nSave (sxDraw E cfg rec_ nt ops (Region.before ops).toList nv (ops.toList.zip (Region.before ops).toList) 0 sf (nv + 1) (nh + 1) [] [(0, nh)] [] k))
  else none

def dstsOf (ops : List Oper) : List Nat := ops.filterMap (·.dst)
/-- The slots that a text may change. -/
def dsts : Code → List Nat
  | .seq a b => dsts a ++ dsts b
  | .cond _ a b => dsts a ++ dsts b
  | .block _ b => dsts b
  | .loop b => dsts b
  | .scope b => dsts b
  | .region _ ops _ => dstsOf ops.toList
  | _ => []
def firstReg : Code → Option Nat
  | .seq a b => match firstReg a with
    | some n => some n
    | none => firstReg b
  | .cond _ a _ => firstReg a
  | .block _ b => firstReg b
  | .loop b => firstReg b
  | .scope b => firstReg b
  | .region i _ _ => some i
  | _ => none
def hasN (l : List Nat) (n : Nat) : Bool := l.any (Nat.beq n)
def dedup : List Nat → List Nat
  | [] => []
  | x :: l => let r := dedup l; if hasN r x then r else x :: r
/-- Each slot once, those in M and those that can't be held against themselves left out. -/
def keptOf (M : List Nat) : SF → List Nat → SF
  | [], _ => []
  | (t, x) :: sf, seen => if hasN seen t || hasN M t then keptOf M sf (t :: seen) else if x.same x then (t, x) :: keptOf M sf (t :: seen) else keptOf M sf (t :: seen)
def getL (sf : SF) : List Nat → Option (List X)
  | [] => some []
  | t :: ts => match sf.get t, getL sf ts with
    | some x, some xs => some (x :: xs)
    | _, _ => none
def varsFrom (nv : Nat) : List Nat → SF
  | [] => []
  | t :: ts => (t, vn nv) :: varsFrom (nv + 1) ts
def keptOk (sf : SF) : SF → Bool
  | [] => true
  | (t, x) :: r => (match sf.get t with
    | some y => x.same y
    | none => false) && keptOk sf r
def N.outs : N → List Nat
  | .fin o _ => [o]
  | .op _ _ k | .opAt _ _ _ _ k | .call _ _ k | .callv _ _ k | .callm _ _ _ k | .loop _ _ k | .bump _ k | .save k | .self _ k | .chk _ _ _ _ k => k.outs
  | .br _ a b | .sw _ _ a b => a.outs ++ b.outs
  | .bad => []
def swK (x : Nat) (k : Nat → Option N) : List Nat → Option N
  | [] => some .bad
  | o :: os => match k o, swK x k os with
    | some a, some b => some (.sw x o a b)
    | _, _ => none

def sxLoop (f nt : Nat) (b : Code) (sf : SF) (nv nh : Nat) (k : KO) : Option N :=
  let M := dsts b
  let V := (dedup M).filter fun t => (SF.get sf t).isSome
  let kept := keptOf M sf []
  match getL sf V with
  | none => none
  | some ins => match rec_.code f nt b (varsFrom nv V ++ kept) (nv + V.length) nh (fun o sf' _ _ => if keptOk sf' kept then match getL sf' V with
      | some outs => some (.fin o outs)
      | none => none
      else none) with
    | none => none
    | some body => match swK nv (fun o => k o (varsFrom (nv + 1) V ++ kept) (nv + 1 + V.length) nh) ((dedup body.outs).filter fun o => !Nat.beq o 0) with
      | some kk => some (.loop ins body kk)
      | none => none

def seqK (g : SF → Nat → Nat → Option N) (k : KO) : KO := fun o sf nv nh => match o with
  | 0 => g sf nv nh
  | o + 1 => k (o + 1) sf nv nh
def blockK (id : Nat) (k : KO) : KO := fun o sf nv nh => k (if Nat.beq o (id + 2) then 0 else o) sf nv nh

def isUnr (f : Nat) (b : Code) : Bool := match firstReg b with
  | some r => cfg.unr.any fun p => Nat.beq p.1 f && Nat.beq p.2 r
  | none => false

def sxCode (f nt : Nat) (c : Code) (sf : SF) (nv nh : Nat) (k : KO) : Option N :=
  match c with
  | .skip | .label _ => k 0 sf nv nh
  | .seq a b => rec_.code f nt a sf nv nh (seqK (fun sf nv nh => rec_.code f nt b sf nv nh k) k)
  | .cond c t e => match evalS sf c with
    | some (.at (.v (.bool true))) => rec_.code f nt t sf nv nh k
    | some (.at (.v (.bool false))) => rec_.code f nt e sf nv nh k
    | some (.at (.n j)) => mkBr j (rec_.code f nt t (sf.learn j true) nv nh k) (rec_.code f nt e (sf.learn j false) nv nh k)
    | _ => none
  | .block id b => rec_.code f nt b sf nv nh (blockK id k)
  | .loop b => if isUnr cfg f b then rec_.code f nt b sf nv nh (seqK (fun sf nv nh => rec_.code f nt (.loop b) sf nv nh k) k) else sxLoop rec_ f nt b sf nv nh k
  | .scope b => rec_.code f nt b sf nv nh k
  | .exit id => k (id + 2) sf nv nh
  | .ret => k 1 sf nv nh
  | .region _ ops draw => if draw then sxDrawRegion E cfg rec_ nt ops sf nv nh (k 0) else sxOps E cfg rec_ nt ops ops.toList sf nv nh (k 0)
  | _ => none

def sxRes (sf : SF) : List ResultVar → Nat → Nat → (List X → Nat → Nat → Option N) → Option N
  | [], nv, nh, k => k [] nv nh
  | r :: rs, nv, nh, k => match r with
    | .tmp t => match sf.get t with
      | some x => sxRes sf rs nv nh fun xs nv nh => k (x :: xs) nv nh
      | none => none
    | .cell a t => match sf.get a, E.agg t, E.size t with
      | some x, some true, some n => nOp (.load (some n)) [x] (sxRes sf rs (nv + 1) nh fun xs nv' nh => k (vn nv :: xs) nv' nh)
      | some x, some false, _ => nOp (.load none) [x] (sxRes sf rs (nv + 1) nh fun xs nv' nh => k (vn nv :: xs) nv' nh)
      | _, _, _ => none
def argsSF : Nat → List X → SF
  | _, [] => []
  | i, x :: xs => (i, x) :: argsSF (i + 1) xs
def resK (k : KX) : List X → Nat → Nat → Option N
  | [x], nv, nh => k x nv nh
  | xs, nv, nh => nOp .tup xs (k (vn nv) (nv + 1) nh)
def sxCall (f : Nat) (args : List X) (nv nh : Nat) (k : KX) : Option N :=
  if E.known.any (fun k => Nat.beq k.f f) then none else
  match E.fn.get f with
  | none => none
  | some fn => match fn.body with
    | none => none
    | some c => if args.length ≤ fn.ntmps then
        rec_.code f fn.ntmps c (argsSF 0 args) nv nh fun o sf nv nh => match o with
          | 0 | 1 => sxRes E sf fn.results.toList nv nh (resK k)
          | _ + 2 => none
      else none

def sx : Nat → SRec
  | 0 => { code := fun _ _ _ _ _ _ _ => none, call := fun _ _ _ _ _ => none }
  | n + 1 => { code := sxCode E cfg (sx n), call := sxCall E (sx n) }
def varsUpto : Nat → Nat → List X
  | _, 0 => []
  | i, n + 1 => vn i :: varsUpto (i + 1) n
/-- The tree of a function with so many arguments. -/
def sxFn (fuel f n : Nat) : Option N := (sx E cfg fuel).call f (varsUpto 0 n) n 0 fun x _ _ => some (.fin 1 [x])
end
end Go.AM.SX
