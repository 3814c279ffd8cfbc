/- The operations, fifth part: slices, fields, elements. -/
import GoSem.Step
import Derived.Calls
import Derived.Laws.World
import Derived.Laws.Sem
import Derived.Laws.Entries
import Derived.Laws.Rows
import Derived.Laws.Cells
import Derived.ChangeKeysEq
import Derived.Laws.Externs
import Derived.Laws.Strings
namespace Go.AM
inductive T (α:Type) where
 | nil
 | node (v:Option α) (a b c d:T α)
 deriving Inhabited
namespace T
variable {α:Type}
def get:T α->Nat->Option α
 | .nil,_=>none
 | .node v a b c d,n=>match n with
  | 0=>v
  | m+1=>match m % 4 with
   | 0=>a.get (m / 4)
   | k+1=>match k with
    | 0=>b.get (m / 4)
    | k+1=>match k with
     | 0=>c.get (m / 4)
     | _+1=>d.get (m / 4)
def bj (x:α):Nat->T α->Nat->T α
 | 0,t,_=>t
 | f + 1,t,n=>match t with
  | .nil=>match n with
   | 0=>.node (some x) .nil .nil .nil .nil
   | m+1=>match m % 4 with
    | 0=>.node none (bj x f .nil (m / 4)) .nil .nil .nil
    | k+1=>match k with
     | 0=>.node none .nil (bj x f .nil (m / 4)) .nil .nil
     | k+1=>match k with
      | 0=>.node none .nil .nil (bj x f .nil (m / 4)) .nil
      | _+1=>.node none .nil .nil .nil (bj x f .nil (m / 4))
  | .node v a b c d=>match n with
   | 0=>.node (some x) a b c d
   | m+1=>match m % 4 with
    | 0=>.node v (bj x f a (m / 4)) b c d
    | k+1=>match k with
     | 0=>.node v a (bj x f b (m / 4)) c d
     | k+1=>match k with
      | 0=>.node v a b (bj x f c (m / 4)) d
      | _+1=>.node v a b c (bj x f d (m / 4))
def set (t:T α) (n:Nat) (x:α):T α:=bj x (n+1) t n
def setL (t:T α) (i:Nat):List α->T α
 | []=>t
 | x::xs=>setL (t.set i x) (i+1) xs
def ofList (l:List α):T α:=setL .nil 0 l
def range (t:T α) (i:Nat):Nat->Option (List α)
 | 0=>some []
 | n+1=>match t.get i with
  | some x=>match t.range (i+1) n with
   | some xs=>some (x::xs)
   | none=>none
  | none=>none
end T
structure Row where
 own:Bool
 size:Nat
 cells:T Value
 elem:TypeId
 esz:Nat
 opn:Bool
 grp:Nat
 frz:Nat
 sb:Bool
structure ALoop where
 state:LoopState
 pending:Option Code
inductive AObj where
 | dead
 | row (r:Row)
 | map (es:List MapEntry) (clock:Nat)
 | siter (s:ByteArray) (pos:Nat)
 | miter (m:Option Nat) (since:Nat) (seen:List Nat) (stepped:Nat)
 | loop (l:ALoop)
 | defd
structure St where
 next:Nat
 h:T AObj
 g:T (List Nat)
structure PE where
 v:Value
 re:Bool
inductive Mode where
 | ret
 | pan (ch:List PE)
inductive DI where
 | mark (m:Nat)
 | fn (g:FuncId) (cap args:List Value)
structure Fr where
 tm:T Value
 marks:List DI
inductive Out where
 | norm
 | ret
 | exit (id:Nat)
 | pan (ch:List PE)
 | goto (l:Nat)
inductive Nx where
 | val (v:Value)
 | skip
 | dfr (d:Deferred)
 | enter (f:FuncId) (args:List Value)
 | round (l:Nat) (args:List Value)
 | recov
 | pan (v:Value)
def aU:Nat->Value->Bool
 | _,.bool _ | _,.int _ _ | _,.string _ | _,.pointer none | _,.map none | _,.nilFunc | _,.nilIface=>true
 | _,.slice none _ _=>true
 | n+1,.iface _ v=>aU n v
 | n+1,.agg cs=>cs.toList.all (aU n)
 | n+1,.tuple cs=>cs.toList.all (aU n)
 | n+1,.func fn first captured=>(match fn with | .func _=>true | _=>false)&&first.toList.all (aU n)&&captured.toList.all (aU n)
 | _,_=>false
def aH (v:Value):Bool:=aU 40 v
def one:Value->Bool
 | .agg _ | .tuple _=>false
 | _=>true
structure GRow where
 g:Nat
 cells:List Value
 elem:TypeId
structure KRow where
 b:Nat
 cells:List Value
 elem:TypeId
 esz:Nat
 opn:Bool
 frz:Nat
 sb:Bool
structure Known where
 f:FuncId
 args:List Value
 looks:List GRow
 v:Value
 cnt:Nat
 objs:List KRow
structure Env where
 P:Program
 sl:List (List UInt8)
 ng:Nat
 ty:T TypeInfo
 fn:T Func
 known:List Known
 xf:List FuncId:=[]
 xt:FuncId->List Value->Option Known:=fun _ _=>none
 xj:List FuncId:=[]
 xr:FuncId->List Value->List Value->Option Value:=fun _ _ _=>none
def jy (P:Program) (sl:List (List UInt8):=[]):Env:={ P,sl,ng:=P.globals.size,ty:=T.ofList P.types.toList,fn:=T.ofList P.funcs.toList,known:=[] }
namespace Env
variable (E:Env)
def inf (t:TypeId):Option TypeInfo:=E.ty.get t
def und (t:TypeId):Option TypeDesc :=
 match E.inf t with
 | some i=>match i.desc with
  | .named _ u=>match E.inf u with
   | some j=>some j.desc
   | none=>none
  | d=>some d
 | none=>none
def size (t:TypeId):Option Nat:=(E.inf t).map (·.size)
def zero (t:TypeId):Option Value :=
 match E.inf t with
 | some i=>match i.zero with
  | some z=>if aH z then some z else none
  | none=>none
 | none=>none
def agg (t:TypeId):Option Bool:=(E.und t).map fun d=>match d with | .struct _ | .array _ _=>true | _=>false
end Env
def aR (P:Program) {α:Type}:Sem α->Option (Except Value α)
 | .pure a=>some (.ok a)
 | .program k=>aR P (k P)
 | .halt (.panic v)=>some (.error v)
 | _=>none
namespace St
variable (A:St)
def row? (b:Nat):Option Row:=match A.h.get b with
 | some (.row r)=>some r
 | _=>none
def loadN (a:Addr) (n:Nat):Option (List Value) :=
 match a.spot with
 | some _=>none
 | none=>match A.row? a.block with
  | some r=>if a.off+n<=r.size then r.cells.range a.off n else none
  | none=>none
def new (o:AObj):Nat×St:=(A.next,{ A with next:=A.next+1,h:=A.h.set A.next o })
def newRow (elem:TypeId) (cells:List Value):Addr×St :=
 (⟨A.next,0,none⟩,{ A with next:=A.next+1,h:=A.h.set A.next (.row { own:=true,size:=cells.length,cells:=T.ofList cells,elem,esz:=0,opn:=false,grp:=A.next,frz:=0,sb:=false }) })
def setObj (b:Nat) (o:AObj):St:={ A with h:=A.h.set b o }
def kill (h:T AObj) (b:Nat):List Nat->T AObj
 | []=>h
 | m::ms=>kill (if m==b then h else h.set m .dead) b ms
def alone (b:Nat) (r:Row):St :=
 match A.g.get r.grp with
 | none=>A
 | some ms=>{ A with h:=kill A.h b ms,g:=A.g.set r.grp [b] }
def storeN (a:Addr) (vs:List Value):Option St :=
 match a.spot with
 | some _=>none
 | none=>match A.row? a.block with
  | some r =>
   if r.own&&decide (a.off+vs.length<=r.size)&&decide (r.frz<=a.off)&&vs.all one then
    let A1:=A.alone a.block r
    some (A1.setObj a.block (.row { r with cells:=r.cells.setL a.off vs }))
   else none
  | none=>none
end St
section
variable (E:Env)
def dA (A:St) (t:TypeId) (a:Addr):Option Value :=
 match E.agg t with
 | some true=>match E.size t with
  | some n=>match A.loadN a n with
   | some vs=>some (.agg vs.toArray)
   | none=>none
  | none=>none
 | some false=>match A.loadN a 1 with
  | some [v]=>some v
  | _=>none
 | none=>none
def jz (A:St) (t:TypeId) (a:Addr) (v:Value):Option St :=
 match E.size t with
 | some n=>if v.cells.size==n then A.storeN a v.cells.toList else none
 | none=>none
def aJ (a:Addr) (n:Nat):Addr:=⟨a.block,a.off+n,none⟩
def gR (t:TypeId) (cs:Array Value) (off:Nat):Option Value :=
 match E.agg t with
 | some true=>match E.size t with
  | some n=>some (.agg (cs.extract off (off+n)))
  | none=>none
 | some false=>cs[off]?
 | none=>none
def bound (v:Value) (hi:Nat):Option Nat :=
 match v with
 | .int _ i=>if 0<=i/\i<=(hi:Int) then some i.toNat else none
 | _=>none
def aL (v:Option Value) (hi dflt:Nat):Option Nat :=
 match v with
 | none=>some dflt
 | some v=>bound v hi
def mc (A:St):Bool:=match A.row? 0 with
 | some r=>!r.opn
 | none=>false
def kA (A:St) (ex:Bool) (a:Addr) (sz l h m:Nat):Value :=
 match ex with
 | false=>.slice (some (aJ a (l * sz))) (h - l) (m - l)
 | true=>if Nat.beq m l&&mc A then .slice (some ⟨0,0,none⟩) 0 0 else .slice (some (aJ a (l * sz))) (h - l) (m - l)
def ec (A:St) (t:TypeId) (x:Value) (lo hi mx:Option Value):Option Value :=
 if mx.isSome&&hi.isNone then none else
 match E.und t,x with
 | some .string,.string s =>
  match mx with
  | some _=>none
  | none=>match aL hi s.size s.size with
   | some h=>match aL lo h 0 with
    | some l=>some (.string (s.extract l h))
    | none=>none
   | none=>none
 | some (.slice e),.slice none len cap =>
  match E.size e,Nat.ble len cap with
  | some _,true=>match aL mx cap cap with
   | some m=>match aL hi m len with
    | some h=>match aL lo h 0 with
     | some l=>some (.slice none (h - l) (m - l))
     | none=>none
    | none=>none
   | none=>none
  | _,_=>none
 | some (.slice e),.slice (some a) len cap =>
  match A.row? a.block,E.size e with
  | some r,some sz =>
   match aL mx cap cap with
   | some m=>match aL hi m len with
    | some h=>match aL lo h 0 with
     | some l =>
      match r.opn with
      | true=>if r.esz != sz then none else some (kA A mx.isSome a sz l h m)
      | false=>some (.slice (some (if m=l then a else aJ a (l * sz))) (h - l) (m - l))
     | none=>none
    | none=>none
   | none=>none
  | _,_=>none
 | some (.array n e),.pointer (some a) =>
  match A.row? a.block,E.size e with
  | some r,some sz =>
   match r.opn with
   | true=>none
   | false=>match aL mx n n with
    | some m=>match aL hi m n with
     | some h=>match aL lo h 0 with
      | some l=>some (.slice (some (if m=l then a else aJ a (l * sz))) (h - l) (m - l))
      | none=>none
     | none=>none
    | none=>none
  | _,_=>none
 | _,_=>none
def iX (t:TypeDesc) (x y:Value):Option Bool :=
 match t,x,y with
 | .pointer _,.pointer (some _),.pointer none=>some false
 | .pointer _,.pointer none,.pointer (some _)=>some false
 | .slice _,.slice (some _) _ _,.slice none _ _=>some false
 | .slice _,.slice none _ _,.slice (some _) _ _=>some false
 | .map _ _,.map (some _),.map none=>some false
 | .map _ _,.map none,.map (some _)=>some false
 | .func _ _ _,.func _ _ _,.nilFunc=>some false
 | .func _ _ _,.nilFunc,.func _ _ _=>some false
 | .interface _,.iface _ _,.nilIface=>some false
 | .interface _,.nilIface,.iface _ _=>some false
 | .pointer e,.pointer (some a),.pointer (some b)=>if a.block=b.block/\a.off=b.off/\(E.size e).isSome=true then some true else none
 | .interface _,.iface tx _,.iface ty _=>if tx=ty then none else some false
 | _,_,_=>none
def bV (k:Value):List MapEntry->Nat->Option (Option (Nat×Value))
 | [],_=>some none
 | e::es,i=>match k,e.key with
  | .int a x,.int b y=>if a=b then (if x=y then some (some (i,e.val)) else bV k es (i+1)) else none
  | .string x,.string y=>if x.data.toList=y.data.toList then some (some (i,e.val)) else bV k es (i+1)
  | .bool x,.bool y=>if x=y then some (some (i,e.val)) else bV k es (i+1)
  | _,_=>none
def bW (t:TypeDesc) (k:Value):Bool :=
 match t,k with
 | .int _,.int _ _ | .string,.string _ | .bool,.bool _=>true
 | _,_=>false
def me (es:List MapEntry) (clock:Nat) (k v:Value):Option (List MapEntry×Nat) :=
 match bV k es 0 with
 | some (some (i,_))=>some (es.modify i fun e=>{ e with val:=v },clock)
 | some none=>some (es++[{ key:=k,val:=v,born:=clock }],clock+1)
 | none=>none
def nilDeref:Value:=.iface E.P.rt.errorString (strVal "invalid memory address or nil pointer dereference")
def zeros (z:List Value):Nat->List Value
 | 0=>[]
 | n+1=>z++zeros z n
def cS (A:St) (sz n:Nat) (x:Value):Option (List Value) :=
 match x with
 | .slice (some a) _ _=>A.loadN a (n * sz)
 | .slice none _ _=>if n=0 then some [] else none
 | .string s=>some ((s.data.toList.take n).map fun b=>.int .u8 b.toNat)
 | _=>none
def dN:Value->Option Nat
 | .slice _ n _=>some n
 | .string s=>some s.size
 | _=>none
def fZ (A:St) (d1:TypeDesc) (e:TypeId) (i:TypeInfo) (x:Value):Option (Nat×List Value) :=
 match d1 with
 | .int _=>match x,E.zero e with
  | .int _ n,some z=>if 0<=n/\n<=4294967296/\z.cells.size=i.size then some (n.toNat,zeros z.cells.toList n.toNat) else none
  | _,_=>none
 | _=>match dN x with
  | some n=>match cS A i.size n x with
   | some new=>some (n,new)
   | none=>none
  | none=>none
def gS (A:St) (b:Nat) (r:Row) (reach:Bool):T AObj×List Nat :=
 match A.g.get r.grp with
 | none=>if reach then (A.h,[b]) else (A.h.set b .dead,[])
 | some ms =>
  if reach then match ms with
   | m::_=>if Nat.beq m b then (A.h,ms) else (St.kill A.h b ms,[b])
   | []=>(A.h,[b])
  else (St.kill A.h A.next (b::ms),[])
def dB (cells:T Value) (size:Nat) (e:TypeId) (sz grp frz:Nat) (sb:Bool):Row :=
 { own:=true,size,cells,elem:=e,esz:=sz,opn:=true,grp,frz,sb }
def ay (A:St) (e:TypeId) (sz n:Nat) (cells:List Value):Value×St :=
 (.slice (some ⟨A.next,0,none⟩) n n,{ A with next:=A.next+1,h:=A.h.set A.next (.row (dB (T.ofList cells) cells.length e sz A.next 0 false)) })
def gU (A:St) (r:Row) (a:Addr) (e:TypeId) (sz len n:Nat) (old new:List Value):Value×St :=
 let reach:=Nat.beq (a.off+len * sz) r.size
 let m:=gS A a.block r reach
 let cells:=if reach&&Nat.beq a.off 0 then r.cells.setL r.size new else T.ofList (old++new)
 (.slice (some ⟨A.next,0,none⟩) (len+n) (len+n),
  { A with next:=A.next+1,h:=m.1.set A.next (.row (dB cells ((len+n) * sz) e sz r.grp (r.frz - a.off) r.sb)),g:=A.g.set r.grp (A.next::m.2) })
def bI (A:St) (e:TypeId) (i:TypeInfo) (base:Option Addr) (len n:Nat) (new:List Value):Option (Value×St) :=
 match base with
 | none=>match len with
  | 0=>some (ay A e i.size n new)
  | _+1=>none
 | some a=>match A.row? a.block with
  | some r =>
   if a.off+len * i.size<=r.size then
    match r.cells.range a.off (len * i.size) with
    | none=>none
    | some old=>match r.opn with
     | true=>if r.elem=e/\r.esz=i.size/\r.own=true/\r.frz<=a.off+len * i.size then some (gU A r a e i.size len n old new) else none
     | false=>some (ay A e i.size (len+n) (old++new))
   else none
  | none=>none
def b8 (A:St) (base:Option Addr) (sz len n cap:Nat) (new:List Value):Option (Value×St) :=
 match n with
 | 0=>some (.slice base len cap,A)
 | _+1=>match base with
  | none=>none
  | some a=>match A.storeN (aJ a (len * sz)) new with
   | some A'=>some (.slice base (len+n) cap,A')
   | none=>none
def app (A:St) (ts:List TypeId) (args:List Value):Option (Value×St) :=
 match ts,args with
 | [t,t1],[.slice base len cap,x] =>
  match E.und t,E.und t1 with
  | some (.slice e),some d1=>match E.inf e,E.zero e with
   | some i,some z=>match fZ E A d1 e i x with
    | some (n,new) =>
     if i.size≠0/\new.length=n * i.size/\(len+n) * i.bytes<=140737488355328/\len+n<=4611686018427387904/\z.cells.size=i.size/\new.all one=true then
      if len+n<=cap then b8 A base i.size len n cap new else bI A e i base len n new
     else none
    | none=>none
   | _,_=>none
  | _,_=>none
 | _,_=>none
def dO (A:St) (x:Value):Option (List UInt8) :=
 match x with
 | .string s=>some s.data.toList
 | .slice none _ _=>some []
 | .slice (some a) n _=>match A.loadN a n with
  | some vs=>vs.foldr (fun v acc=>match v,acc with | .int .u8 b,some l=>some (UInt8.ofNat b.toNat::l) | _,_=>none) (some [])
  | none=>none
 | _=>none
def mkStr (l:List UInt8):Value:=.string ⟨l.toArray⟩
def bJ (ts:List TypeId):Option TypeDesc:=match ts with
 | t::_=>E.und t
 | []=>none
def dC (A:St) (ts:List TypeId) (args:List Value):Option (Nx×St) :=
 match bJ E ts,args with
 | some (.slice _),[.slice _ n _]=>some (.val (goInt n),A)
 | some .string,[.string s]=>some (.val (goInt s.size),A)
 | some (.map _ _),[.map none]=>some (.val (goInt 0),A)
 | some (.map _ _),[.map (some r)]=>match A.h.get r with
  | some (.map es _)=>some (.val (goInt es.length),A)
  | _=>none
 | some (.array n _),[_]=>some (.val (goInt n),A)
 | some (.pointer arr),[_]=>match E.und arr with
  | some (.array n _)=>some (.val (goInt n),A)
  | _=>none
 | _,_=>none
def gV (A:St) (ts:List TypeId) (args:List Value):Option (Nx×St) :=
 match bJ E ts,args with
 | some (.slice _),[.slice none _ n]=>some (.val (goInt n),A)
 | some (.slice _),[.slice (some a) _ n]=>match A.row? a.block with
  | some r=>if r.opn then none else some (.val (goInt n),A)
  | none=>none
 | _,_=>none
def iY (A:St) (ts:List TypeId) (args:List Value):Option (Nx×St) :=
 match app E A ts args with
 | some (v,A')=>some (.val v,A')
 | none=>none
def kB (A:St) (ts:List TypeId) (args:List Value):Option (Nx×St) :=
 match bJ E ts,args with
 | some (.slice e),[.slice base dl _,src]=>match E.size e,dN src with
  | some sz,some sl=>match cS A sz (Nat.min sl dl) src with
   | some cs=>match base with
    | none=>some (.val (goInt (Nat.min sl dl)),A)
    | some a=>if cs.length=0 then some (.val (goInt (Nat.min sl dl)),A) else
     match A.storeN a cs with
     | some A'=>some (.val (goInt (Nat.min sl dl)),A')
     | none=>none
   | none=>none
  | _,_=>none
 | _,_=>none
def kC (A:St) (ts:List TypeId) (args:List Value):Option (Nx×St) :=
 match bJ E ts,args with
 | some (.map kt _),[.map (some r),k]=>match E.und kt,A.h.get r with
  | some kd,some (.map es c)=>if bW kd k then match bV k es 0 with
    | some (some (i,_))=>some (.val (.tuple #[]),A.setObj r (.map (es.eraseIdx i) c))
    | some none=>some (.val (.tuple #[]),A)
    | none=>none
   else none
  | _,_=>none
 | _,_=>none
def mf (A:St) (ts:List TypeId) (args:List Value):Option (Nx×St) :=
 match bJ E ts,args with
 | some (.slice e),[.slice (some a) n _]=>match E.zero e with
  | some z=>if n=0 then some (.val (.tuple #[]),A) else match A.storeN a (zeros z.cells.toList n) with
   | some A'=>some (.val (.tuple #[]),A')
   | none=>none
  | none=>none
 | some (.slice _),[.slice none _ _]=>some (.val (.tuple #[]),A)
 | _,_=>none
def iZ (A:St) (b:Builtin) (ts:List TypeId) (ty:TypeId) (args:List Value):Option (Nx×St) :=
 if args.all aH then
  match aR E.P (builtin b ts.toArray ty #[] args.toArray) with
  | some (.ok (.value v))=>if aH v then some (.val v,A) else none
  | _=>none
 else none
def mg (A:St) (args:List Value):Option (Nx×St) :=
 match args with
 | [.iface t v]=>some (.pan (.iface t v),A)
 | _=>none
def kD (A:St) (args:List Value):Option (Nx×St) :=
 match args with
 | [.slice none _ _]=>some (.val (.pointer none),A)
 | [.slice (some a) _ c]=>if c=0 then none else some (.val (.pointer (some a)),A)
 | _=>none
def qf (ts:List TypeId) (r:Row):Bool:=r.own&&!r.sb&&(match E.size r.elem with | some k=>Nat.beq k 1 | none=>false)&&(match bJ E ts with | some (.pointer u)=>sameLayout E.P E.P.depth r.elem u | _=>false)
def mh (A:St) (ts:List TypeId) (args:List Value):Option (Nx×St) :=
 match args with
 | [.pointer none,.int _ n]=>if n=0 then some (.val (.string .empty),A) else none
 | [.pointer (some a),.int _ n] =>
  if n=0 then some (.val (.string .empty),A) else
  if n < 0\/4294967296 < n then none else
  match A.row? a.block,a.spot with
  | some r,none =>
   if qf E ts r then
    match dO A (.slice (some a) n.toNat n.toNat) with
    | some l =>
     let A1:=A.alone a.block r
     some (.val (mkStr l),A1.setObj a.block (.row { r with frz:=max r.frz (a.off+n.toNat) }))
    | none=>none
   else none
  | _,_=>none
 | _=>none
def bK (A:St) (b:Builtin) (ts:List TypeId) (ty:TypeId) (args:List Value):Option (Nx×St) :=
 match b with
 | .len=>dC E A ts args
 | .cap=>gV E A ts args
 | .append=>iY E A ts args
 | .copy=>kB E A ts args
 | .delete=>kC E A ts args
 | .clear=>mf E A ts args
 | .min | .max=>iZ E A b ts ty args
 | .recover=>some (.recov,A)
 | .panic=>mg A args
 | .unsafeSliceData=>kD A args
 | .unsafeString=>match ts with
  | []=>none
  | _::_=>mh E A ts args
 | _=>none
def kE (A:St) (name:String) (args:List Value):Option (Value×St) :=
 if name = "internal/bytealg.IndexByteString" \/ name = "internal/bytealg.IndexByte" then
  match args with
  | [b,.int .u8 c]=>match dO A b with
   | some l=>some (goInt (match l.findIdx? (·==c.toNat.toUInt8) with | some i=>(i:Int) | none=>-1),A)
   | none=>none
  | _=>none
 else if name = "internal/abi.NoEscape" then
  match args with
  | [x]=>some (x,A)
  | _=>none
 else if name = "internal/bytealg.abigen_runtime_cmpstring" then
  match args with
  | [.string a,.string b]=>some (goInt (Extern.BytealgCompare.cmp a b),A)
  | _=>none
 else if name = "internal/bytealg.CountString" then
  match args with
  | [.string a,.int .u8 c]=>some (goInt (((a.data.toList.filter (·==c.toNat.toUInt8)).length:Nat)),A)
  | _=>none
 else none
def de (A:St) (f:FuncId) (args:List Value):Option (Nx×St) :=
 match E.fn.get f with
 | some fn=>match fn.body with
  | some _=>some (.enter f args,A)
  | none=>match kE A fn.name args with
   | some (v,A')=>some (.val v,A')
   | none=>none
 | none=>none
def fe (A:St) (recv:Value) (name:String) (args:List Value):Option (Nx×St) :=
 match recv with
 | .iface t v=>match E.inf t with
  | some i=>match i.methods.find? (·.name==name) with
   | some m=>if m.path.isEmpty then match m.func with
     | some (f,ptr)=>match E.und t,ptr with
      | some (.pointer _),true=>de E A f (v::args)
      | some (.pointer _),false=>none
      | some _,false=>de E A f (v::args)
      | _,_=>none
     | none=>none
    else none
   | none=>none
  | none=>none
 | .nilIface=>some (.pan (nilDeref E),A)
 | _=>none
def eD (A:St) (t:Target) (args:List Value):Option (Nx×St) :=
 match t with
 | .nil=>some (.pan (nilDeref E),A)
 | .fn (.func f) captured=>de E A f (args++captured.toList)
 | .fn (.method name) _=>match args with
  | recv::rest=>fe E A recv name rest
  | []=>none
 | .fn (.yield l) _=>some (.round l args,A)
 | .builtin b ts ty _=>bK E A b ts.toList ty args
 | _=>none
def dP (ρ:Operand->Value) (c:Call) (ty:TypeId):Option Deferred :=
 match c.callee with
 | .builtin b=>some { target:=.builtin b c.argTypes ty (c.args.map fun | .const _=>true | _=>false),args:=c.args.map ρ }
 | .invoke recv name=>some { target:=.fn (.method name) #[],args:=#[ρ recv]++c.args.map ρ }
 | .value f=>match ρ f with
  | .func fn first captured=>some { target:=.fn fn captured,args:=first++c.args.map ρ }
  | .nilFunc=>some { target:=.nil,args:=c.args.map ρ }
  | _=>none
def dD (o:Oper):Bool :=
 match o.op with
 | .binOp .. | .unOp .. | .convert .. | .index .. | .slice .. | .field .. | .build .. | .extract .. | .typeAssert .. | .makeInterface ..=>true
 | _=>false
def cT (A:St) (ρ:Operand->Value) (o:Oper):Option (Nx×St) :=
 if dD o&&(o.op.operands.toList.map ρ).all aH then
  match aR E.P (execOp ρ o) with
  | some (.ok (.value v))=>if aH v then some (.val v,A) else none
  | some (.error v)=>if aH v then some (.pan v,A) else none
  | _=>none
 else none
def lo:IntKind->Int
 | .i8=>-128 | .i16=>-32768 | .i32=>-2147483648 | .i64=>-9223372036854775808
 | _=>0
def hi:IntKind->Int
 | .i8=>127 | .i16=>32767 | .i32=>2147483647 | .i64=>9223372036854775807
 | .u8=>255 | .u16=>65535 | .u32=>4294967295 | .u64=>18446744073709551615
def aV (k:IntKind) (n:Int):Int:=if lo k<=n/\n<=hi k then n else k.wrap n
def cU (sl:List (List UInt8)) (op:BinOp) (x y:Value):Option Value :=
 match x,y with
 | .int k a,.int k' b=>if k=k' then match op with
   | .add=>some (.int k (aV k (a+b)))
   | .sub=>some (.int k (aV k (a - b)))
   | .mul=>some (.int k (aV k (a * b)))
   | .eql=>some (.bool (a==b))
   | .neq=>some (.bool (a != b))
   | .lss=>some (.bool (decide (a < b)))
   | .leq=>some (.bool (decide (a<=b)))
   | .gtr=>some (.bool (decide (a > b)))
   | .geq=>some (.bool (decide (a>=b)))
   | _=>none
  else none
 | .string a,.string b=>match op with
   | .eql=>some (.bool (a.data.toList==b.data.toList))
   | .neq=>some (.bool !(a.data.toList==b.data.toList))
   | _=>none
 | .float .f64 0,.string b=>match op with
   | .eql=>if sl.contains b.data.toList then some (.bool false) else none
   | .neq=>if sl.contains b.data.toList then some (.bool true) else none
   | _=>none
 | .string b,.float .f64 0=>match op with
   | .eql=>if sl.contains b.data.toList then some (.bool false) else none
   | .neq=>if sl.contains b.data.toList then some (.bool true) else none
   | _=>none
 | _,_=>none
def gW (A:St) (ρ:Operand->Value) (c a b:Operand):Option (Nx×St) :=
 match ρ c with
 | .bool t=>some (.val (if t then ρ a else ρ b),A)
 | _=>none
def kG (A:St) (_ρ:Operand->Value) (t:TypeId):Option (Nx×St) :=
 match E.zero t with
 | some z=>let (a,A'):=A.newRow t z.cells.toList;some (.val (.pointer (some a)),A')
 | none=>none
def kH (A:St) (ρ:Operand->Value) (t:TypeId) (x:Operand):Option (Nx×St) :=
 let (a,A'):=A.newRow t (ρ x).cells.toList;some (.val (.pointer (some a)),A')
def ed (A:St) (ρ:Operand->Value) (t:TypeId) (parts:Array (Nat×Operand)):Option (Nx×St) :=
 match E.und t,E.zero t with
 | some (.struct fs),some z =>
  match fs.toList.mapM (fun f=>(E.size f.type).map fun s=>(f.offset,s)) with
  | some places=>match Instr.fill (places.toArray[·]?) z.cells (parts.toList.map fun p=>(p.1,ρ p.2)) with
   | some cells=>some (.val (.agg cells),A)
   | none=>none
  | none=>none
 | some (.array _ e),some z=>match E.size e with
  | some s=>match Instr.fill (fun i=>some (i * s,s)) z.cells (parts.toList.map fun p=>(p.1,ρ p.2)) with
   | some cells=>some (.val (.agg cells),A)
   | none=>none
  | none=>none
 | _,_=>none
def ib (A:St) (ρ:Operand->Value) (t:TypeId) (len:Nat) (parts:Array (Nat×Operand)):Option (Nx×St) :=
 match E.und t with
 | some (.slice e)=>match E.size e,E.zero e with
  | some s,some z =>
   if s=0\/len * s > 16777216\/z.cells.size≠s then none else
   match Instr.fill (fun i=>some (i * s,s)) (zeros z.cells.toList len).toArray (parts.toList.map fun p=>(p.1,ρ p.2)) with
   | some cells=>let (a,A'):=A.newRow e cells.toList;some (.val (.slice (some a) len len),A')
   | none=>none
  | _,_=>none
 | _=>none
def gX (A:St) (ρ:Operand->Value) (t:TypeId) (a:Operand):Option (Nx×St) :=
 match ρ a with
 | .pointer (some ad)=>match dA E A t ad with
  | some v=>some (.val v,A)
  | none=>none
 | _=>none
def kI (A:St) (ρ:Operand->Value) (t:TypeId) (a x:Operand):Option (Nx×St) :=
 match ρ a with
 | .pointer (some ad)=>match jz E A t ad (ρ x) with
  | some A'=>some (.skip,A')
  | none=>none
 | _=>none
def ff (A:St) (ρ:Operand->Value) (x:Operand):Option (Nx×St) :=
 match ρ x with
 | .pointer none | .nilIface | .nilFunc=>some (.pan (nilDeref E),A)
 | .func (.func _) _ _=>some (.val (ρ x),A)
 | .func (.yield _) _ _=>some (.val (ρ x),A)
 | .func _ _ _=>none
 | v=>some (.val v,A)
def dE (A:St) (ρ:Operand->Value) (o:Oper) (op:BinOp) (t:TypeId) (x y:Operand):Option (Nx×St) :=
 match cU E.sl op (ρ x) (ρ y) with
 | some v=>some (.val v,A)
 | none =>
 match cT E A ρ o with
 | some r=>some r
 | none=>match op with
  | .eql=>match (E.und t).bind fun d=>iX E d (ρ x) (ρ y) with
   | some b=>some (.val (.bool b),A)
   | none=>none
  | .neq=>match (E.und t).bind fun d=>iX E d (ρ x) (ρ y) with
   | some b=>some (.val (.bool (!b)),A)
   | none=>none
  | _=>none
def df (A:St) (ρ:Operand->Value) (o:Oper) (src dst:TypeId) (x:Operand):Option (Nx×St) :=
 match E.und src,E.und dst,ρ x with
 | some (.slice e),some .string,x=>match E.und e with
  | some (.int .u8)=>match dO A x with
   | some l=>some (.val (mkStr l),A)
   | none=>none
  | _=>none
 | some .string,some (.slice e),.string s=>match E.und e with
  | some (.int .u8) =>
   let b:=A.next
   some (.val (.slice (some ⟨b,0,none⟩) s.size s.size),
    { A with next:=A.next+1,h:=A.h.set b (.row { own:=true,size:=s.size,cells:=T.ofList (s.data.toList.map fun c=>.int .u8 c.toNat),elem:=e,esz:=1,opn:=true,grp:=b,frz:=0,sb:=true }) })
  | some (.int .i32) =>
   let b:=A.next
   let vs:=(Conv.runesFrom s s.size 0 #[]).toList
   some (.val (.slice (some ⟨b,0,none⟩) vs.length vs.length),
    { A with next:=A.next+1,h:=A.h.set b (.row { own:=true,size:=vs.length,cells:=T.ofList vs,elem:=e,esz:=1,opn:=true,grp:=b,frz:=0,sb:=false }) })
  | _=>none
 | some .unsafePointer,some (.pointer u),.pointer (some a)=>match A.row? a.block with
  | some r=>if !r.opn&&(E.size u).isSome&&liesAt E.P E.P.depth r.elem (r.size / E.P.cellsOf r.elem) a.off u 1 then some (.val (.pointer (some a)),A) else none
  | none=>none
 | some (.pointer t),some .unsafePointer,.pointer (some a)=>match A.row? a.block,E.size t with
  | some r,some n=>if !r.opn&&n != 0&&Nat.blt a.off r.size then some (.val (.pointer (some a)),A) else none
  | _,_=>none
 | _,_,_=>cT E A ρ o
def ic (A:St) (ρ:Operand->Value) (t:TypeId) (x:Operand):Option (Nx×St) :=
 match E.und t with
 | some (.interface _)=>none
 | some _=>some (.val (.iface t (ρ x)),A)
 | none=>none
def kJ (A:St) (_ρ:Operand->Value) (r:Option Operand):Option (Nx×St) :=
 match r with
 | none=>let (b,A'):=A.new (.map [] 0);some (.val (.map (some b)),A')
 | some _=>none
def kK (A:St) (ρ:Operand->Value) (t:TypeId) (l c:Operand):Option (Nx×St) :=
 match E.und t,ρ l,ρ c with
 | some (.slice e),.int _ ln,.int _ cp=>match E.inf e with
  | some i=>match E.zero e with
   | some z =>
    if 0<=ln/\ln<=cp/\cp * i.bytes<=140737488355328/\cp<=4294967296/\i.size≠0/\z.cells.size=i.size then
     let (a,A'):=A.newRow e (zeros z.cells.toList cp.toNat)
     some (.val (.slice (some a) ln.toNat cp.toNat),A')
    else none
   | none=>none
  | none=>none
 | _,_,_=>none
def gY (A:St) (ρ:Operand->Value) (t:TypeId) (x:Operand) (lo hi mx:Option Operand):Option (Nx×St) :=
 match ec E A t (ρ x) (lo.map ρ) (hi.map ρ) (mx.map ρ) with
 | some v=>some (.val v,A)
 | none=>none
def ie (A:St) (ρ:Operand->Value) (s:TypeId) (x:Operand) (f:Nat):Option (Nx×St) :=
 match E.und s,ρ x with
 | some (.struct fs),.pointer (some a)=>match fs[f]? with
  | some fd=>match E.size fd.type with
   | some n=>if n=0 then none else some (.val (.pointer (some (aJ a fd.offset))),A)
   | none=>none
  | none=>none
 | _,_=>none
def gZ (A:St) (ρ:Operand->Value) (t:TypeId) (x:Operand) (f:Nat):Option (Nx×St) :=
 match E.und t,ρ x with
 | some (.struct fs),.agg cs=>match fs[f]? with
  | some fd=>match gR E fd.type cs fd.offset with
   | some v=>some (.val v,A)
   | none=>none
  | none=>none
 | _,_=>none
def gf (A:St) (ρ:Operand->Value) (t:TypeId) (x ix:Operand):Option (Nx×St) :=
 match E.und t,ρ x,ρ ix with
 | some (.slice e),.slice (some a) len _,.int _ i=>match E.size e with
  | some s=>if 0<=i/\i < (len:Int)/\s≠0 then some (.val (.pointer (some (aJ a (i.toNat * s)))),A) else none
  | none=>none
 | some (.array len e),.pointer (some a),.int _ i=>match E.size e with
  | some s=>if 0<=i/\i < (len:Int)/\s≠0 then some (.val (.pointer (some (aJ a (i.toNat * s)))),A) else none
  | none=>none
 | _,_,_=>none
def ig (A:St) (ρ:Operand->Value) (t:TypeId) (x ix:Operand):Option (Nx×St) :=
 match E.und t,ρ x,ρ ix with
 | some .string,.string s,.int _ i=>if 0<=i then match s.data.toList[i.toNat]? with
   | some b=>some (.val (.int .u8 b.toNat),A)
   | none=>none
  else none
 | some (.array len e),.agg cs,.int _ i=>match E.size e with
  | some s=>if 0<=i/\i < (len:Int) then match gR E e cs (i.toNat * s) with
    | some v=>some (.val v,A)
    | none=>none
   else none
  | none=>none
 | _,_,_=>none
def ij (A:St) (ρ:Operand->Value) (t:TypeId) (m ix:Operand) (ok:Bool):Option (Nx×St) :=
 match E.und t with
 | some (.map kt et)=>match E.und kt,E.zero et with
  | some kd,some z =>
   if bW kd (ρ ix) then
    let es:=match ρ m with
     | .map none=>some []
     | .map (some r)=>match A.h.get r with
      | some (.map es _)=>some es
      | _=>none
     | _=>none
    match es with
    | some es=>match bV (ρ ix) es 0 with
     | some (some (_,v))=>some (.val (if ok then .tuple #[v,.bool true] else v),A)
     | some none=>some (.val (if ok then .tuple #[z,.bool false] else z),A)
     | none=>none
    | none=>none
   else none
  | _,_=>none
 | _=>none
def ik (A:St) (ρ:Operand->Value) (t:TypeId) (m k x:Operand):Option (Nx×St) :=
 match E.und t,ρ m with
 | some (.map kt _),.map (some r)=>match E.und kt,A.h.get r with
  | some kd,some (.map es c)=>if bW kd (ρ k) then match me es c (ρ k) (ρ x) with
    | some (es',c')=>some (.skip,A.setObj r (.map es' c'))
    | none=>none
   else none
  | _,_=>none
 | _,_=>none
def kL (A:St) (ρ:Operand->Value) (t:TypeId) (m k:Operand):Option (Nx×St) :=
 match E.und t,ρ m with
 | some (.map kt et),.map (some r)=>match E.und kt,A.h.get r,E.zero et with
  | some kd,some (.map es c),some z=>if bW kd (ρ k) then match bV (ρ k) es 0 with
    | some (some (i,v))=>match es[i]? with
     | some e=>some (.val (.tuple #[v,goInt e.born]),A)
     | none=>none
    | some none=>some (.val (.tuple #[z,goInt c]),A.setObj r (.map (es++[{ key:=ρ k,val:=z,born:=c }]) (c+1)))
    | none=>none
   else none
  | _,_,_=>none
 | _,_=>none
def kM (A:St) (ρ:Operand->Value) (m s x:Operand):Option (Nx×St) :=
 match ρ m,ρ s with
 | .map (some r),.int _ n=>match A.h.get r with
  | some (.map es c)=>match es.findIdx? (fun e=>(e.born:Int)==n) with
   | some i=>some (.skip,A.setObj r (.map (es.modify i fun e=>{ e with val:=ρ x }) c))
   | none=>none
  | _=>none
 | _,_=>none
def im (A:St) (ρ:Operand->Value) (t:TypeId) (x:Operand):Option (Nx×St) :=
 match E.und t,ρ x with
 | some .string,.string s=>let (b,A'):=A.new (.siter s 0);some (.val (.pointer (some ⟨b,0,none⟩)),A')
 | some (.map _ _),.map none=>let (b,A'):=A.new (.miter none 0 [] 0);some (.val (.pointer (some ⟨b,0,none⟩)),A')
 | some (.map _ _),.map (some m)=>match A.h.get m with
  | some (.map _ c)=>let (b,A'):=A.new (.miter (some m) c [] c);some (.val (.pointer (some ⟨b,0,none⟩)),A')
  | _=>none
 | _,_=>none
def kN (A:St) (ρ:Operand->Value) (it:Operand) (isStr:Bool):Option (Nx×St) :=
 match ρ it with
 | .pointer (some ⟨b,0,none⟩)=>match A.h.get b,isStr with
  | some (.siter s pos),true =>
   if pos < s.size then
    let d:=Utf8.decode s pos
    some (.val (.tuple #[.bool true,goInt pos,.int .i32 d.1]),A.setObj b (.siter s (pos+d.2)))
   else some (.val (.tuple #[.bool false]),A)
  | some (.miter none _ _ _),false=>some (.val (.tuple #[.bool false]),A)
  | some (.miter (some m) since seen stepped),false=>match A.h.get m with
   | some (.map es c) =>
    if c=since/\c=stepped/\es.all (fun e=>Nat.blt e.born c) then
     match es.filter (fun e=>!seen.contains e.born) with
     | []=>some (.val (.tuple #[.bool false]),A)
     | [e]=>some (.val (.tuple #[.bool true,e.key,e.val]),A.setObj b (.miter (some m) since (seen++[e.born]) c))
     | _=>none
    else none
   | _=>none
  | _,_=>none
 | _=>none
def kO (st:Nat):List MapEntry->Option MapEntry
 | []=>none
 | e::es=>if Nat.beq e.born st then some e else kO st es
def mi (A:St) (ρ:Operand->Value) (it:Operand):Option (Nx×St) :=
 match ρ it with
 | .pointer (some ⟨b,0,none⟩)=>match A.h.get b with
  | some (.miter (some m) _ seen stepped)=>match A.h.get m with
   | some (.map es c)=>match seen.getLast? with
    | some st=>if c=stepped then match kO st es with
      | some e=>some (.val (.tuple #[e.key,e.val]),A)
      | none=>none
     else none
    | none=>none
   | _=>none
  | _=>none
 | _=>none
def iq (A:St) (ρ:Operand->Value) (x:Operand) (t:TypeId) (ok:Bool):Option (Nx×St) :=
 match E.und t,ρ x,E.zero t with
 | some (.interface _want),.nilIface,some z=>if ok then some (.val (.tuple #[z,.bool false]),A) else none
 | some (.interface want),.iface ty v,some z=>match E.inf ty with
  | some i=>match Instr.missingMethod want i.methods with
   | none=>some (.val (if ok then .tuple #[.iface ty v,.bool true] else .iface ty v),A)
   | some _=>if ok then some (.val (.tuple #[z,.bool false]),A) else none
  | none=>none
 | some _d,.nilIface,some z=>if ok then some (.val (.tuple #[z,.bool false]),A) else none
 | some _d,.iface ty v,some z=>if ty=t then some (.val (if ok then .tuple #[v,.bool true] else v),A) else if ok then some (.val (.tuple #[z,.bool false]),A) else none
 | _,_,_=>none
def iu (A:St) (ρ:Operand->Value) (t:Operand) (i:Nat):Option (Nx×St) :=
 match ρ t with
 | .tuple vs=>match vs[i]? with
  | some v=>some (.val v,A)
  | none=>none
 | _=>none
def eE (A:St) (ρ:Operand->Value) (o:Oper) (c:Call):Option (Nx×St) :=
 match dP ρ c o.type with
 | some d=>eD E A d.target d.args.toList
 | none=>none
def mj (A:St) (ρ:Operand->Value) (o:Oper) (c:Call):Option (Nx×St) :=
 match dP ρ c o.type with
 | some d=>some (.dfr d,A)
 | none=>none
def kP (A:St) (ρ:Operand->Value) (fn:Fn) (first captured:Array Operand):Option (Nx×St) :=
 match fn with
 | .func _ | .method _=>some (.val (.func fn (first.map ρ) (captured.map ρ)),A)
 | _=>none
def mn (A:St) (ρ:Operand->Value) (x:Operand):Option (Nx×St) :=
 match ρ x with
 | .iface t v=>some (.pan (.iface t v),A)
 | _=>none
def opD (A:St) (ρ:Operand->Value) (o:Oper):Option (Nx×St) :=
 match o.op with
 | .move x | .assign x=>some (.val (ρ x),A)
 | .pick c a b=>gW A ρ c a b
 | .alloc t=>kG E A ρ t
 | .box t x=>kH A ρ t x
 | .build t parts=>ed E A ρ t parts
 | .buildSlice t len parts=>ib E A ρ t len parts
 | .load t a=>gX E A ρ t a
 | .store t a x=>kI E A ρ t a x
 | .nilCheck x=>ff E A ρ x
 | .binOp op t x y _=>dE E A ρ o op t x y
 | .unOp ..=>cT E A ρ o
 | .convert src dst x=>df E A ρ o src dst x
 | .makeInterface t x=>ic E A ρ t x
 | .makeFunc fn first captured=>kP A ρ fn first captured
 | .makeMap _t r=>kJ A ρ r
 | .makeSlice t l c=>kK E A ρ t l c
 | .slice t x lo hi mx=>gY E A ρ t x lo hi mx
 | .fieldAddr s x f=>ie E A ρ s x f
 | .field t x f=>gZ E A ρ t x f
 | .indexAddr t x ix=>gf E A ρ t x ix
 | .index t x ix=>ig E A ρ t x ix
 | .lookup t m ix ok=>ij E A ρ t m ix ok
 | .mapUpdate t m k x | .insert t m k x=>ik E A ρ t m k x
 | .mapEntry t m k=>kL E A ρ t m k
 | .entryStore _ m s x=>kM A ρ m s x
 | .range t x=>im E A ρ t x
 | .next it isStr=>kN A ρ it isStr
 | .entry it=>mi A ρ it
 | .typeAssert x _ t ok=>iq E A ρ x t ok
 | .extract t i=>iu A ρ t i
 | .call c=>eE E A ρ o c
 | .defer c=>mj A ρ o c
 | .panic x=>mn A ρ x
 | _=>none
def dh (x:Operand):Bool:=match x with
 | .const v=>aH v
 | .global g=>Nat.blt g E.ng
 | _=>true
def cD (o:Oper):Bool:=o.op.operands.toList.all fun x=>dh E x
def opX (A:St) (ρ:Operand->Value) (o:Oper):Option (Nx×St):=if cD E o then opD E A ρ o else none
def aD (fr:Fr):Operand->Value
 | .tmp t=>(fr.tm.get t).getD undef
 | .const v=>v
 | .global g=>.pointer (some ⟨g,0,none⟩)
 | .func f=>.func (.func f) #[] #[]
def Fr.put (nt:Nat) (fr:Fr) (d:Option Tmp) (v:Value):Option Fr :=
 match d with
 | none=>some fr
 | some d=>match Nat.blt d nt with
  | true=>some { fr with tm:=fr.tm.set d v }
  | false=>none
inductive Res where
 | ret (v:Value)
 | pan (ch:List PE)
structure Rec where
 code:Nat->Code->Fr->St->Option (Out×Fr×St)
 callR:FuncId->List Value->St->Option (Res×St)
 callD:FuncId->List Value->Mode->St->Option (Mode×St)
def Rec.call (r:Rec) (f:FuncId) (args:List Value) (A:St):Option (Value×St) :=
 match r.callR f args A with
 | some (.ret v,A')=>some (v,A')
 | _=>none
def Rec.callP (r:Rec) (f:FuncId) (args:List Value) (A:St):Option (List PE×St) :=
 match r.callR f args A with
 | some (.pan ch,A')=>some (ch,A')
 | _=>none
def az (ops:Array Oper) (o:Oper) (fr:Fr):Bool :=
 match o.guard with
 | none=>true
 | some (j,want)=>match ((ops[j]?).bind (·.dst)).bind (fr.tm.get ·) with
  | some (.bool b)=>b==want
  | _=>false
def cV (nt:Nat) (fr:Fr) (d:Option Tmp) (v:Value) (A:St):Option (Fr×St) :=
 match Fr.put nt fr d v with
 | some fr'=>some (fr',A)
 | none=>none
def di (rec_:Rec) (nt:Nat) (fr:Fr) (d:Option Tmp) (f:FuncId) (args:List Value) (A:St):Option (Fr×St) :=
 match rec_.call f args A with
 | some (v,A2)=>cV nt fr d v A2
 | none=>none
def cE (rec_:Rec) (nt:Nat) (fr:Fr) (d:Option Tmp) (nx:Nx) (A:St):Option (Fr×St) :=
 match nx with
 | .val v=>cV nt fr d v A
 | .skip=>cV nt fr d undef A
 | .enter f args=>di rec_ nt fr d f args A
 | _=>none
def bL (rec_:Rec) (nt:Nat) (o:Oper) (fr:Fr) (A:St):Option (Fr×St) :=
 match opX E A (aD fr) o with
 | none=>none
 | some (nx,A1)=>cE rec_ nt fr o.dst nx A1
def gg (nt:Nat) (o:Oper) (fr:Fr) (A:St):Option (Fr×St) :=
 match opX E A (aD fr) o with
 | some (.dfr d,A1)=>match d.target with
  | .fn (.func g) cap=>cV nt { fr with marks:=.fn g cap.toList d.args.toList::fr.marks } o.dst undef A1
  | _=>none
 | _=>none
def dF (rec_:Rec) (nt:Nat) (o:Oper) (fr:Fr) (A:St):Option (Fr×St) :=
 match bL E rec_ nt o fr A with
 | some r=>some r
 | none=>gg E nt o fr A
def iy (rec_:Rec) (o:Oper) (fr:Fr) (A:St):Option (List PE×St) :=
 match opX E A (aD fr) o with
 | some (.pan v,A1)=>some ([⟨v,false⟩],A1)
 | some (.enter f args,A1)=>rec_.callP f args A1
 | _=>none
def dj (rec_:Rec) (nt:Nat) (ops:Array Oper):List Oper->Fr->St->Option (Fr×St)
 | [],fr,A=>some (fr,A)
 | o::os,fr,A =>
   if az ops o fr then
    match dF E rec_ nt o fr A with
    | some (fr1,A1)=>dj rec_ nt ops os fr1 A1
    | none=>none
   else match Fr.put nt fr o.dst undef with
    | some fr1=>dj rec_ nt ops os fr1 A
    | none=>none
def gi (rec_:Rec) (nt:Nat) (ops:Array Oper):List Oper->Fr->St->Option (List PE×Fr×St)
 | [],_,_=>none
 | o :: os,fr,A =>
   if az ops o fr then
    match dF E rec_ nt o fr A with
    | some (fr1,A1)=>gi rec_ nt ops os fr1 A1
    | none=>match iy E rec_ o fr A with
     | some (ch,A1)=>some (ch,fr,A1)
     | none=>none
   else match Fr.put nt fr o.dst undef with
    | some fr1=>gi rec_ nt ops os fr1 A
    | none=>none
inductive OpR where
 | ok (fr:Fr) (A:St)
 | pan (ch:List PE) (A:St)
def okR:Option (Fr×St)->Option OpR
 | some (fr,A)=>some (.ok fr A)
 | none=>none
def opR (rec_:Rec) (nt:Nat) (o:Oper) (fr:Fr) (A:St):Option OpR :=
 match opX E A (aD fr) o with
 | none=>none
 | some (nx,A1)=>match nx with
  | .val v=>okR (cV nt fr o.dst v A1)
  | .skip=>okR (cV nt fr o.dst undef A1)
  | .enter f args=>match rec_.callR f args A1 with
   | some (.ret v,A2)=>okR (cV nt fr o.dst v A2)
   | some (.pan ch,A2)=>some (.pan ch A2)
   | none=>none
  | .pan v=>some (.pan [⟨v,false⟩] A1)
  | .dfr d=>match d.target with
   | .fn (.func g) cap=>okR (cV nt { fr with marks:=.fn g cap.toList d.args.toList::fr.marks } o.dst undef A1)
   | _=>none
  | _=>none
def bk (rec_:Rec) (nt:Nat) (ops:Array Oper):List Oper->Fr->St->Option (Out×Fr×St)
 | [],fr,A=>some (.norm,fr,A)
 | o::os,fr,A =>
   if az ops o fr then
    match opR E rec_ nt o fr A with
    | some (.ok fr1 A1)=>bk rec_ nt ops os fr1 A1
    | some (.pan ch A1)=>some (.pan ch,fr,A1)
    | none=>none
   else match Fr.put nt fr o.dst undef with
    | some fr1=>bk rec_ nt ops os fr1 A
    | none=>none
def cF (o:Oper):Bool :=
 match o.op with
 | .move _ | .assign _ | .pick .. | .build .. | .load .. | .nilCheck _ | .binOp .. | .unOp .. | .makeInterface .. | .makeFunc .. | .slice .. | .fieldAddr .. | .field ..
 | .indexAddr .. | .index .. | .lookup .. | .typeAssert .. | .extract ..=>true
 | .convert _ d _=>match E.und d with
  | some (.slice _)=>false
  | some _=>true
  | none=>false
 | .call { callee:=.builtin b,.. }=>match b with
  | .len | .cap | .min | .max | .unsafeSliceData=>true
  | _=>false
 | _=>false
def bP (o:Oper):Bool :=
 match o.op with
 | .alloc _ | .box .. | .buildSlice .. | .makeMap .. | .makeSlice ..=>true
 | _=>false
def looks (ops:Array Oper) (o:Oper):List Tmp :=
 (o.op.operands.toList.filterMap fun x=>match x with | .tmp t=>some t | _=>none) ++
 (match o.guard with
  | some (j,_)=>match (ops[j]?).bind (·.dst) with
    | some t=>[t]
    | none=>[]
  | none=>[])
structure Brief where
 dst:Option Tmp
 see:List Tmp
 eff:Bool
 alc:Bool
 bef:Nat
def kQ (d:Option Tmp) (l:List Tmp):Bool:=match d with
 | some t=>l.any (Nat.beq t)
 | none=>false
def mo (a b:Option Tmp):Bool:=match a,b with
 | some s,some t=>Nat.beq s t
 | _,_=>false
def ee (i:Nat) (a b:Brief):Bool :=
 !mo a.dst b.dst&&(b.bef.testBit i||(!kQ a.dst b.see&&!kQ b.dst a.see&&!((a.eff||a.alc)&&b.eff)))
def kR:Nat->List Brief->Bool
 | _,[]=>true
 | i,a::l=>l.all (ee i a)&&kR (i+1) l
def ef (ops:Array Oper):Bool :=
 ops.toList.zipIdx.all fun (o,i)=>o.after.toList.all fun e=>!Region.binds .any e||Nat.blt e.on i
def mq (ops:Array Oper):List Brief :=
 (ops.toList.zip (Region.before ops).toList).map fun (o,b)=>{ dst:=o.dst,see:=looks ops o,eff:=!cF E o&&!bP o,alc:=bP o,bef:=b }
def bn (ops:Array Oper):Bool:=ef ops&&kR 0 (mq E ops)
def veq:Nat->Value->Value->Bool
 | _,.bool a,.bool b=>a==b
 | _,.int j a,.int k b=>decide (j=k)&&decide (a=b)
 | _,.string a,.string b=>decide (a.data.toList=b.data.toList)
 | _,.pointer none,.pointer none | _,.map none,.map none | _,.nilFunc,.nilFunc | _,.nilIface,.nilIface=>true
 | _,.pointer (some a),.pointer (some b)=>decide (a=b)
 | _,.map (some a),.map (some b)=>decide (a=b)
 | _,.slice none l c,.slice none m d=>decide (l=m)&&decide (c=d)
 | _,.slice (some a) l c,.slice (some b) m d=>decide (a=b)&&decide (l=m)&&decide (c=d)
 | n+1,.iface t v,.iface u w=>decide (t=u)&&veq n v w
 | n+1,.agg a,.agg b=>a.size==b.size&&(a.toList.zip b.toList).all fun p=>veq n p.1 p.2
 | n+1,.tuple a,.tuple b=>a.size==b.size&&(a.toList.zip b.toList).all fun p=>veq n p.1 p.2
 | n+1,.func f a c,.func g b d=>decide (f=g)&&(a.size==b.size&&(a.toList.zip b.toList).all fun p=>veq n p.1 p.2)&&(c.size==d.size&&(c.toList.zip d.toList).all fun p=>veq n p.1 p.2)
 | _,_,_=>false
structure Ent where
 o:Oper
 fr:Fr
 v:Value
 kind:Nat
 bef:Nat
def sameAt (e:Ent) (H:St):Bool :=
 match opX E H (aD e.fr) e.o with
 | some (.val v,_)=>veq 40 v e.v
 | _=>false
def allowed (i:Nat) (bef:Nat) (befs:List Nat) (ks:List Nat) (k:Nat):Bool :=
 ks.all fun j=>if Nat.blt j k then !((befs.getD j 0).testBit i) else !bef.testBit j
def fg (befs:List Nat) (ks:List Nat) (Hs:List (Nat×St)) (e:Ent) (i:Nat):Bool :=
 match e.kind with
 | 1=>Hs.all fun p=>!allowed i e.bef befs ks p.1||sameAt E e p.2
 | _=>true
def eF (befs:List Nat) (ks:List Nat) (Hs:List (Nat×St)):List Ent->Nat->Bool
 | [],_=>true
 | e::es,i=>fg E befs ks Hs e i&&eF befs ks Hs es (i+1)
def mw (fr:Fr) (d:Option Tmp):Value:=match d with
 | some d=>(fr.tm.get d).getD undef
 | none=>undef
def bA (rec_:Rec) (nt:Nat) (ops:Array Oper) (befs:List Nat):List (Oper×Nat)->Nat->Nat->Fr->St->List Ent->List (Nat×St)->List Nat->Option (Fr×St)
 | [],_,_,fr,A,log,Hs,ks=>if eF E befs ks Hs log.reverse 0 then some (fr,A) else none
 | (o,b)::os,i,rid,fr,A,log,Hs,ks =>
  if az ops o fr then
   if cF E o then
    match opX E A (aD fr) o with
    | some (.val v,_)=>match Fr.put nt fr o.dst v with
     | some fr1=>bA rec_ nt ops befs os (i+1) (rid+1) fr1 A ({ o,fr,v,kind:=1,bef:=b }::log) Hs ks
     | none=>none
    | _=>none
   else if bP o then
    match opX E { A with next:=rid } (aD fr) o with
    | some (.val v,A1)=>match Fr.put nt fr o.dst v with
     | some fr1=>bA rec_ nt ops befs os (i+1) (rid+1) fr1 { A1 with next:=A.next } ({ o,fr,v,kind:=3,bef:=b }::log) Hs ks
     | none=>none
    | _=>none
   else
    match bL E rec_ nt o fr A with
    | some (fr1,A1)=>bA rec_ nt ops befs os (i+1) (rid+1) fr1 A1 ({ o,fr,v:=mw fr1 o.dst,kind:=2,bef:=b }::log) ((i+1,A1)::Hs) (i::ks)
    | none=>none
  else match Fr.put nt fr o.dst undef with
   | some fr1=>bA rec_ nt ops befs os (i+1) (rid+1) fr1 A ({ o,fr,v:=undef,kind:=0,bef:=b }::log) Hs ks
   | none=>none
def au:List Nat->Nat->Nat
 | [],_=>0
 | x::l,i=>if Nat.beq x i then 0 else au l i+1
def eG (ι:Nat->Nat) (o:Oper):Oper:={ o with after:=o.after.map fun e=>{ e with on:=ι e.on },guard:=o.guard.map fun g=>(ι g.1,g.2) }
def cG (ops:Array Oper) (π:List Nat):Array Oper:=((List.range ops.size).map fun p=>eG (au π) (ops.getD (π.getD p 0) default)).toArray
def iz (ops:Array Oper) (π:List Nat):Bool :=
 (List.range ops.size).all (fun p=>Nat.blt (π.getD p 0) ops.size&&Nat.beq (au π (π.getD p 0)) p) &&
 (List.range ops.size).all (fun i=>Nat.blt (au π i) ops.size&&Nat.beq (π.getD (au π i) 0) i) &&
 ops.toList.all (fun o=>(match o.guard with | some (j,_)=>Nat.blt j ops.size | none=>true)&&o.after.toList.all fun e=>Nat.blt e.on ops.size)
def kS (ops:Array Oper) (done:List Nat) (all:Bool):List Nat->Option Nat
 | []=>none
 | i::l=>match ops[i]? with
  | some o=>if (all||!bP o)&&(o.after.toList.all fun e=>!Region.binds .any e||done.any (Nat.beq e.on)) then some i else kS ops done all l
  | none=>kS ops done all l
def my (ops:Array Oper):Nat->List Nat->List Nat->List Nat
 | 0,_,done=>done.reverse
 | n+1,rem,done=>match (match kS ops done false rem with | some i=>some i | none=>kS ops done true rem) with
  | some i=>my ops n (rem.filter fun j=>!Nat.beq i j) (i::done)
  | none=>done.reverse
def jA (ops:Array Oper):Array Oper :=
 if bn E ops then ops else
  let π:=my ops ops.size (List.range ops.size) []
  if iz ops π then cG ops π else ops
def gj (rec_:Rec) (nt:Nat) (ops:Array Oper) (fr:Fr) (A:St):Option (Fr×St) :=
 if bn E ops then bA E rec_ nt ops (Region.before ops).toList (ops.toList.zip (Region.before ops).toList) 0 A.next fr { A with next:=A.next+ops.size } [] [(0,{ A with next:=A.next+ops.size })] [] else none
def eh (rec_:Rec) (nt:Nat) (ops:Array Oper) (fr:Fr) (A:St):Option (Fr×St):=gj E rec_ nt (jA E ops) fr A
def ei (fn:Func) (fr:Fr) (A:St):Option Value :=
 match fn.results.toList.mapM (fun r=>match r with
  | .tmp t=>some ((fr.tm.get t).getD undef)
  | .cell a t=>match (fr.tm.get a).getD undef with
   | .pointer (some ad)=>dA E A t ad
   | _=>none) with
 | some [v]=>some v
 | some vs=>some (.tuple vs.toArray)
 | none=>none
def fh (rec_:Rec) (f:Operand) (fr:Fr) (A:St):Option (Out×Fr×St) :=
 let m:=A.next
 let l:=A.next+1
 let A1:St:={ A with next:=A.next+2,h:=(A.h.set m .defd).set l (.loop { state:=.ready,pending:=none }) }
 if dh E f then
 match dP (aD fr) { callee:=.value f,args:=#[.const (.func (.yield l) #[] #[])],argTypes:=#[] } 0 with
 | none=>none
 | some d=>match eD E A1 d.target d.args.toList with
  | some (.enter g args,A2)=>match rec_.call g args A2 with
   | some (_,A3)=>match A3.h.get l with
    | some (.loop { state:=.ready,pending:=none })=>some (.norm,{ fr with marks:=.mark m::fr.marks },A3.setObj l (.loop { state:=.exhausted,pending:=none }))
    | _=>none
   | none=>none
  | _=>none
 else none
def labelIn:Code->Nat->Option Code
 | .seq a b,l=>match labelIn a l with
  | some rest=>some (.seq rest b)
  | none=>labelIn b l
 | .label l',l=>if Nat.beq l' l then some .skip else none
 | _,_=>none
def bp (rec_:Rec) (nt:Nat) (b:Code):Nat->Option (Out×Fr×St)->Option (Out×Fr×St)
 | k,some (.goto l,fr,A)=>match labelIn b l with
  | none=>some (.goto l,fr,A)
  | some rest=>match k with
   | 0=>none
   | k+1=>bp rec_ nt b k (rec_.code nt rest fr A)
 | _,r=>r
def a7 (rec_:Rec) (nt:Nat) (c:Code) (fr:Fr) (A:St):Option (Out×Fr×St) :=
 match c with
 | .skip | .label _=>some (.norm,fr,A)
 | .seq a b=>match rec_.code nt a fr A with
  | some (.norm,fr1,A1)=>rec_.code nt b fr1 A1
  | r=>r
 | .cond c t e=>match aD fr c with
  | .bool true=>rec_.code nt t fr A
  | .bool false=>rec_.code nt e fr A
  | _=>none
 | .block id b=>match rec_.code nt b fr A with
  | some (.exit id',fr1,A1)=>some (if id'=id then .norm else .exit id',fr1,A1)
  | r=>r
 | .loop b=>match rec_.code nt b fr A with
  | some (.norm,fr1,A1)=>rec_.code nt (.loop b) fr1 A1
  | r=>r
 | .scope b=>bp rec_ nt b 4 (rec_.code nt b fr A)
 | .exit id=>some (.exit id,fr,A)
 | .goto l=>some (.goto l,fr,A)
 | .ret=>some (.ret,fr,A)
 | .region _ ops draw=>if draw then (match eh E rec_ nt ops fr A with
   | some (fr1,A1)=>some (.norm,fr1,A1)
   | none=>none)
  else bk E rec_ nt ops ops.toList fr A
 | .rangeFunc f _ _ _=>fh E rec_ f fr A
 | _=>none
def mz:Mode->Mode
 | .pan (⟨_,true⟩::_)=>.ret
 | m=>m
def leave (rec_:Rec):List DI->Mode->St->Option (Mode×St)
 | [],m,A=>some (m,A)
 | .mark b::ds,m,A=>match A.h.get b with
  | some .defd=>leave rec_ ds m (A.setObj b .dead)
  | _=>none
 | .fn g cap args::ds,m,A=>match rec_.callD g (args++cap) m A with
  | some (m',A')=>leave rec_ ds (mz m') A'
  | none=>none
def kT:Out->Option Mode
 | .norm | .ret=>some .ret
 | .pan ch=>some (.pan ch)
 | .exit _ | .goto _=>none
def cb (rec_:Rec) (f:FuncId) (args:List Value) (A:St):Option (Func×Fr×Mode×St) :=
 match E.fn.get f with
 | none=>none
 | some fn=>match fn.body with
  | none=>none
  | some c =>
   if args.length<=fn.ntmps then
    match rec_.code fn.ntmps c { tm:=T.ofList args,marks:=[] } A with
    | some (out,fr,A1)=>match kT out with
     | some m=>match leave rec_ fr.marks m A1 with
      | some (m',A2)=>some (fn,fr,m',A2)
      | none=>none
     | none=>none
    | none=>none
   else none
def jB (rec_:Rec) (f:FuncId) (args:List Value) (A:St):Option (Value×St) :=
 match cb E rec_ f args A with
 | some (fn,fr,.ret,A2)=>match ei E fn fr A2 with
  | some v=>some (v,A2)
  | none=>none
 | _=>none
def peq (v w:Value):Bool:=aH v&&veq 40 v w
def gk:List Value->List Value->Bool
 | [],[]=>true
 | v::l,w::m=>peq v w&&gk l m
 | _,_=>false
def qg (s:Nat):Option Addr->Option Addr
 | none=>none
 | some a=>some ⟨a.block+s,a.off,a.spot⟩
def qh (s:Nat):Fn->Fn
 | .yield l=>.yield (l+s)
 | f=>f
def aw (s:Nat):Nat->Value->Value
 | _,.pointer a=>.pointer (qg s a)
 | _,.slice a l c=>.slice (qg s a) l c
 | _,.map (some r)=>.map (some (r+s))
 | n+1,.iface t v=>.iface t (aw s n v)
 | n+1,.agg cs=>.agg (cs.map (aw s n))
 | n+1,.tuple cs=>.tuple (cs.map (aw s n))
 | n+1,.func f a c=>.func (qh s f) (a.map (aw s n)) (c.map (aw s n))
 | _,v=>v
def shallow:Nat->Value->Bool
 | n+1,.iface _ v=>shallow n v
 | n+1,.agg cs=>cs.toList.all (shallow n)
 | n+1,.tuple cs=>cs.toList.all (shallow n)
 | n+1,.func _ a c=>a.toList.all (shallow n)&&c.toList.all (shallow n)
 | 0,.iface _ _ | 0,.agg _ | 0,.tuple _ | 0,.func _ _ _=>false
 | _,_=>true
def kU (s:Nat) (r:KRow):Row:={ own:=true,size:=r.cells.length,cells:=T.ofList (r.cells.map (aw s 8)),elem:=r.elem,esz:=r.esz,opn:=r.opn,grp:=r.b+s,frz:=r.frz,sb:=r.sb }
def dQ (s:Nat):T AObj->List KRow->T AObj
 | h,[]=>h
 | h,r::l=>dQ s (h.set (r.b+s) (.row (kU s r))) l
def bX (A:St) (r:GRow):Bool:=match A.h.get r.g with
 | some (.row x)=>!x.own&&!x.opn&&Nat.beq x.size r.cells.length&&(match x.cells.range 0 x.size with
  | some vs=>gk vs r.cells
  | none=>false)
 | _=>false
def cc (f:FuncId) (args:List Value):List Known->Option Known
 | []=>none
 | k::ks=>if Nat.beq k.f f&&gk k.args args then some k else cc f args ks
def knw (f:FuncId) (args:List Value):Option Known:=match cc f args E.known with
 | some k=>some k
 | none=>if E.xf.any (Nat.beq f) then E.xt f args else none
def xjv (A:St) (f:FuncId) (args:List Value):Option Value :=
 if E.xj.any (Nat.beq f) then match args with
  | .slice a n c::rest=>match cS A 1 n (.slice a n c) with
   | some cs=>if cs.all aH&&rest.all aH then match E.xr f cs rest with
     | some v=>if aH v then some v else none
     | none=>none
    else none
   | none=>none
  | _=>none
 else none
def fj (rec_:Rec) (f:FuncId) (args:List Value) (A:St):Option (Value×St) :=
 match knw E f args with
 | some k=>if k.looks.all fun r=>Nat.blt r.g E.ng&&bX A r then
   some (aw A.next 8 k.v,{ A with next:=A.next+k.cnt,h:=dQ A.next A.h k.objs })
  else none
 | none=>match xjv E A f args with
  | some v=>some (v,A)
  | none=>jB E rec_ f args A
def callP (rec_:Rec) (f:FuncId) (args:List Value) (A:St):Option (List PE×St) :=
 match knw E f args with
 | some _=>none
 | none=>match xjv E A f args with
  | some _=>none
  | none=>match cb E rec_ f args A with
   | some (_,_,.pan ch,A2)=>some (ch,A2)
   | _=>none
def callR (rec_:Rec) (f:FuncId) (args:List Value) (A:St):Option (Res×St) :=
 match knw E f args with
 | some k=>if k.looks.all fun r=>Nat.blt r.g E.ng&&bX A r then
   some (.ret (aw A.next 8 k.v),{ A with next:=A.next+k.cnt,h:=dQ A.next A.h k.objs })
  else none
 | none=>match xjv E A f args with
  | some v=>some (.ret v,A)
  | none=>match cb E rec_ f args A with
   | some (fn,fr,.ret,A2)=>match ei E fn fr A2 with
    | some v=>some (.ret v,A2)
    | none=>none
   | some (_,_,.pan ch,A2)=>some (.pan ch,A2)
   | none=>none
def eo:Mode->Value×Mode
 | .pan (⟨v,false⟩::older)=>(v,.pan (⟨v,true⟩::older))
 | m=>(.nilIface,m)
def callD (rec_:Rec) (f:FuncId) (args:List Value) (m:Mode) (A:St):Option (Mode×St) :=
 match E.fn.get f with
 | none=>none
 | some fn=>match fn.body with
  | some (.seq (.region _ ops false) rest)=>match ops.toList with
   | o :: os=>match o.op,o.guard with
    | .call { callee:=.builtin .recover,.. },none =>
     if args.length<=fn.ntmps then
      match Fr.put fn.ntmps { tm:=T.ofList args,marks:=[] } o.dst (eo m).1 with
      | some fr0=>match bk E rec_ fn.ntmps ops os fr0 A with
       | some (.norm,fr,A0)=>match rec_.code fn.ntmps rest fr A0 with
        | some (out,fr1,A1)=>match kT out,fr1.marks,ei E fn fr1 A1 with
         | some .ret,[],some _=>some ((eo m).2,A1)
         | _,_,_=>none
        | none=>none
       | _=>none
      | none=>none
     else none
    | _,_=>none
   | _=>none
  | _=>none
def big:Nat->Rec
 | 0=>{ code:=fun _ _ _ _=>none,callR:=fun _ _ _=>none,callD:=fun _ _ _ _=>none }
 | n+1=>{ code:=a7 E (big n),callR:=callR E (big n),callD:=callD E (big n) }
end
theorem kV {E:Env} {r:Rec} {c:Nat->Code->Fr->St->Option (Out×Fr×St)} {d:FuncId->List Value->Mode->St->Option (Mode×St)} {f:FuncId} {as:List Value} {A:St}:Rec.call { code:=c,callR:=callR E r,callD:=d } f as A=fj E r f as A:=by
 show (match callR E r f as A with | some (.ret v,A')=>some (v,A') | _=>none)=_
 unfold callR fj jB
 cases knw E f as with
 | some k =>
  by_cases hb:(k.looks.all fun r=>Nat.blt r.g E.ng&&bX A r)=true
  ·simp only [if_pos hb]
  ·simp only [if_neg hb]
 | none =>
  cases xjv E A f as with
  | some v=>rfl
  | none =>
   rcases cb E r f as A with _ | ⟨fn,fr,m,A2⟩
   ·rfl
   ·cases m with
    | ret=>cases hr:ei E fn fr A2 <;> simp only [hr]
    | pan ch=>rfl
theorem xo {E:Env} {r:Rec} {c:Nat->Code->Fr->St->Option (Out×Fr×St)} {d:FuncId->List Value->Mode->St->Option (Mode×St)} {f:FuncId} {as:List Value} {A:St}:Rec.callP { code:=c,callR:=callR E r,callD:=d } f as A=callP E r f as A:=by
 show (match callR E r f as A with | some (.pan v,A')=>some (v,A') | _=>none)=_
 unfold callR callP
 cases knw E f as with
 | some k =>
  by_cases hb:(k.looks.all fun r=>Nat.blt r.g E.ng&&bX A r)=true
  ·simp only [if_pos hb]
  ·simp only [if_neg hb]
 | none =>
  cases xjv E A f as with
  | some v=>rfl
  | none =>
   rcases cb E r f as A with _ | ⟨fn,fr,m,A2⟩
   ·rfl
   ·cases m with
    | ret=>cases hr:ei E fn fr A2 <;> simp only [hr]
    | pan ch=>rfl
theorem kW {x:Option (Fr×St)} {fr:Fr} {A:St} (h:okR x=some (.ok fr A)):x=some (fr,A):=by
 cases x with
 | none=>cases h
 | some y=>cases h;rfl
theorem kX {x:Option (Fr×St)} {ch:List PE} {A:St} (h:okR x=some (.pan ch A)):False:=by
 cases x with
 | none=>cases h
 | some y=>cases h
theorem qi {E:Env} {r:Rec} {nt:Nat} {o:Oper} {fr fr':Fr} {A A':St} (h:opR E r nt o fr A=some (.ok fr' A')):dF E r nt o fr A=some (fr',A'):=by
 unfold opR at h
 unfold dF bL gg
 split at h
 ·cases h
 ·rename_i nx A1 hx
  rw [hx]
  split at h
  ·simp only [cE];rw [kW h]
  ·simp only [cE];rw [kW h]
  ·rename_i f args
   simp only [cE,di,Rec.call]
   split at h
   ·rename_i hc;rw [hc];simp only;rw [kW h]
   ·cases h
   ·cases h
  ·cases h
  ·rename_i d
   split at h
   ·rename_i hd;simp only [cE,hd];exact kW h
   ·cases h
  ·cases h
theorem xp {E:Env} {r:Rec} {nt:Nat} {o:Oper} {fr:Fr} {A A':St} {ch:List PE} (h:opR E r nt o fr A=some (.pan ch A')):dF E r nt o fr A=none/\iy E r o fr A=some (ch,A'):=by
 unfold opR at h
 unfold dF bL gg iy
 split at h
 ·cases h
 ·rename_i nx A1 hx
  rw [hx]
  split at h
  ·exact (kX h).elim
  ·exact (kX h).elim
  ·rename_i f args
   simp only [cE,di,Rec.call,Rec.callP]
   split at h
   ·exact (kX h).elim
   ·rename_i hc;rw [hc];cases h;exact ⟨rfl,rfl⟩
   ·cases h
  ·cases h;exact ⟨rfl,rfl⟩
  ·rename_i d
   split at h
   ·exact (kX h).elim
   ·cases h
  ·cases h
theorem xq {E:Env} {r:Rec} {nt:Nat} {o:Oper} {fr fr':Fr} {A A':St} (h:dF E r nt o fr A=some (fr',A')):opR E r nt o fr A=some (.ok fr' A'):=by
 unfold dF bL gg at h
 unfold opR
 split at h
 ·rename_i q hq
  cases h
  split at hq
  ·cases hq
  ·rename_i nx A1 hx
   unfold cE at hq
   split at hq
   ·simp only [hq,okR]
   ·simp only [hq,okR]
   ·unfold di Rec.call at hq
    simp only
    split at hq
    ·rename_i hc
     split at hc
     ·rename_i hcc
      cases hc
      rw [hcc]
      simp only [hq,okR]
     ·cases hc
    ·cases hq
   ·cases hq
 ·split at h
  ·rename_i d A1 hx
   rw [hx]
   simp only
   split at h
   ·simp only [h,okR]
   ·cases h
  ·cases h
theorem kY {E:Env} {r:Rec} {nt:Nat} {ops:Array Oper}:∀ {os:List Oper} {fr fr':Fr} {A A':St},bk E r nt ops os fr A=some (.norm,fr',A')->dj E r nt ops os fr A=some (fr',A')
 | [],_,_,_,_,h=>by cases h;rfl
 | o::os,fr,fr',A,A',h=>by
  unfold bk at h
  unfold dj
  split at h
  ·rename_i hg
   rw [if_pos hg]
   split at h
   ·rename_i hq;rw [qi hq];exact kY h
   ·cases h
   ·cases h
  ·rename_i hg
   rw [if_neg hg]
   split at h
   ·rename_i hq;exact kY h
   ·cases h
theorem nA {E:Env} {r:Rec} {nt:Nat} {ops:Array Oper}:∀ {os:List Oper} {out:Out} {fr fr':Fr} {A A':St},bk E r nt ops os fr A=some (out,fr',A')->out=.norm\/∃ ch,out=.pan ch/\gi E r nt ops os fr A=some (ch,fr',A')
 | [],_,_,_,_,_,h=>by cases h;exact .inl rfl
 | o::os,out,fr,fr',A,A',h=>by
  unfold bk at h
  unfold gi
  split at h
  ·rename_i hg
   rw [if_pos hg]
   split at h
   ·rename_i hq;rw [qi hq];exact nA h
   ·rename_i ch A1 hq;obtain ⟨h1,h2⟩:=xp hq;rw [h1,h2];cases h;exact .inr ⟨ch,rfl,rfl⟩
   ·cases h
  ·rename_i hg
   rw [if_neg hg]
   split at h
   ·rename_i hq;exact nA h
   ·cases h
end Go.AM
namespace Go.AM
namespace T
variable {α:Type}
theorem get_nil (k:Nat):(T.nil:T α).get k=none:=by unfold get;rfl
theorem four (m:Nat):m % 4=0\/m % 4=1\/m % 4=2\/m % 4=3:=by omega
theorem xu (x:α):∀ (f n:Nat) (t:T α) (k:Nat),n < f->(bj x f t n).get k=if k=n then some x else t.get k:=by
 intro f
 induction f with
 | zero=>intro n t k h;omega
 | succ f ih =>
  intro n t k hn
  cases t with
  | nil =>
   cases n with
   | zero =>
    cases k with
    | zero=>simp [bj,get]
    | succ k=>rcases four k with h | h | h | h <;> simp [bj,get,h]
   | succ m =>
    have hm:m / 4 < f:=by omega
    rcases four m with h | h | h | h <;> simp only [bj,h] <;> cases k with
     | zero=>simp [get]
     | succ k =>
      rcases four k with g | g | g | g <;> simp only [get,g,ih _ _ _ hm] <;>
       first
        | (by_cases e:k=m
           ·subst e;simp
           ·have:k / 4≠m / 4:=by omega
            simp [e,this])
        | (have:k≠m:=by omega
           simp [this])
  | node v a b c d =>
   cases n with
   | zero =>
    cases k with
    | zero=>simp [bj,get]
    | succ k=>rcases four k with h | h | h | h <;> simp [bj,get,h]
   | succ m =>
    have hm:m / 4 < f:=by omega
    rcases four m with h | h | h | h <;> simp only [bj,h] <;> cases k with
     | zero=>simp [get]
     | succ k =>
      rcases four k with g | g | g | g <;> simp only [get,g,ih _ _ _ hm] <;>
       first
        | (by_cases e:k=m
           ·subst e;simp
           ·have:k / 4≠m / 4:=by omega
            simp [e,this])
        | (have:k≠m:=by omega
           simp [this])
theorem get_set (t:T α) (n:Nat) (x:α) (k:Nat):(t.set n x).get k=if k=n then some x else t.get k :=
 xu x (n+1) n t k (Nat.lt_succ_self n)
theorem get_set_same (t:T α) (n:Nat) (x:α):(t.set n x).get n=some x:=by rw [get_set];simp
theorem get_set_other (t:T α) {n k:Nat} (x:α) (h:k≠n):(t.set n x).get k=t.get k:=by rw [get_set];simp [h]
theorem get_setL (l:List α):∀ (t:T α) (i k:Nat),(t.setL i l).get k=if i<=k/\k < i+l.length then l[k - i]? else t.get k:=by
 induction l with
 | nil=>intro t i k;simp only [setL,List.length_nil];rw [if_neg (by omega)]
 | cons x xs ih =>
  intro t i k
  simp only [setL,ih,get_set,List.length_cons]
  by_cases h:i+1<=k/\k < i+1+xs.length
  ·rw [if_pos h,if_pos (by omega)]
   rw [show k - i=(k - (i+1))+1 from by omega,List.getElem?_cons_succ]
  ·rw [if_neg h]
   by_cases e:k=i
   ·subst e;rw [if_pos rfl,if_pos (by omega)];simp
   ·rw [if_neg e,if_neg (by omega)]
theorem get_ofList (l:List α) (k:Nat):(ofList l).get k=l[k]? := by
 unfold ofList
 rw [get_setL]
 by_cases h:k < l.length
 ·rw [if_pos (by omega)];simp
 ·rw [if_neg (by omega),get_nil,List.getElem?_eq_none (by omega)]
theorem range_some:∀ (n i:Nat) (t:T α) (l:List α),t.range i n=some l->l.length=n/\∀ j,j < n->t.get (i+j)=l[j]? := by
 intro n
 induction n with
 | zero=>intro i t l h;simp [range] at h;subst h;exact ⟨rfl,fun j hj=>by omega⟩
 | succ n ih =>
  intro i t l h
  simp only [range] at h
  cases hx:t.get i with
  | none=>simp [hx] at h
  | some x =>
   simp only [hx] at h
   cases hr:t.range (i+1) n with
   | none=>simp [hr] at h
   | some xs =>
    simp only [hr,Option.some.injEq] at h
    subst h
    obtain ⟨h1,h2⟩:=ih _ _ _ hr
    refine ⟨by simp [h1],fun j hj=>?_⟩
    cases j with
    | zero=>simpa using hx
    | succ j =>
     rw [List.getElem?_cons_succ,<- h2 j (by omega)]
     congr 1
     omega
end T
end Go.AM
namespace Go.AM
structure Pl where
 blk:Nat
 off:Nat
 csz:Nat
 esz:Nat
 opn:Bool
abbrev Emb:=Nat->Option Pl
def Emb.le (φ ψ:Emb):Prop:=∀ b p,φ b=some p->ψ b=some p
theorem Emb.le_refl (φ:Emb):φ.le φ:=fun _ _ h=>h
theorem Emb.le_trans {φ ψ χ:Emb} (h:φ.le ψ) (k:ψ.le χ):φ.le χ:=fun b p hb=>k b p (h b p hb)
abbrev Nm:=ByteArray
inductive FnR (φ:Emb):Fn->Fn->Prop where
 | func (f:FuncId):FnR φ (.func f) (.func f)
 | method (n:String):FnR φ (.method n) (.method n)
 | yield (l l':Nat) (p:Pl):φ l=some p->p.blk=l'->FnR φ (.yield l) (.yield l')
inductive VR (nm:Nm) (φ:Emb):Value->Value->Prop where
 | bool (b:Bool):VR nm φ (.bool b) (.bool b)
 | int (k:IntKind) (n:Int):VR nm φ (.int k n) (.int k n)
 | str (s:ByteArray):VR nm φ (.string s) (.string s)
 | sym:VR nm φ (.float .f64 0) (.string nm)
 | nilp:VR nm φ (.pointer none) (.pointer none)
 | ptr (a:Addr) (p:Pl):φ a.block=some p->a.spot=none->VR nm φ (.pointer (some a)) (.pointer (some ⟨p.blk,p.off+a.off,none⟩))
 | nils (l c:Nat):VR nm φ (.slice none l c) (.slice none l c)
 | slc (a a':Addr) (l c c':Nat) (p:Pl):φ a.block=some p->a.spot=none->(c'=0\/a'.block=p.blk)->(c'=0\/a'.spot=none)->(c'=0\/a'.off=p.off+a.off) ->
   (p.opn=false->c'=c)->(p.opn=true->c<=c'/\a'.off+c' * p.esz<=p.csz)->l<=c->VR nm φ (.slice (some a) l c) (.slice (some a') l c')
 | nilm:VR nm φ (.map none) (.map none)
 | map (r:Nat) (p:Pl):φ r=some p->VR nm φ (.map (some r)) (.map (some p.blk))
 | nilf:VR nm φ .nilFunc .nilFunc
 | func (f f':Fn) (a a' c c':Array Value):FnR φ f f'->a.size=a'.size->(∀ i,i < a.size->VR nm φ (a.getD i undef) (a'.getD i undef)) ->
   c.size=c'.size->(∀ i,i < c.size->VR nm φ (c.getD i undef) (c'.getD i undef))->VR nm φ (.func f a c) (.func f' a' c')
 | nili:VR nm φ .nilIface .nilIface
 | iface (t:TypeId) (v v':Value):VR nm φ v v'->VR nm φ (.iface t v) (.iface t v')
 | agg (a a':Array Value):a.size=a'.size->(∀ i,i < a.size->VR nm φ (a.getD i undef) (a'.getD i undef))->VR nm φ (.agg a) (.agg a')
 | tuple (a a':Array Value):a.size=a'.size->(∀ i,i < a.size->VR nm φ (a.getD i undef) (a'.getD i undef))->VR nm φ (.tuple a) (.tuple a')
section
variable {nm:Nm} {φ ψ:Emb}
theorem FnR.mono (h:φ.le ψ) {f g:Fn} (r:FnR φ f g):FnR ψ f g:=by
 cases r with
 | func f=>exact .func f
 | method n=>exact .method n
 | yield l l' p h1 h2=>exact .yield l l' p (h _ _ h1) h2
theorem VR.mono (h:φ.le ψ) {v c:Value} (r:VR nm φ v c):VR nm ψ v c:=by
 induction r with
 | bool b=>exact .bool b
 | int k n=>exact .int k n
 | str s=>exact .str s
 | sym=>exact .sym
 | nilp=>exact .nilp
 | ptr a p h1 h2=>exact .ptr a p (h _ _ h1) h2
 | nils l c=>exact .nils l c
 | slc a a' l c c' p h1 h2 h3 h4 h5 h6 h7 h8=>exact .slc a a' l c c' p (h _ _ h1) h2 h3 h4 h5 h6 h7 h8
 | nilm=>exact .nilm
 | map r p h1=>exact .map r p (h _ _ h1)
 | nilf=>exact .nilf
 | func f f' a a' c c' h1 h2 _ h4 _ i1 i2=>exact .func f f' a a' c c' (h1.mono h) h2 i1 h4 i2
 | nili=>exact .nili
 | iface t v v' _ ih=>exact .iface t v v' ih
 | agg a a' h1 _ ih=>exact .agg a a' h1 ih
 | tuple a a' h1 _ ih=>exact .tuple a a' h1 ih
theorem VR.undef:VR nm φ undef undef:=.tuple #[] #[] rfl (fun i h=>by simp at h)
def LR (nm:Nm) (φ:Emb) (l l':List Value):Prop:=l.length=l'.length/\∀ i,i < l.length->VR nm φ (l.getD i Go.undef) (l'.getD i Go.undef)
theorem LR.mono (h:φ.le ψ) {l l':List Value} (r:LR nm φ l l'):LR nm ψ l l':=⟨r.1,fun i hi=>(r.2 i hi).mono h⟩
theorem LR.nil:LR nm φ [] []:=⟨rfl,fun i h=>by simp at h⟩
theorem LR.cons {v v':Value} {l l':List Value} (h:VR nm φ v v') (r:LR nm φ l l'):LR nm φ (v::l) (v'::l'):=by
 refine ⟨by simp [r.1],fun i hi=>?_⟩
 cases i with
 | zero=>simpa using h
 | succ i=>simpa using r.2 i (by simpa using hi)
theorem LR.head {v v':Value} {l l':List Value} (r:LR nm φ (v::l) (v'::l')):VR nm φ v v':=by simpa using r.2 0 (by simp)
theorem LR.tail {v v':Value} {l l':List Value} (r:LR nm φ (v::l) (v'::l')):LR nm φ l l' :=
 ⟨by simpa using r.1,fun i hi=>by simpa using r.2 (i+1) (by simpa using hi)⟩
theorem LR.cons_inv {v:Value} {l l':List Value} (r:LR nm φ (v::l) l'):∃ v' m,l'=v'::m/\VR nm φ v v'/\LR nm φ l m:=by
 cases l' with
 | nil=>exact absurd r.1 (by simp)
 | cons v' m=>exact ⟨v',m,rfl,r.head,r.tail⟩
theorem LR.nil_inv {l':List Value} (r:LR nm φ [] l'):l'=[]:=by
 cases l' with
 | nil=>rfl
 | cons v' m=>exact absurd r.1 (by simp)
theorem LR.append {l l' m m':List Value} (r:LR nm φ l l') (s:LR nm φ m m'):LR nm φ (l++m) (l'++m'):=by
 induction l generalizing l' with
 | nil=>rw [r.nil_inv];simpa using s
 | cons v l ih =>
  obtain ⟨v',l'',rfl,h1,h2⟩:=r.cons_inv
  exact .cons h1 (ih h2)
theorem LR.get? {l l':List Value} (r:LR nm φ l l') {i:Nat} {v:Value} (h:l[i]? = some v):∃ v',l'[i]? = some v'/\VR nm φ v v':=by
 have hi:i < l.length:=by
  rcases Nat.lt_or_ge i l.length with g | g
  ·exact g
  ·rw [List.getElem?_eq_none g] at h;cases h
 have hi':i < l'.length:=r.1 ▸ hi
 refine ⟨l'[i],List.getElem?_eq_getElem hi',?_⟩
 have:=r.2 i hi
 rw [List.getD_eq_getElem?_getD,h,List.getD_eq_getElem?_getD,List.getElem?_eq_getElem hi'] at this
 simpa using this
theorem LR.of_get? {l l':List Value} (hl:l.length=l'.length) (h:∀ (i:Nat) (v v':Value),l[i]? = some v->l'[i]? = some v'->VR nm φ v v'):LR nm φ l l':=by
 refine ⟨hl,fun i hi=>?_⟩
 have hi':i < l'.length:=hl ▸ hi
 rw [List.getD_eq_getElem?_getD,List.getD_eq_getElem?_getD,List.getElem?_eq_getElem hi,List.getElem?_eq_getElem hi']
 exact h i _ _ (List.getElem?_eq_getElem hi) (List.getElem?_eq_getElem hi')
theorem LR.map {α:Type} {f g:α->Value} (l:List α) (h:∀ x,x∈l->VR nm φ (f x) (g x)):LR nm φ (l.map f) (l.map g):=by
 induction l with
 | nil=>exact .nil
 | cons x l ih=>exact .cons (h x (by simp)) (ih fun y hy=>h y (by simp [hy]))
theorem LR.take {l l':List Value} (r:LR nm φ l l') (n:Nat):LR nm φ (l.take n) (l'.take n):=by
 refine .of_get? (by simp [r.1]) fun i v v' h1 h2=>?_
 rw [List.getElem?_take] at h1 h2
 split at h1
 ·rename_i hi
  rw [if_pos hi] at h2
  obtain ⟨u,hu,hv⟩:=r.get? h1
  rw [hu] at h2;cases h2;exact hv
 ·cases h1
theorem LR.drop {l l':List Value} (r:LR nm φ l l') (n:Nat):LR nm φ (l.drop n) (l'.drop n):=by
 refine .of_get? (by simp [r.1]) fun i v v' h1 h2=>?_
 rw [List.getElem?_drop] at h1 h2
 obtain ⟨u,hu,hv⟩:=r.get? h1
 rw [hu] at h2;cases h2;exact hv
theorem LR.length {l l':List Value} (r:LR nm φ l l'):l.length=l'.length:=r.1
abbrev AR (nm:Nm) (φ:Emb) (a a':Array Value):Prop:=LR nm φ a.toList a'.toList
theorem ep (a:Array Value) (i:Nat):a.toList.getD i Go.undef=a.getD i Go.undef:=by
 simp [Array.getD_eq_getD_getElem?,List.getD_eq_getElem?_getD]
theorem AR.of {a a':Array Value} (hs:a.size=a'.size) (h:∀ i,i < a.size->VR nm φ (a.getD i Go.undef) (a'.getD i Go.undef)):AR nm φ a a' :=
 ⟨by simpa using hs,fun i hi=>by rw [ep,ep];exact h i (by simpa using hi)⟩
theorem AR.size {a a':Array Value} (h:AR nm φ a a'):a.size=a'.size:=by simpa using h.1
theorem AR.at {a a':Array Value} (h:AR nm φ a a') (i:Nat) (hi:i < a.size):VR nm φ (a.getD i Go.undef) (a'.getD i Go.undef):=by
 have:=h.2 i (by simpa using hi)
 rwa [ep,ep] at this
theorem VR.agg' {a a':Array Value} (h:AR nm φ a a'):VR nm φ (.agg a) (.agg a'):=.agg a a' h.size h.at
theorem VR.tuple' {a a':Array Value} (h:AR nm φ a a'):VR nm φ (.tuple a) (.tuple a'):=.tuple a a' h.size h.at
theorem VR.agg_inv {a:Array Value} {c:Value} (h:VR nm φ (.agg a) c):∃ a',c=.agg a'/\AR nm φ a a':=by
 cases h with
 | agg a a' hs h=>exact ⟨a',rfl,.of hs h⟩
theorem VR.tuple_inv {a:Array Value} {c:Value} (h:VR nm φ (.tuple a) c):∃ a',c=.tuple a'/\AR nm φ a a':=by
 cases h with
 | tuple a a' hs h=>exact ⟨a',rfl,.of hs h⟩
theorem VR.func_inv {f:Fn} {a b:Array Value} {c:Value} (h:VR nm φ (.func f a b) c):∃ f' a' b',c=.func f' a' b'/\FnR φ f f'/\AR nm φ a a'/\AR nm φ b b':=by
 cases h with
 | func f f' a a' c c' h1 h2 h3 h4 h5=>exact ⟨f',a',c',rfl,h1,.of h2 h3,.of h4 h5⟩
theorem VR.func' {f f':Fn} {a a' b b':Array Value} (h1:FnR φ f f') (h2:AR nm φ a a') (h3:AR nm φ b b'):VR nm φ (.func f a b) (.func f' a' b') :=
 .func f f' a a' b b' h1 h2.size h2.at h3.size h3.at
theorem VR.cells {v c:Value} (h:VR nm φ v c):AR nm φ v.cells c.cells:=by
 have one:∀ x y:Value,VR nm φ x y->AR nm φ #[x] #[y]:=fun x y h=>.cons h .nil
 cases h with
 | agg a a' hs h=>exact .of hs h
 | bool b=>exact one _ _ (.bool b)
 | int k n=>exact one _ _ (.int k n)
 | str s=>exact one _ _ (.str s)
 | sym=>exact one _ _ .sym
 | nilp=>exact one _ _ .nilp
 | ptr a p h1 h2=>exact one _ _ (.ptr a p h1 h2)
 | nils l c=>exact one _ _ (.nils l c)
 | slc a a' l c c' p h1 h2 h3 h4 h5 h6 h7 h8=>exact one _ _ (.slc a a' l c c' p h1 h2 h3 h4 h5 h6 h7 h8)
 | nilm=>exact one _ _ .nilm
 | map r p h1=>exact one _ _ (.map r p h1)
 | nilf=>exact one _ _ .nilf
 | func f f' a a' c c' h1 h2 h3 h4 h5=>exact one _ _ (.func f f' a a' c c' h1 h2 h3 h4 h5)
 | nili=>exact one _ _ .nili
 | iface t v v' h=>exact one _ _ (.iface t v v' h)
 | tuple a a' h1 h2=>exact one _ _ (.tuple a a' h1 h2)
theorem VR.one {v c:Value} (h:VR nm φ v c):one c=one v:=by cases h <;> rfl
theorem VR.plain_eq:∀ (n:Nat) (v c:Value),VR nm φ v c->aU n v=true->c=v:=by
 have arr:∀ (n:Nat),(∀ v c,VR nm φ v c->aU n v=true->c=v)->∀ a a':Array Value,AR nm φ a a'->a.toList.all (aU n)=true->a'=a:=by
  intro n ih a a' h hall
  apply Array.ext'
  apply List.ext_getElem? 
  intro i
  cases hx:a.toList[i]? with
  | none =>
   have:a.toList.length<=i:=by
    rcases Nat.lt_or_ge i a.toList.length with g | g
    ·rw [List.getElem?_eq_getElem g] at hx;cases hx
    ·exact g
   exact List.getElem?_eq_none (by rw [<- h.1];exact this)
  | some x =>
   obtain ⟨y,hy,hr⟩:=h.get? hx
   rw [hy]
   have hm:x∈a.toList:=List.mem_of_getElem? hx
   rw [ih x y hr (List.all_eq_true.1 hall x hm)]
 intro n
 induction n with
 | zero =>
  intro v c h hn
  cases h <;> first | rfl | (simp [aU] at hn)
 | succ n ih =>
  intro v c h hn
  cases h with
  | iface t v v' h=>simp only [aU] at hn;rw [ih _ _ h hn]
  | agg a a' hs h=>simp only [aU] at hn;rw [arr n ih a a' (.of hs h) hn]
  | tuple a a' hs h=>simp only [aU] at hn;rw [arr n ih a a' (.of hs h) hn]
  | func f f' a a' c c' h1 h2 h3 h4 h5 =>
   simp only [aU,Bool.and_eq_true] at hn
   obtain ⟨⟨hf,ha⟩,hc⟩:=hn
   rw [arr n ih a a' (.of h2 h3) ha,arr n ih c c' (.of h4 h5) hc]
   cases h1 with
   | func f=>rfl
   | method n=>simp at hf
   | yield l l' p g1 g2=>simp at hf
  | ptr a p h1 h2=>simp [aU] at hn
  | slc a a' l c c' p h1 h2 h3 h4 h5 h6 h7 h8=>simp [aU] at hn
  | map r p h1=>simp [aU] at hn
  | sym=>simp [aU] at hn
  | _=>rfl
theorem VR.of_plain:∀ (n:Nat) (v:Value),aU n v=true->VR nm φ v v:=by
 have arr:∀ (n:Nat),(∀ v,aU n v=true->VR nm φ v v)->∀ a:Array Value,a.toList.all (aU n)=true->AR nm φ a a:=by
  intro n ih a hall
  refine .of_get? rfl fun i v v' h1 h2=>?_
  rw [h1] at h2;cases h2
  exact ih v (List.all_eq_true.1 hall v (List.mem_of_getElem? h1))
 intro n
 induction n with
 | zero =>
  intro v h
  cases v with
  | bool b=>exact .bool b
  | int k n=>exact .int k n
  | string s=>exact .str s
  | pointer a=>cases a with
   | none=>exact .nilp
   | some a=>simp [aU] at h
  | slice a l c=>cases a with
   | none=>exact .nils l c
   | some a=>simp [aU] at h
  | map r=>cases r with
   | none=>exact .nilm
   | some r=>simp [aU] at h
  | nilFunc=>exact .nilf
  | nilIface=>exact .nili
  | _=>simp [aU] at h
 | succ n ih =>
  intro v h
  cases v with
  | bool b=>exact .bool b
  | int k n=>exact .int k n
  | string s=>exact .str s
  | pointer a=>cases a with
   | none=>exact .nilp
   | some a=>simp [aU] at h
  | slice a l c=>cases a with
   | none=>exact .nils l c
   | some a=>simp [aU] at h
  | map r=>cases r with
   | none=>exact .nilm
   | some r=>simp [aU] at h
  | nilFunc=>exact .nilf
  | nilIface=>exact .nili
  | iface t v=>simp only [aU] at h;exact .iface t v v (ih v h)
  | agg a=>simp only [aU] at h;exact .agg' (arr n ih a h)
  | tuple a=>simp only [aU] at h;exact .tuple' (arr n ih a h)
  | func f a c =>
   simp only [aU,Bool.and_eq_true] at h
   obtain ⟨⟨hf,ha⟩,hc⟩:=h
   cases f with
   | func f=>exact .func' (.func f) (arr n ih a ha) (arr n ih c hc)
   | _=>simp at hf
  | _=>simp [aU] at h
theorem VR.plainV_eq {v c:Value} (h:VR nm φ v c) (hp:aH v=true):c=v:=VR.plain_eq 40 v c h hp
theorem VR.of_plainV {v:Value} (hp:aH v=true):VR nm φ v v:=VR.of_plain 40 v hp
end
end Go.AM
namespace Go.AM
def spl (cs:Array Value) (i:Nat):List Value->Array Value
 | []=>cs
 | v::vs=>spl (cs.setIfInBounds i v) (i+1) vs
theorem cH:∀ (vs:List Value) (cs:Array Value) (i:Nat),(spl cs i vs).size=cs.size
 | [],_,_=>rfl
 | v::vs,cs,i=>by simp [spl,cH vs]
theorem kZ:∀ (vs:List Value) (cs:Array Value) (i k:Nat),i+vs.length<=cs.size ->
  (spl cs i vs).getD k undef=if i<=k/\k < i+vs.length then vs.getD (k - i) undef else cs.getD k undef
 | [],cs,i,k,_=>by simp only [spl,List.length_nil];rw [if_neg (by omega)]
 | v::vs,cs,i,k,h=>by
  simp only [List.length_cons] at h
  simp only [spl]
  rw [kZ vs _ (i+1) k (by simp;omega)]
  by_cases h1:i+1<=k/\k < i+1+vs.length
  ·rw [if_pos h1,if_pos (by simp only [List.length_cons];omega)]
   rw [show k - i=(k - (i+1))+1 from by omega];simp
  ·rw [if_neg h1]
   by_cases e:k=i
   ·subst e
    rw [if_pos (by simp only [List.length_cons];omega)]
    have hk:k < cs.size:=by omega
    simp [Array.getD_eq_getD_getElem?,hk]
   ·rw [if_neg (by simp only [List.length_cons];omega)]
    simp [Array.getD_eq_getD_getElem?,Ne.symm e]
def aZ (w:World) (b:Nat) (o:Obj):World:={ w with heap:=w.heap.setIfInBounds b o }
@[simp] theorem jC (w:World) (b:Nat) (o:Obj):(aZ w b o).heap.size=w.heap.size:=by simp [aZ]
theorem cd (w:World) {b:Nat} (o:Obj) (h:b < w.heap.size):(aZ w b o).heap[b]? = some o:=by simp [aZ,h]
theorem jD (w:World) {b c:Nat} (o:Obj) (h:c≠b):(aZ w b o).heap[c]? = w.heap[c]? := by
 simp [aZ,Ne.symm h]
def AObj.own:AObj->Bool
 | .row r=>r.own
 | _=>true
def AObj.live:AObj->Bool
 | .dead=>false
 | _=>true
section
variable (nm:Nm) (φ:Emb)
structure RowR (hp:Array Obj) (p:Pl) (r:Row) (cs:Array Value) (fz:Nat×Nat):Prop where
 blk:hp[p.blk]? = some (.cells cs r.elem fz)
 csz:p.csz=cs.size
 opn:p.opn=r.opn
 esz:r.opn=true->p.esz=r.esz
 fit:p.off+r.size<=cs.size
 cell:∀ i,i < r.size->∃ v,r.cells.get i=some v/\VR nm φ v (cs.getD (p.off+i) undef)
 frz:r.own=true->∀ j,fz.1<=j->j < fz.2->j < cs.size->j < p.off+r.frz
 sb:r.own=true->r.sb=false->fz.1=fz.2\/(fz.1 < fz.2/\fz.2<=cs.size)
 exact:r.opn=false->p.off=0/\r.size=cs.size
def EntR (es ces:List MapEntry):Prop:=es.length=ces.length /\
 ∀ (i:Nat) (e c:MapEntry),es[i]? = some e->ces[i]? = some c->aH e.key=true/\c.key=e.key/\c.born=e.born/\VR nm φ e.val c.val
structure LoopR (l:ALoop) (L:Loop):Prop where
 state:L.state=l.state
 pending:L.pending=l.pending
def OR (hp:Array Obj) (p:Pl):AObj->Prop
 | .dead=>True
 | .row r=>∃ cs fz,RowR nm φ hp p r cs fz
 | .map es clock=>∃ ces:Array MapEntry,hp[p.blk]? = some (.map ces clock)/\EntR nm φ es ces.toList
 | .siter s pos=>hp[p.blk]? = some (.stringIter s pos)/\p.off=0
 | .miter m since seen stepped=>∃ m',hp[p.blk]? = some (.mapIter m' since seen.toArray stepped) /\
   (match m with | none=>m'=none | some r=>∃ q,φ r=some q/\m'=some q.blk)/\p.off=0
 | .loop l=>∃ L,hp[p.blk]? = some (.loop L)/\LoopR l L
 | .defd=>hp[p.blk]? = some (.deferred (some []))
end
def Emb.ext (n:Nat) (φ ψ:Emb):Prop:=∀ b,b < n->ψ b=φ b
theorem Emb.ext_refl (n:Nat) (φ:Emb):Emb.ext n φ φ:=fun _ _=>rfl
theorem Emb.ext_trans {n m:Nat} {φ ψ χ:Emb} (h:Emb.ext n φ ψ) (k:Emb.ext m ψ χ) (hn:n<=m):Emb.ext n φ χ :=
 fun b hb=>(k b (Nat.lt_of_lt_of_le hb hn)).trans (h b hb)
abbrev Kp:=Nat->Option Obj
structure WR (nm:Nm) (K:Kp) (base:World) (φ:Emb) (A:St) (w:World):Prop where
 dom:∀ b,A.next<=b->φ b=none
 lt:∀ b p,φ b=some p->p.blk < w.heap.size
 obj:∀ b o,A.h.get b=some o->o.live=true->∃ p,φ b=some p/\OR nm φ w.heap p o/\(K p.blk).isNone=o.own
 key:∀ B o,K B=some o->w.heap[B]? = some o
 sep:∀ b c o u p q,b≠c->A.h.get b=some o->A.h.get c=some u->o.live=true->u.live=true->o.own=true->u.own=true ->
  φ b=some p->φ c=some q->p.blk=q.blk ->
  ∃ r s ms,o=.row r/\u=.row s/\r.grp=s.grp/\A.g.get r.grp=some ms/\b∈ms/\c∈ms
 tip:∀ g m ms,A.g.get g=some (m::ms)->∀ b,b∈ms->∀ r s p q,A.h.get b=some (.row r)->A.h.get m=some (.row s)->φ b=some p->φ m=some q ->
  p.blk=q.blk->p.off+r.size<=q.off+s.size
 grp:∀ g ms,A.g.get g=some ms->∀ m,m∈ms->∃ p,φ m=some p/\K p.blk=none
 env:w.tape=base.tape/\w.os=base.os/\w.output=base.output
 size:base.heap.size<=w.heap.size
 old:∀ b o p,A.h.get b=some o->o.live=true->o.own=false->φ b=some p->p.blk < base.heap.size
section
variable {nm:Nm} {K:Kp} {base:World} {φ ψ:Emb} {A:St} {w:World}
theorem WR.has (h:WR nm K base φ A w) {g:Nat} {ms:List Nat} (hg:A.g.get g=some ms) {m:Nat} (hm:m∈ms):(φ m).isSome=true:=by
 obtain ⟨p,h1,_⟩:=h.grp g ms hg m hm
 rw [h1];rfl
theorem WR.le (h:WR nm K base φ A w) (e:Emb.ext A.next φ ψ):φ.le ψ:=by
 intro b p hb
 rcases Nat.lt_or_ge b A.next with g | g
 ·rw [e b g];exact hb
 ·rw [h.dom b g] at hb;cases hb
theorem EntR.mono (h:φ.le ψ) {es ces:List MapEntry} (r:EntR nm φ es ces):EntR nm ψ es ces :=
 ⟨r.1,fun i e _ h1 h2=>let ⟨a,b,d,f⟩:=r.2 i e _ h1 h2;⟨a,b,d,f.mono h⟩⟩
theorem RowR.mono (h:φ.le ψ) {hp:Array Obj} {p:Pl} {r:Row} {cs:Array Value} {fz:Nat×Nat} (x:RowR nm φ hp p r cs fz):RowR nm ψ hp p r cs fz :=
 { x with cell:=fun i hi=>let ⟨v,h1,h2⟩:=x.cell i hi;⟨v,h1,h2.mono h⟩ }
theorem OR.mono (h:φ.le ψ) {hp hp':Array Obj} {p:Pl} {o:AObj} (r:OR nm φ hp p o) (hh:hp'[p.blk]? = hp[p.blk]?):OR nm ψ hp' p o:=by
 cases o with
 | dead=>trivial
 | row r'=>obtain ⟨cs,fz,x⟩:=r;exact ⟨cs,fz,{ x.mono h with blk:=hh.trans x.blk }⟩
 | map es clock=>obtain ⟨ces,h1,h2⟩:=r;exact ⟨ces,hh.trans h1,h2.mono h⟩
 | siter s pos=>exact ⟨hh.trans r.1,r.2⟩
 | miter m since seen stepped =>
  obtain ⟨m',h1,h2,h0⟩:=r
  refine ⟨m',hh.trans h1,?_,h0⟩
  cases m with
  | none=>exact h2
  | some x=>obtain ⟨q,h3,h4⟩:=h2;exact ⟨q,h _ _ h3,h4⟩
 | loop l=>obtain ⟨L,h1,h2⟩:=r;exact ⟨L,hh.trans h1,h2⟩
 | defd=>exact Eq.trans hh r
theorem WR.drew (h:WR nm K base φ A w) (n:Nat):WR nm K base φ A { w with drawn:=n } :=
 { dom:=h.dom,lt:=h.lt,obj:=h.obj,key:=h.key,sep:=h.sep,tip:=h.tip,grp:=h.grp,env:=h.env,size:=h.size,old:=h.old }
def Emb.upd (φ:Emb) (b:Nat) (p:Pl):Emb:=fun c=>if c=b then some p else φ c
theorem Emb.upd_same (φ:Emb) (b:Nat) (p:Pl):φ.upd b p b=some p:=by simp [Emb.upd]
theorem Emb.upd_other (φ:Emb) {b c:Nat} (p:Pl) (h:c≠b):φ.upd b p c=φ c:=by simp [Emb.upd,h]
theorem Emb.upd_ext (φ:Emb) (b:Nat) (p:Pl):Emb.ext b φ (φ.upd b p):=fun _c hc=>Emb.upd_other φ p (Nat.ne_of_lt hc)
theorem Emb.upd_le {φ:Emb} {b:Nat} (p:Pl) (h:φ b=none):φ.le (φ.upd b p):=by
 intro c q hc
 by_cases e:c=b
 ·subst e;rw [h] at hc;cases hc
 ·rw [Emb.upd_other φ p e];exact hc
theorem getElem?_push_lt {hp:Array Obj} {o:Obj} {b:Nat} (h:b < hp.size):(hp.push o)[b]? = hp[b]? := by
 simp [Array.getElem?_push,Nat.ne_of_lt h]
theorem WR.new (h:WR nm K base φ A w) (b:Nat) (p:Pl) (o:AObj) (c:Obj) (n:Nat) (hb:φ b=none)
  (hn:A.next<=n) (hbn:b < n) (hp:p.blk=w.heap.size)
  (ho:OR nm (φ.upd b p) (w.heap.push c) p o) (hown:o.own=true) :
  WR nm K base (φ.upd b p) { A with next:=n,h:=A.h.set b o } (w.alloc c):=by
 have hle:=Emb.upd_le p hb
 have hsz:(w.alloc c).heap.size=w.heap.size+1:=by simp
 have hfresh:K w.heap.size=none:=by
  cases hk:K w.heap.size with
  | none=>rfl
  | some x=>have:=h.key _ _ hk;simp at this
 have hold:∀ B,B < w.heap.size->(w.alloc c).heap[B]? = w.heap[B]? := fun B hB=>getElem?_push_lt hB
 have hg:∀ g m ms,A.g.get g=some (m::ms)->b≠m/\b ∉ ms:=by
  intro g m ms hgm
  refine ⟨?_,?_⟩
  ·rintro rfl;obtain ⟨_,this,_⟩:=h.grp g _ hgm b (by simp);rw [hb] at this;cases this
  ·intro hm;obtain ⟨_,this,_⟩:=h.grp g _ hgm b (by simp [hm]);rw [hb] at this;cases this
 refine ⟨?_,?_,?_,?_,?_,?_,?_,h.env,by rw [hsz];exact Nat.le_succ_of_le h.size,?_⟩
 ·intro x hx
  have hx':n<=x:=hx
  rw [Emb.upd_other φ p (by omega)];exact h.dom x (by omega)
 ·intro x q hx
  rw [hsz]
  by_cases e:x=b
  ·subst e;rw [Emb.upd_same] at hx;cases hx;omega
  ·rw [Emb.upd_other φ p e] at hx;have:=h.lt _ _ hx;omega
 ·intro x u hx hl
  by_cases e:x=b
  ·subst e
   rw [T.get_set_same] at hx;cases hx
   exact ⟨p,Emb.upd_same _ _ _,ho,by rw [hp,hfresh,hown];rfl⟩
  ·rw [T.get_set_other _ _ e] at hx
   obtain ⟨q,h1,h2,h3⟩:=h.obj x u hx hl
   exact ⟨q,hle _ _ h1,h2.mono hle (hold _ (h.lt _ _ h1)),h3⟩
 ·intro B u hB
  have:=h.key _ _ hB
  rw [hold B (by rcases Nat.lt_or_ge B w.heap.size with g | g;exact g;simp [Array.getElem?_eq_none g] at this)]
  exact this
 ·intro x y ox oy px py hxy hx hy lx ly wx wy ex ey hblk
  by_cases e1:x=b
  ·subst e1
   rw [Emb.upd_same] at ex;cases ex
   have hyne:y≠x:=fun e=>hxy e.symm
   rw [Emb.upd_other φ p hyne] at ey
   have:=h.lt _ _ ey
   omega
  ·by_cases e2:y=b
   ·subst e2
    rw [Emb.upd_same] at ey;cases ey
    rw [Emb.upd_other φ p hxy] at ex
    have:=h.lt _ _ ex
    omega
   ·rw [T.get_set_other _ _ e1] at hx
    rw [T.get_set_other _ _ e2] at hy
    rw [Emb.upd_other φ p e1] at ex
    rw [Emb.upd_other φ p e2] at ey
    exact h.sep x y ox oy px py hxy hx hy lx ly wx wy ex ey hblk
 ·intro g m ms hgm x hx r s px py h1 h2 e1 e2 hblk
  obtain ⟨n1,n2⟩:=hg g m ms hgm
  have x1:x≠b:=fun e=>n2 (e ▸ hx)
  have x2:m≠b:=fun e=>n1 e.symm
  rw [T.get_set_other _ _ x1] at h1
  rw [T.get_set_other _ _ x2] at h2
  rw [Emb.upd_other φ p x1] at e1
  rw [Emb.upd_other φ p x2] at e2
  exact h.tip g m ms hgm x hx r s px py h1 h2 e1 e2 hblk
 ·intro g ms hgm m hm
  obtain ⟨q,h1,h2⟩:=h.grp g ms hgm m hm
  exact ⟨q,hle _ _ h1,h2⟩
 ·intro x u q hx hl hu hq
  simp only [] at hx
  by_cases e:x=b
  ·subst e;rw [T.get_set_same] at hx;cases hx;rw [hown] at hu;cases hu
  ·rw [T.get_set_other _ _ e] at hx;rw [Emb.upd_other φ p e] at hq;exact h.old x u q hx hl hu hq
theorem WR.near (h:WR nm K base φ A w) {b c:Nat} {o u:AObj} {p q:Pl} (hbc:b≠c) (hb:A.h.get b=some o) (hc:A.h.get c=some u) (lo:o.live=true) (lu:u.live=true)
  (oo:o.own=true) (hp:φ b=some p) (hq:φ c=some q) (hblk:p.blk=q.blk) :
  ∃ r s ms,o=.row r/\u=.row s/\r.grp=s.grp/\A.g.get r.grp=some ms/\b∈ms/\c∈ms:=by
 obtain ⟨p',e1,_,k1⟩:=h.obj b o hb lo
 obtain ⟨q',e2,_,k2⟩:=h.obj c u hc lu
 rw [hp] at e1;cases e1
 rw [hq] at e2;cases e2
 rw [hblk] at k1
 exact h.sep b c o u p q hbc hb hc lo lu oo (k2.symm.trans (k1.trans oo)) hp hq hblk
end
def xv (r:KRow):Row:={ own:=true,size:=r.cells.length,cells:=T.ofList r.cells,elem:=r.elem,esz:=r.esz,opn:=r.opn,grp:=r.b,frz:=r.frz,sb:=r.sb }
def qj (nm:Nm) (k:Known) (w:World) (e:Ending) (w':World):Prop :=
 ∃ φ v',(∀ b p,φ b=some p->p.blk < w'.heap.size)/\(∀ b,k.cnt<=b->φ b=none) /\
  (∀ r,r∈k.objs->∃ p cs fz,φ r.b=some p/\RowR nm φ w'.heap p (xv r) cs fz/\w.heap.size<=p.blk) /\
  (∀ r s p q,r∈k.objs->s∈k.objs->r.b≠s.b->φ r.b=some p->φ s.b=some q->p.blk≠q.blk) /\
  (∀ B:Nat,B < w.heap.size->w'.heap[B]? = w.heap[B]?)/\w.heap.size<=w'.heap.size/\(w'.tape=w.tape/\w'.os=w.os/\w'.output=w.output)/\VR nm φ k.v v'/\e=.returned v'
structure KnownOk (P:Program) (nm:Nm) (k:Known):Prop where
 calls:∀ w:World,(∀ r,r∈k.looks->∃ t fz,w.heap[r.g]? = some (.cells r.cells.toArray t fz))->Calls P k.f k.args.toArray w (qj nm k w)
 shal:shallow 8 k.v=true
 shalR:(k.objs.all fun r=>r.cells.all (shallow 8))=true
 plain:(k.args.all aH)=true
def kc (w:World) (cs:List Value) (x:Value):Prop :=
 ∃ a c,x=.slice a cs.length c/\(cs=[]\/∃ b o,a=some ⟨b,o,none⟩/\b < w.heap.size/\cs.length<=c/\∀ (j:Nat) v,cs[j]? = some v->w.cell? ⟨b,o+j,none⟩=some v)
def ke (w w':World):Prop:=(∀ B:Nat,B < w.heap.size->w'.heap[B]? = w.heap[B]?)/\w.heap.size<=w'.heap.size/\(w'.tape=w.tape/\w'.os=w.os/\w'.output=w.output)
end Go.AM
namespace Go.AM
section
variable {nm:Nm} {K:Kp} {base:World} {φ:Emb} {A:St} {w:World} {P:Program}
theorem dk {b:Nat} {r:Row} (h:A.row? b=some r):A.h.get b=some (.row r):=by
 unfold St.row? at h
 split at h
 ·rename_i r' hr;cases h;exact hr
 ·cases h
theorem nB {w:World} {b off:Nat} {cs:Array Value} {e:TypeId} {fz:Nat×Nat} (h:w.heap[b]? = some (.cells cs e fz)) :
  w.cell? ⟨b,off,none⟩=cs[off]? := by simp [World.cell?,h]
theorem qk {cs:Array Value} {i:Nat} (h:i < cs.size):cs[i]? = some (cs.getD i undef):=by
 simp [Array.getD_eq_getD_getElem?,h]
structure Rd (nm:Nm) (φ:Emb) (w:World) (a:Addr) (n:Nat) (vs cvs:List Value):Prop where
 len:cvs.length=n
 rel:LR nm φ vs cvs
 cell:∀ j v,cvs[j]? = some v->w.cell? (a.add j)=some v
theorem cW (b o j:Nat):(⟨b,o,none⟩:Addr).add j=⟨b,o+j,none⟩:=by
 unfold Addr.add;split
 ·rename_i h;subst h;rfl
 ·rfl
theorem WR.load (h:WR nm K base φ A w) {a:Addr} {n:Nat} {vs:List Value} (hl:A.loadN a n=some vs) {p:Pl} (hp:φ a.block=some p) :
  ∃ cvs,Rd nm φ w ⟨p.blk,p.off+a.off,none⟩ n vs cvs:=by
 unfold St.loadN at hl
 split at hl
 ·cases hl
 split at hl
 ·rename_i r hr
  split at hl
  ·rename_i hfit
   obtain ⟨q,hq,⟨cs,fz,ho⟩,_⟩:=h.obj a.block _ (dk hr) rfl
   rw [hp] at hq;cases hq
   obtain ⟨hlen,hget⟩:=T.range_some _ _ _ _ hl
   refine ⟨(List.range n).map fun j=>cs.getD (p.off+a.off+j) undef,by simp,?_,?_⟩
   ·refine .of_get? (by simp [hlen]) fun i v v' h1 h2=>?_
    have hi:i < n:=by
     rcases Nat.lt_or_ge i n with g | g
     ·exact g
     ·rw [List.getElem?_eq_none (by omega)] at h1;cases h1
    rw [List.getElem?_map,List.getElem?_range hi,Option.map_some,Option.some.injEq] at h2
    subst h2
    obtain ⟨u,hu,hv⟩:=ho.cell (a.off+i) (by omega)
    have:=hget i hi
    rw [this,h1] at hu;cases hu
    rw [show p.off+a.off+i=p.off+(a.off+i) from by omega]
    exact hv
   ·intro j v hj
    have hjn:j < n:=by
     rcases Nat.lt_or_ge j n with g | g
     ·exact g
     ·rw [List.getElem?_eq_none (by simpa using g)] at hj;cases hj
    rw [List.getElem?_map,List.getElem?_range hjn,Option.map_some,Option.some.injEq] at hj
    subst hj
    rw [cW,nB ho.blk]
    exact qk (by have:=ho.fit;omega)
  ·cases hl
 ·cases hl
theorem Rd.run {a:Addr} {n:Nat} {vs cvs:List Value} (h:Rd nm φ w a n vs cvs):(loadCells a n).run P w=.ok cvs.toArray w:=by
 have:=run_loadCells_list (P:=P) w a cvs h.cell
 rwa [h.len] at this
theorem ql (P:Program) (b off:Nat) (e:TypeId) (fz:Nat×Nat):∀ (vs:List Value) (i:Nat) (cs:Array Value) (w:World),
  w.heap[b]? = some (.cells cs e fz)->off+i+vs.length<=cs.size->(∀ v,v∈vs->one v=true)->(∀ j,off+i<=j->j < off+i+vs.length->¬ (fz.1<=j/\j < fz.2)) ->
  (storeCells ⟨b,off,none⟩ vs i).run P w=.ok () (aZ w b (.cells (spl cs (off+i) vs) e fz)):=by
 intro vs
 induction vs with
 | nil =>
  intro i cs w hb _ _ _
  have hlt:b < w.heap.size:=(Array.getElem?_eq_some_iff.1 hb).1
  have:aZ w b (.cells cs e fz)=w:=by
   unfold aZ
   have:w.heap.setIfInBounds b (.cells cs e fz)=w.heap:=by
    apply Array.ext_getElem?
    intro j
    rw [Array.getElem?_setIfInBounds]
    split
    ·rename_i e;subst e;first | exact hb.symm | (simp only [hlt,if_true];exact hb.symm)
    ·rfl
   rw [this]
  simp [storeCells,spl,this]
 | cons v vs ih =>
  intro i cs w hb hfit hone hfz
  have hlt:b < w.heap.size:=(Array.getElem?_eq_some_iff.1 hb).1
  simp only [List.length_cons] at hfit hfz
  have hv:=hone v (by simp)
  have hcell:w.cell? ⟨b,off+i,none⟩=some (cs.getD (off+i) undef):=by rw [nB hb];exact qk (by omega)
  have hfr:w.frozen? ⟨b,off+i,none⟩=false:=by
   have hn:=hfz (off+i) (by omega) (by omega)
   obtain ⟨f1,f2⟩:=fz
   simp only [World.frozen?,hb]
   simp only [] at hn
   cases h1:decide (f1<=off+i) with
   | false=>rfl
   | true=>cases h2:decide (off+i < f2) with
    | false=>rfl
    | true=>exact absurd ⟨of_decide_eq_true h1,of_decide_eq_true h2⟩ hn
  have hset:w.setCell ⟨b,off+i,none⟩ v=aZ w b (.cells (cs.setIfInBounds (off+i) v) e fz):=by
   unfold World.setCell aZ
   congr 1
   apply Array.ext_getElem?
   intro j
   rw [Array.getElem?_modify,Array.getElem?_setIfInBounds]
   split
   ·rename_i e;subst e;simp only [hb];simp
   ·rfl
  have hrun:(store ((⟨b,off,none⟩:Addr).add i) v).run P w=.ok () (w.setCell ⟨b,off+i,none⟩ v):=by
   rw [cW]
   cases v <;> simp [store,Sem.run,hcell,hfr] <;> simp [one] at hv
  simp only [storeCells,Sem.run_bind,hrun,Result.andThen_ok,hset]
  have hb':(aZ w b (.cells (cs.setIfInBounds (off+i) v) e fz)).heap[b]? = some (.cells (cs.setIfInBounds (off+i) v) e fz):=cd w _ hlt
  rw [ih (i+1) _ _ hb' (by simp;omega) (fun u hu=>hone u (by simp [hu])) (fun j h1 h2=>hfz j (by omega) (by omega))]
  congr 1
  unfold aZ
  simp only [spl]
  congr 1
  apply Array.ext_getElem?
  intro j
  simp only [Array.getElem?_setIfInBounds,Array.size_setIfInBounds]
  split
  ·rw [show off+(i+1)=off+i+1 from by omega]
  ·rfl
theorem dm:∀ (ms:List Nat) (h:T AObj) (b c:Nat),(St.kill h b ms).get c=if c∈ms/\c≠b then some .dead else h.get c
 | [],h,b,c=>by simp [St.kill]
 | m :: ms,h,b,c=>by
  simp only [St.kill]
  rw [dm ms]
  by_cases e:m=b
  ·subst e
   simp only [beq_self_eq_true,if_true]
   by_cases g:c∈ms/\c≠m
   ·rw [if_pos g,if_pos ⟨by simp [g.1],g.2⟩]
   ·rw [if_neg g,if_neg]
    rintro ⟨g1,g2⟩
    rcases List.mem_cons.1 g1 with g3 | g3
    ·exact g2 g3
    ·exact g ⟨g3,g2⟩
  ·have hne:(m==b)=false:=by simpa using e
   rw [hne]
   simp only [Bool.false_eq_true,if_false]
   by_cases g:c∈ms/\c≠b
   ·rw [if_pos g,if_pos ⟨by simp [g.1],g.2⟩]
   ·rw [if_neg g,T.get_set]
    by_cases e2:c=m
    ·subst e2;rw [if_pos rfl,if_pos ⟨by simp,e⟩]
    ·rw [if_neg e2,if_neg]
     rintro ⟨g1,g2⟩
     rcases List.mem_cons.1 g1 with g3 | g3
     ·exact e2 g3
     ·exact g ⟨g3,g2⟩
theorem WR.fewer (h:WR nm K base φ A w) {h':T AObj} (hh:∀ c,h'.get c=A.h.get c\/h'.get c=some .dead):WR nm K base φ { A with h:=h' } w:=by
 have keep:∀ c o,h'.get c=some o->o.live=true->A.h.get c=some o:=by
  intro c o ho hl
  rcases hh c with g | g
  ·rw [<- g];exact ho
  ·rw [g] at ho;cases ho;simp [AObj.live] at hl
 refine ⟨h.dom,h.lt,fun b o ho hl=>h.obj b o (keep b o ho hl) hl,h.key,?_,?_,h.grp,h.env,h.size,fun b o p hb hl hu hp=>h.old b o p (keep b o hb hl) hl hu hp⟩
 ·intro b c o u p q hbc hb hc lo lu
  exact h.sep b c o u p q hbc (keep _ _ hb lo) (keep _ _ hc lu) lo lu
 ·intro g m ms hg b hb r s p q h1 h2
  exact h.tip g m ms hg b hb r s p q (keep _ _ h1 rfl) (keep _ _ h2 rfl)
theorem qm (b:Nat) (r:Row) (hb:A.h.get b=some (.row r)):(A.alone b r).h.get b=some (.row r):=by
 unfold St.alone
 split
 ·exact hb
 ·simp only []
  rw [dm,if_neg (by simp),hb]
theorem qn (b:Nat) (r:Row):(A.alone b r).next=A.next:=by unfold St.alone;split <;> rfl
theorem WR.alone (h:WR nm K base φ A w) {b:Nat} {r:Row} (hb:A.h.get b=some (.row r)) (ho:r.own=true) :
  WR nm K base φ (A.alone b r) w /\
  ∀ c o p q,c≠b->(A.alone b r).h.get c=some o->o.live=true->o.own=true->φ c=some p->φ b=some q->p.blk≠q.blk:=by
 unfold St.alone
 cases hg:A.g.get r.grp with
 | none =>
  refine ⟨h,fun c o p q hcb hc lo oo hp hq hblk=>?_⟩
  obtain ⟨r1,r2,ms,h1,h2,h3,h4,_⟩:=h.sep b c _ o q p (Ne.symm hcb) hb hc rfl lo ho oo hq hp hblk.symm
  cases h1
  rw [hg] at h4;cases h4
 | some ms =>
  simp only []
  have hk:∀ c,(St.kill A.h b ms).get c=A.h.get c\/(St.kill A.h b ms).get c=some .dead:=by
   intro c;rw [dm];split <;> simp
  have h1:=h.fewer hk
  have keep:∀ c o,(St.kill A.h b ms).get c=some o->o.live=true->A.h.get c=some o/\¬ (c∈ms/\c≠b):=by
   intro c o hc lo
   rw [dm] at hc
   split at hc
   ·cases hc;simp [AObj.live] at lo
   ·rename_i hn;exact ⟨hc,hn⟩
  have away:∀ c o p q,c≠b->(St.kill A.h b ms).get c=some o->o.live=true->o.own=true->φ c=some p->φ b=some q->p.blk≠q.blk:=by
   intro c o p q hcb hc lo oo hp hq hblk
   obtain ⟨hc',hn⟩:=keep c o hc lo
   obtain ⟨r1,r2,ms',e1,e2,e3,e4,e5,e6⟩:=h.sep b c _ o q p (Ne.symm hcb) hb hc' rfl lo ho oo hq hp hblk.symm
   cases e1
   rw [hg] at e4;cases e4
   exact hn ⟨e6,hcb⟩
  refine ⟨⟨h1.dom,h1.lt,h1.obj,h1.key,?_,?_,?_,h1.env,h1.size,h1.old⟩,away⟩
  ·intro x y o u p q hxy hx hy lo lu oo ou ex ey hblk
   obtain ⟨hx',nx⟩:=keep x o hx lo
   obtain ⟨hy',ny⟩:=keep y u hy lu
   obtain ⟨r1,r2,ms',e1,e2,e3,e4,e5,e6⟩:=h.sep x y o u p q hxy hx' hy' lo lu oo ou ex ey hblk
   refine ⟨r1,r2,ms',e1,e2,e3,?_,e5,e6⟩
   simp only []
   rw [T.get_set]
   split
   ·rename_i e
    rw [e,hg] at e4;cases e4
    -- both are of the group: both are b
    have x1:x=b:=by
     rcases Classical.em (x=b) with g | g
     ·exact g
     ·exact absurd ⟨e5,g⟩ nx
    have y1:y=b:=by
     rcases Classical.em (y=b) with g | g
     ·exact g
     ·exact absurd ⟨e6,g⟩ ny
    exact absurd (x1.trans y1.symm) hxy
   ·exact e4
  ·intro g m ms' hgm x hx r1 s p q g1 g2 e1 e2 hblk
   simp only [] at hgm
   rw [T.get_set] at hgm
   split at hgm
   ·cases hgm;cases hx
   ·exact h1.tip g m ms' hgm x hx r1 s p q g1 g2 e1 e2 hblk
  ·intro g ms' hgm m hm
   simp only [] at hgm
   rw [T.get_set] at hgm
   split at hgm
   ·cases hgm
    obtain ⟨p,hp,_,hkk⟩:=h.obj b _ hb rfl
    simp only [List.mem_singleton] at hm
    subst hm
    exact ⟨p,hp,by have:(K p.blk).isNone=true:=hkk.trans ho;simpa using this⟩
   ·exact h1.grp g ms' hgm m hm
theorem WR.setObj (h:WR nm K base φ A w) {b:Nat} {o o':AObj} {p:Pl} {c:Obj} (hb:A.h.get b=some o) (hl:o.live=true) (hown:o.own=true) (hrow:∀ r,o≠.row r)
  (hrow':∀ r,o'≠.row r) (hown':o'.own=true)
  (hp:φ b=some p) (ho:OR nm φ (aZ w p.blk c).heap p o'):WR nm K base φ (A.setObj b o') (aZ w p.blk c):=by
 obtain ⟨p',hp',_,hK⟩:=h.obj b o hb hl
 rw [hp] at hp';cases hp'
 have far:∀ x u q,x≠b->A.h.get x=some u->u.live=true->φ x=some q->q.blk≠p.blk:=by
  intro x u q hx hu lu hq hblk
  obtain ⟨r1,_,_,e1,_⟩:=h.near (Ne.symm hx) hb hu hl lu hown hp hq hblk.symm
  exact hrow _ e1
 have old_set:∀ {x:Nat} {u:AObj} {q:Pl},(A.setObj b o').h.get x=some u->u.live=true->u.own=false->φ x=some q->q.blk < base.heap.size:=by
  intro x u q hx hl hu hq
  simp only [St.setObj] at hx
  by_cases e:x=b
  ·subst e;rw [T.get_set_same] at hx;cases hx;rw [show AObj.own o'=true from hown'] at hu;cases hu
  ·rw [T.get_set_other _ _ e] at hx;exact h.old x u q hx hl hu hq
 refine ⟨h.dom,fun x q hx=>by rw [jC];exact h.lt x q hx,?_,?_,?_,?_,h.grp,h.env,by rw [jC];exact h.size,fun x u q hx hl hu hq=>old_set hx hl hu hq⟩
 ·intro x u hx lu
  simp only [St.setObj] at hx
  rw [T.get_set] at hx
  split at hx
  ·rename_i e;subst e;cases hx
   exact ⟨p,hp,ho,by rw [hK,hown,hown']⟩
  ·rename_i e
   obtain ⟨q,h1,h2,h3⟩:=h.obj x u hx lu
   exact ⟨q,h1,h2.mono (Emb.le_refl φ) (jD w c (far x u q e hx lu h1)),h3⟩
 ·intro B u hB
  rw [jD w c]
  ·exact h.key B u hB
  ·rintro rfl
   rw [hB,hown] at hK;cases hK
 ·intro x y u v px py hxy hx hy lu lv ou ov ex ey hblk
  simp only [St.setObj] at hx hy
  rw [T.get_set] at hx hy
  split at hx
  ·rename_i e;subst e;cases hx
   split at hy
   ·rename_i e2;exact absurd e2.symm hxy
   ·rename_i e2
    rw [hp] at ex;cases ex
    exact absurd hblk.symm (far y v py e2 hy lv ey)
  ·rename_i e
   split at hy
   ·rename_i e2;subst e2;cases hy
    rw [hp] at ey;cases ey
    exact absurd hblk (far x u px e hx lu ex)
   ·exact h.sep x y u v px py hxy hx hy lu lv ou ov ex ey hblk
 ·intro g m ms hg x hx r s px py h1 h2 e1 e2 hblk
  simp only [St.setObj] at h1 h2
  rw [T.get_set] at h1 h2
  split at h1
  ·cases h1;exact absurd rfl (hrow' r)
  ·split at h2
   ·cases h2;exact absurd rfl (hrow' s)
   ·exact h.tip g m ms hg x hx r s px py h1 h2 e1 e2 hblk
theorem WR.setRow (h:WR nm K base φ A w) {b:Nat} {r r':Row} {p:Pl} {c:Obj} (hb:A.h.get b=some (.row r)) (hown:r.own=true) (hp:φ b=some p)
  (alone:∀ x u q,x≠b->A.h.get x=some u->u.live=true->u.own=true->φ x=some q->q.blk≠p.blk)
  (hown':r'.own=true) (hsz:r'.size=r.size)
  (ho:∃ cs fz,RowR nm φ (aZ w p.blk c).heap p r' cs fz):WR nm K base φ (A.setObj b (.row r')) (aZ w p.blk c):=by
 obtain ⟨p',hp',_,hK⟩:=h.obj b _ hb rfl
 rw [hp] at hp';cases hp'
 have hKn:(K p.blk).isNone=true:=hK.trans hown
 have far:∀ x u q,x≠b->A.h.get x=some u->u.live=true->φ x=some q->q.blk≠p.blk:=by
  intro x u q hx hu lu hq hblk
  obtain ⟨q',e1,_,k⟩:=h.obj x u hu lu
  rw [hq] at e1;cases e1
  rw [hblk,hKn] at k
  exact alone x u q hx hu lu k.symm hq hblk
 have old_set:∀ {x:Nat} {u:AObj} {q:Pl},(A.setObj b (.row r')).h.get x=some u->u.live=true->u.own=false->φ x=some q->q.blk < base.heap.size:=by
  intro x u q hx hl hu hq
  simp only [St.setObj] at hx
  by_cases e:x=b
  ·subst e;rw [T.get_set_same] at hx;cases hx;rw [show AObj.own (.row r')=true from hown'] at hu;cases hu
  ·rw [T.get_set_other _ _ e] at hx;exact h.old x u q hx hl hu hq
 refine ⟨h.dom,fun x q hx=>by rw [jC];exact h.lt x q hx,?_,?_,?_,?_,h.grp,h.env,by rw [jC];exact h.size,fun x u q hx hl hu hq=>old_set hx hl hu hq⟩
 ·intro x u hx lu
  simp only [St.setObj] at hx
  rw [T.get_set] at hx
  split at hx
  ·rename_i e;subst e;cases hx
   exact ⟨p,hp,ho,by rw [hKn];exact hown'.symm⟩
  ·rename_i e
   obtain ⟨q,h1,h2,h3⟩:=h.obj x u hx lu
   exact ⟨q,h1,h2.mono (Emb.le_refl φ) (jD w c (far x u q e hx lu h1)),h3⟩
 ·intro B u hB
  rw [jD w c]
  ·exact h.key B u hB
  ·rintro rfl
   rw [hB] at hKn;cases hKn
 ·intro x y u v px py hxy hx hy lu lv ou ov ex ey hblk
  simp only [St.setObj] at hx hy
  rw [T.get_set] at hx hy
  split at hx
  ·rename_i e;subst e
   split at hy
   ·rename_i e2;exact absurd e2.symm hxy
   ·rename_i e2
    rw [hp] at ex;cases ex
    exact absurd hblk.symm (far y v py e2 hy lv ey)
  ·rename_i e
   split at hy
   ·rename_i e2;subst e2
    rw [hp] at ey;cases ey
    exact absurd hblk (far x u px e hx lu ex)
   ·exact h.sep x y u v px py hxy hx hy lu lv ou ov ex ey hblk
 ·intro g m ms hg x hx r1 s1 px py h1 h2 e1 e2 hblk
  simp only [St.setObj] at h1 h2
  rw [T.get_set] at h1 h2
  have hbx:∀ y s,(if y=b then some (AObj.row r') else A.h.get y)=some (.row s)->∃ s0,A.h.get y=some (.row s0)/\s0.size=s.size:=by
   intro y s hy
   split at hy
   ·rename_i e;subst e;cases hy;exact ⟨r,hb,hsz.symm⟩
   ·exact ⟨s,hy,rfl⟩
  obtain ⟨r0,g1,g2⟩:=hbx _ _ h1
  obtain ⟨s0,g3,g4⟩:=hbx _ _ h2
  have:=h.tip g m ms hg x hx r0 s0 px py g1 g3 e1 e2 hblk
  rw [g2,g4] at this
  exact this
theorem WR.store (h:WR nm K base φ A w) {a:Addr} {vs cvs:List Value} {A':St} (hs:A.storeN a vs=some A') (hv:LR nm φ vs cvs) {p:Pl} (hp:φ a.block=some p) :
  ∃ w',(storeCells ⟨p.blk,p.off+a.off,none⟩ cvs).run P w=.ok () w'/\WR nm K base φ A' w'/\A'.next=A.next:=by
 unfold St.storeN at hs
 split at hs
 ·cases hs
 split at hs
 ·rename_i r hr
  split at hs
  ·rename_i hc
   simp only [Bool.and_eq_true,decide_eq_true_eq,List.all_eq_true] at hc
   obtain ⟨⟨⟨hown,hfit⟩,hfrz⟩,hone⟩:=hc
   cases hs
   have hb:=dk hr
   obtain ⟨h1,away⟩:=h.alone hb hown
   obtain ⟨q,hq,⟨cs,fz,ho⟩,_⟩:=h.obj a.block _ hb rfl
   rw [hp] at hq;cases hq
   have hlen:=hv.length
   have hrun:=ql P p.blk (p.off+a.off) r.elem fz cvs 0 cs w ho.blk (by have:=ho.fit;omega)
    (fun v hm=>by
     obtain ⟨i,hi⟩:=List.getElem?_of_mem hm
     have hi':i < vs.length:=by
      rcases Nat.lt_or_ge i vs.length with g | g
      ·exact g
      ·rw [List.getElem?_eq_none (by omega)] at hi;cases hi
     obtain ⟨v',e1,e2⟩:=hv.get? (List.getElem?_eq_getElem hi')
     rw [hi] at e1;cases e1
     rw [e2.one]
     exact hone _ (List.getElem_mem hi'))
    (fun j g1 g2 g3=>by
     have:=ho.frz hown j g3.1 g3.2 (by have:=ho.fit;omega)
     omega)
   refine ⟨_,hrun,?_,qn _ _⟩
   refine h1.setRow (qm _ _ hb) hown hp (fun x u q hx hu lu ou hq=>away x u q p hx hu lu ou hq hp) hown rfl ?_
   refine ⟨spl cs (p.off+a.off+0) cvs,fz,?_⟩
   have hlt:=h.lt _ _ hp
   refine { blk:=cd w _ hlt,csz:=by rw [cH];exact ho.csz,opn:=ho.opn,esz:=ho.esz,fit:=by rw [cH];exact ho.fit,cell:=?_,frz:=?_,sb:=?_,exact:=by rw [cH];exact ho.exact }
   ·intro i hi
    simp only [T.get_setL]
    rw [kZ _ _ _ _ (by have:=ho.fit;omega)]
    by_cases g:a.off<=i/\i < a.off+vs.length
    ·rw [if_pos g,if_pos (by omega)]
     obtain ⟨v',e1,e2⟩:=hv.get? (List.getElem?_eq_getElem (show i - a.off < vs.length by omega))
     refine ⟨_,List.getElem?_eq_getElem (by omega),?_⟩
     rw [show p.off+i - (p.off+a.off+0)=i - a.off from by omega,List.getD_eq_getElem?_getD,e1]
     exact e2
    ·rw [if_neg g,if_neg (by omega)]
     exact ho.cell i hi
   ·intro o j;rw [cH];exact ho.frz o j
   ·intro o;rw [cH];exact ho.sb o
  ·cases hs
 ·cases hs
end
end Go.AM
namespace Go.AM
def rowOf (name:String):Array Value->Sem Value :=
 if name = "internal/bytealg.IndexByteString" \/ name = "internal/bytealg.IndexByte" then Extern.BytealgIndexByte.indexByte
 else if name = "internal/abi.NoEscape" then Extern.AbiNoEscape.same
 else if name = "internal/bytealg.abigen_runtime_cmpstring" then Extern.BytealgCompare.compare
 else Extern.BytealgCount.count
structure EnvOk (E:Env) (P:Program) (nm:Nm):Prop where
 prog:E.P=P
 inf:∀ t i,E.inf t=some i->P.info? t=some i
 fn:∀ f g,E.fn.get f=some g->P.funcs[f]? = some g
 sl:∀ l,E.sl.contains l=true->nm.data.toList≠l
 names:∀ (f:Nat) (g:Func),P.funcs[f]? = some g->(g.name == "runtime.NumGoroutine")=false
 mix:P.follows .mixedOrders=true
 known:∀ k,k∈E.known->KnownOk P nm k
 xt:∀ f as k,E.xt f as=some k->KnownOk P nm k/\k.f=f/\k.args=as
 xr:∀ f cs rest v,E.xr f cs rest=some v->cs.all aH=true->rest.all aH=true->∀ (w:World) (x:Value),kc w cs x->Calls P f (x::rest).toArray w fun e w'=>e=.returned v/\ke w w'
 ext:∀ (f:Nat) (g:Func),P.funcs[f]? = some g->g.body=none ->
  (g.name = "internal/bytealg.IndexByteString" \/ g.name = "internal/bytealg.IndexByte" \/ g.name = "internal/abi.NoEscape" \/ g.name = "internal/bytealg.abigen_runtime_cmpstring" \/ g.name = "internal/bytealg.CountString") ->
  Extern.findNext g=none/\Extern.find g=some (rowOf g.name)
section
variable {E:Env} {P:Program} {nm:Nm}
theorem EnvOk.und (ok:EnvOk E P nm) {t:TypeId} {d:TypeDesc} (h:E.und t=some d):P.underlying t=some d:=by
 unfold Env.und at h
 split at h
 ·rename_i i hi
  have h1:=ok.inf _ _ hi
  unfold Program.underlying
  rw [h1]
  split at h
  ·rename_i nme u hd
   split at h
   ·rename_i j hj
    have h2:=ok.inf _ _ hj
    cases h
    obtain ⟨desc,str,size,bytes,hasP,al,fal,zero,comp,meth⟩:=i
    simp only [] at hd
    subst hd
    simp [h2]
   ·cases h
  ·rename_i hne
   cases h
   obtain ⟨desc,str,size,bytes,hasP,al,fal,zero,comp,meth⟩:=i
   simp only [] at hne ⊢
   cases desc <;> first | rfl | (exact absurd rfl (hne _ _))
 ·cases h
theorem EnvOk.run_und (ok:EnvOk E P nm) {t:TypeId} {d:TypeDesc} (h:E.und t=some d) (w:World):(underlying t).run P w=.ok d w:=run_underlying (ok.und h) w
theorem EnvOk.run_inf (ok:EnvOk E P nm) {t:TypeId} {i:TypeInfo} (h:E.inf t=some i) (w:World):(typeInfo t).run P w=.ok i w:=run_typeInfo w (ok.inf _ _ h)
theorem qo {t:TypeId} {n:Nat} (h:E.size t=some n):∃ i,E.inf t=some i/\i.size=n:=by
 unfold Env.size at h
 cases hi:E.inf t with
 | none=>simp [hi] at h
 | some i=>simp [hi] at h;exact ⟨i,rfl,h⟩
theorem EnvOk.run_size (ok:EnvOk E P nm) {t:TypeId} {n:Nat} (h:E.size t=some n) (w:World):(sizeOf t).run P w=.ok n w:=by
 obtain ⟨i,hi,rfl⟩:=qo h
 simp [sizeOf,ok.run_inf hi w]
theorem EnvOk.run_zero (ok:EnvOk E P nm) {t:TypeId} {v:Value} (h:E.zero t=some v) (w:World):(zeroValue t).run P w=.ok v w:=by
 unfold Env.zero at h
 split at h
 ·rename_i i hi
  split at h
  ·rename_i z hz
   split at h
   ·cases h
    simp [zeroValue,ok.run_inf hi w,hz]
   ·cases h
  ·cases h
 ·cases h
theorem dR {t:TypeId} {v:Value} (h:E.zero t=some v):aH v=true:=by
 unfold Env.zero at h
 split at h
 ·split at h
  ·split at h
   ·rename_i hp;cases h;exact hp
   ·cases h
  ·cases h
 ·cases h
theorem fk {t:TypeId} {v:Value} (h:E.zero t=some v) (φ:Emb):LR nm φ v.cells.toList v.cells.toList:=(VR.of_plainV (dR h)).cells
theorem EnvOk.run_agg (ok:EnvOk E P nm) {t:TypeId} {b:Bool} (h:E.agg t=some b) (w:World):(isAgg t).run P w=.ok b w:=by
 unfold Env.agg at h
 cases hd:E.und t with
 | none=>simp [hd] at h
 | some d =>
  simp [hd] at h
  simp only [isAgg,Sem.run_bind,ok.run_und hd w,Result.andThen_ok]
  subst h
  cases d <;> rfl
theorem EnvOk.run_loadV_aux (ok:EnvOk E P nm) {t:TypeId} {n:Nat} {vs:List Value} {a:Addr} {w:World} (hb:E.agg t=some true) (hs:E.size t=some n) (hl:(loadCells a n).run P w=.ok vs.toArray w) :
  (loadVar t a).run P w=.ok (.agg vs.toArray) w:=by
 simp [loadVar,ok.run_agg hb w,ok.run_size hs w,hl]
end
inductive TR (nm:Nm) (φ:Emb):Target->Target->Prop where
 | fn (f f':Fn) (c c':Array Value):FnR φ f f'->AR nm φ c c'->TR nm φ (.fn f c) (.fn f' c')
 | nil:TR nm φ .nil .nil
 | builtin (b:Builtin) (ts:Array TypeId) (t:TypeId) (cs:Array Bool):TR nm φ (.builtin b ts t cs) (.builtin b ts t cs)
 | collected (r:Nat) (p:Pl):φ r=some p->TR nm φ (.collected r) (.collected p.blk)
structure DR (nm:Nm) (φ:Emb) (d d':Deferred):Prop where
 target:TR nm φ d.target d'.target
 args:AR nm φ d.args d'.args
def NxR (P:Program) (nm:Nm) (φ:Emb) (s:Sem Next) (w w':World):Nx->Prop
 | .val v=>∃ v',VR nm φ v v'/\s.run P w=.ok (.value v') w'
 | .skip=>s.run P w=.ok .skip w'
 | .dfr d=>∃ d',(DR nm φ d d')/\s.run P w=.ok (.defer d') w'
 | .enter f args=>∃ args':Array Value,LR nm φ args args'.toList/\s.run P w=.ok (.enter f args') w'/\(∃ fn:Func,P.funcs[f]? = some fn/\fn.body.isSome=true)
 | .round l args=>∃ (args':Array Value) (p:Pl),φ l=some p/\LR nm φ args args'.toList/\s.run P w=(Instr.yield p.blk args').run P w'
 | .recov=>s.run P w=.ok .recover w'
 | .pan v=>∃ v',VR nm φ v v'/\s.run P w=.halt (.panic v') w'
section
variable {E:Env} {P:Program} {nm:Nm} {K:Kp} {base:World} {φ:Emb} {A A':St} {w:World}
def Goal (P:Program) (nm:Nm) (K:Kp) (base:World) (φ:Emb) (A:St) (w:World) (s:Sem Next) (nx:Nx) (A':St):Prop :=
 ∃ φ' w',Emb.ext A.next φ φ'/\A.next<=A'.next/\WR nm K base φ' A' w'/\NxR P nm φ' s w w' nx
theorem cf {s:Sem Value} {v v':Value} {φ':Emb} {w':World} (he:Emb.ext A.next φ φ') (hn:A.next<=A'.next) (hW:WR nm K base φ' A' w') (hv:VR nm φ' v v')
  (hr:s.run P w=.ok v' w'):Goal P nm K base φ A w (s >>= fun x=>pure (Next.value x)) (.val v) A' :=
 ⟨φ',w',he,hn,hW,v',hv,by simp [hr]⟩
theorem aN {s:Sem Value} {v v':Value} (hW:WR nm K base φ A w) (hv:VR nm φ v v') (hr:s.run P w=.ok v' w) :
  Goal P nm K base φ A w (s >>= fun x=>pure (Next.value x)) (.val v) A:=cf (Emb.ext_refl _ _) (Nat.le_refl _) hW hv hr
theorem bY {v v':Value} (hW:WR nm K base φ A w) (hv:VR nm φ v v'):Goal P nm K base φ A w (pure (Next.value v')) (.val v) A :=
 ⟨φ,w,Emb.ext_refl _ _,Nat.le_refl _,hW,v',hv,rfl⟩
theorem kg {s:Sem Unit} {w':World} (hn:A'.next=A.next) (hW:WR nm K base φ A' w') (hr:s.run P w=.ok () w'):Goal P nm K base φ A w (s >>= fun _=>pure Next.skip) .skip A' :=
 ⟨φ,w',Emb.ext_refl _ _,by rw [hn];exact Nat.le_refl _,hW,by simp [NxR,hr]⟩
theorem ez {s:Sem Next} {v v':Value} (hW:WR nm K base φ A w) (hv:VR nm φ v v') (hr:s.run P w=.halt (.panic v') w):Goal P nm K base φ A w s (.pan v) A :=
 ⟨φ,w,Emb.ext_refl _ _,Nat.le_refl _,hW,v',hv,hr⟩
theorem qp (ok:EnvOk E P nm) (h:WR nm K base φ A w) {t:TypeId} {a:Addr} {v:Value} (hl:dA E A t a=some v) {p:Pl} (hp:φ a.block=some p) :
  ∃ v',VR nm φ v v'/\(loadVar t ⟨p.blk,p.off+a.off,none⟩).run P w=.ok v' w:=by
 unfold dA at hl
 split at hl
 ·rename_i hb
  split at hl
  ·rename_i n hs
   split at hl
   ·rename_i vs hv
    cases hl
    obtain ⟨cvs,hr⟩:=h.load hv hp
    refine ⟨.agg cvs.toArray,.agg' (by simpa [AR] using hr.rel),?_⟩
    exact ok.run_loadV_aux hb hs hr.run
   ·cases hl
  ·cases hl
 ·rename_i hb
  split at hl
  ·rename_i v0 hv
   cases hl
   obtain ⟨cvs,hr⟩:=h.load hv hp
   obtain ⟨v',m,rfl,h1,h2⟩:=hr.rel.cons_inv
   refine ⟨v',h1,?_⟩
   have hc:=hr.cell 0 v' (by simp)
   rw [cW] at hc
   simp [loadVar,ok.run_agg hb w,Nat.add_zero] at hc ⊢
   simp [hc]
  ·cases hl
 ·cases hl
theorem xw (ok:EnvOk E P nm) (h:WR nm K base φ A w) {t:TypeId} {a:Addr} {v v':Value} (hl:jz E A t a v=some A') (hv:VR nm φ v v') {p:Pl} (hp:φ a.block=some p) :
  ∃ w',(storeVar t ⟨p.blk,p.off+a.off,none⟩ v').run P w=.ok () w'/\WR nm K base φ A' w'/\A'.next=A.next:=by
 unfold jz at hl
 split at hl
 ·rename_i n hs
  split at hl
  ·rename_i hc
   obtain ⟨w',h1,h2,h3⟩:=h.store (P:=P) hl hv.cells hp
   refine ⟨w',?_,h2,h3⟩
   have hsz:v'.cells.size=n:=by
    have:=AR.size hv.cells
    rw [<- this];simpa using hc
   simp only [storeVar,Sem.run_bind,ok.run_size hs w,Result.andThen_ok,ne_eq,hsz,not_true,if_false]
   exact h1
  ·cases hl
 ·cases hl
def fm (elem:TypeId) (cells:List Value) (b:Nat):AObj :=
 .row { own:=true,size:=cells.length,cells:=T.ofList cells,elem,esz:=0,opn:=false,grp:=b,frz:=0,sb:=false }
def bQ (w:World) (n:Nat):Pl:={ blk:=w.heap.size,off:=0,csz:=n,esz:=0,opn:=false }
theorem xx {elem:TypeId} {cells cvs:List Value} (b:Nat) (hv:LR nm φ cells cvs) :
  OR nm φ (w.heap.push (.cells cvs.toArray elem)) (bQ w cvs.length) (fm elem cells b):=by
 have hlen:=hv.length
 refine ⟨cvs.toArray,(0,0),?_⟩
 refine { blk:=by simp [bQ],csz:=by simp [bQ],opn:=rfl,esz:=fun h=>by simp at h,fit:=by simp [bQ,hlen],cell:=?_,frz:=fun _ j h1 h2=>by simp at h2,sb:=fun _ _=>.inl rfl,exact:=fun _=>⟨rfl,by simp [hlen]⟩ }
 intro i hi
 simp only [] at hi
 refine ⟨_,(T.get_ofList cells i).trans (List.getElem?_eq_getElem hi),?_⟩
 have:=hv.2 i hi
 simp only [bQ,Nat.zero_add]
 rw [List.getD_eq_getElem?_getD,List.getElem?_eq_getElem hi] at this
 rw [<- ep]
 simpa using this
end
end Go.AM
namespace Go.AM
section
variable {E:Env} {P:Program} {nm:Nm} {K:Kp} {base:World} {φ:Emb} {A A':St} {w:World} {ρ ρ':Operand->Value} {nx:Nx}
theorem qq {α:Type}:∀ (s:Sem α) (a:α),aR P s=some (.ok a)->∀ w,s.run P w=.ok a w:=by
 intro s
 induction s with
 | pure b=>intro a h w;simp only [aR,Option.some.injEq,Except.ok.injEq] at h;subst h;rfl
 | program k ih=>intro a h w;simp only [aR] at h;simp only [Sem.run];exact ih P a h w
 | halt x=>intro a h w;cases x <;> simp [aR] at h
 | _=>intro a h w;simp [aR] at h
theorem xy {α:Type}:∀ (s:Sem α) (v:Value),aR P s=some (.error v)->∀ w,s.run P w=.halt (.panic v) w:=by
 intro s
 induction s with
 | pure b=>intro a h w;simp [aR] at h
 | program k ih=>intro a h w;simp only [aR] at h;simp only [Sem.run];exact ih P a h w
 | halt x=>intro a h w;cases x <;> simp [aR] at h;subst h;rfl
 | _=>intro a h w;simp [aR] at h
theorem nC {f g:Operand->Value} (x:Option Operand) (h:∀ y,x=some y->f y=g y):x.map f=x.map g:=by
 cases x with
 | none=>rfl
 | some y=>simp [h y rfl]
theorem execOp_congr (o:Oper) (hp:dD o=true) (h:∀ x,x∈o.op.operands.toList->ρ' x=ρ x):execOp ρ' o=execOp ρ o:=by
 unfold dD at hp
 unfold execOp
 cases hop:o.op <;> simp only [hop] at hp h ⊢ <;> first
  | (cases hp;done)
  | skip
 case binOp op t x y u=>rw [h x (by simp [Op.operands]),h y (by simp [Op.operands])]
 case unOp op t x=>rw [h x (by simp [Op.operands])]
 case convert a b x=>rw [h x (by simp [Op.operands])]
 case makeInterface t x=>rw [h x (by simp [Op.operands])]
 case field t x f=>rw [h x (by simp [Op.operands])]
 case index t x i=>rw [h x (by simp [Op.operands]),h i (by simp [Op.operands])]
 case typeAssert x a b c=>rw [h x (by simp [Op.operands])]
 case extract x i=>rw [h x (by simp [Op.operands])]
 case slice t x lo hi mx =>
  rw [h x (by simp [Op.operands]),nC lo (fun y e=>h y (by simp [Op.operands,e])),nC hi (fun y e=>h y (by simp [Op.operands,e])),nC mx (fun y e=>h y (by simp [Op.operands,e]))]
 case build t parts =>
  have:(parts.map fun (x:Nat×Operand)=>(x.1,ρ' x.2))=(parts.map fun (x:Nat×Operand)=>(x.1,ρ x.2)):=by
   apply Array.map_congr_left
   intro p hpm
   rw [h p.2 (by simp only [Op.operands,List.mem_map];exact ⟨p,by simpa using hpm,rfl⟩)]
  rw [this]
theorem nD (ok:EnvOk E P nm) (h:WR nm K base φ A w) (o:Oper) (hρ:∀ x,x∈o.op.operands.toList->VR nm φ (ρ x) (ρ' x)) (hx:cT E A ρ o=some (nx,A')) :
  Goal P nm K base φ A w (execOp ρ' o) nx A':=by
 unfold cT at hx
 split at hx
 ·rename_i hc
  rw [Bool.and_eq_true,List.all_eq_true] at hc
  have hcong:execOp ρ' o=execOp ρ o:=execOp_congr o hc.1 fun x hm=>(hρ x hm).plainV_eq (hc.2 _ (List.mem_map_of_mem hm))
  rw [hcong]
  rw [ok.prog] at hx
  split at hx
  ·rename_i v hr
   split at hx
   ·rename_i hpv
    cases hx
    exact ⟨φ,w,Emb.ext_refl _ _,Nat.le_refl _,h,v,.of_plainV hpv,qq _ _ hr w⟩
   ·cases hx
  ·rename_i v hr
   split at hx
   ·rename_i hpv
    cases hx
    exact ez h (.of_plainV hpv) (xy _ _ hr w)
   ·cases hx
  ·cases hx
 ·cases hx
theorem VR.bool_inv {b:Bool} {c:Value} (h:VR nm φ (.bool b) c):c=.bool b:=by cases h;rfl
theorem VR.int_inv {k:IntKind} {n:Int} {c:Value} (h:VR nm φ (.int k n) c):c=.int k n:=by cases h;rfl
theorem VR.str_inv {s:ByteArray} {c:Value} (h:VR nm φ (.string s) c):c=.string s:=by cases h;rfl
theorem VR.ptr_inv {a:Addr} {c:Value} (h:VR nm φ (.pointer (some a)) c):∃ p,φ a.block=some p/\a.spot=none/\c=.pointer (some ⟨p.blk,p.off+a.off,none⟩):=by
 cases h with
 | ptr a p h1 h2=>exact ⟨p,h1,h2,rfl⟩
theorem VR.map_inv {r:Nat} {c:Value} (h:VR nm φ (.map (some r)) c):∃ p,φ r=some p/\c=.map (some p.blk):=by
 cases h with
 | map r p h1=>exact ⟨p,h1,rfl⟩
theorem VR.iface_inv {t:TypeId} {v c:Value} (h:VR nm φ (.iface t v) c):∃ v',c=.iface t v'/\VR nm φ v v':=by
 cases h with
 | iface t v v' h1=>exact ⟨v',rfl,h1⟩
theorem VR.nils_inv {l k:Nat} {c:Value} (h:VR nm φ (.slice none l k) c):c=.slice none l k:=by cases h;rfl
theorem VR.slc_inv {a:Addr} {l k:Nat} {c:Value} (h:VR nm φ (.slice (some a) l k) c):∃ a' k' p,c=.slice (some a') l k'/\φ a.block=some p/\a.spot=none/\(k'=0\/a'.block=p.blk)/\(k'=0\/a'.spot=none) /\
  (k'=0\/a'.off=p.off+a.off)/\(p.opn=false->k'=k)/\(p.opn=true->k<=k'/\a'.off+k' * p.esz<=p.csz)/\l<=k:=by
 cases h with
 | slc a a' l c c' p h1 h2 h3 h4 h5 h6 h7 h8=>exact ⟨a',c',p,rfl,h1,h2,h3,h4,h5,h6,h7,h8⟩
theorem xz (h:WR nm K base φ A w) (c a b:Operand) (hc:VR nm φ (ρ c) (ρ' c)) (ha:VR nm φ (ρ a) (ρ' a)) (hb:VR nm φ (ρ b) (ρ' b))
  (hx:gW A ρ c a b=some (nx,A')):Goal P nm K base φ A w (asBool (ρ' c) >>= fun t=>pure (Next.value (if t then ρ' a else ρ' b))) nx A':=by
 unfold gW at hx
 split at hx
 ·rename_i t ht
  cases hx
  rw [ht] at hc
  rw [hc.bool_inv]
  refine ⟨φ,w,Emb.ext_refl _ _,Nat.le_refl _,h,(if t then ρ' a else ρ' b),?_,by simp [asBool]⟩
  cases t
  ·exact hb
  ·exact ha
 ·cases hx
theorem yA (ok:EnvOk E P nm) (h:WR nm K base φ A w) (t:TypeId) (a:Operand) (ha:VR nm φ (ρ a) (ρ' a)) (hx:gX E A ρ t a=some (nx,A')) :
  Goal P nm K base φ A w (Instr.loadAt t (ρ' a) >>= fun x=>pure (Next.value x)) nx A':=by
 unfold gX at hx
 split at hx
 ·rename_i ad hd
  split at hx
  ·rename_i v hv
   cases hx
   rw [hd] at ha
   obtain ⟨p,h1,h2,h3⟩:=ha.ptr_inv
   obtain ⟨v',g1,g2⟩:=qp ok h hv h1
   refine aN h g1 ?_
   rw [h3]
   simp only [Instr.loadAt,Instr.sureAddr,Sem.run_bind,Sem.run_pure,Result.andThen_ok]
   exact g2
  ·cases hx
 ·cases hx
theorem yB (ok:EnvOk E P nm) (h:WR nm K base φ A w) (t:TypeId) (a x:Operand) (ha:VR nm φ (ρ a) (ρ' a)) (hv:VR nm φ (ρ x) (ρ' x)) (hx:kI E A ρ t a x=some (nx,A')) :
  Goal P nm K base φ A w (Instr.storeAt t (ρ' a) (ρ' x) >>= fun _=>pure Next.skip) nx A':=by
 unfold kI at hx
 split at hx
 ·rename_i ad hd
  split at hx
  ·rename_i A1 hs
   cases hx
   rw [hd] at ha
   obtain ⟨p,h1,h2,h3⟩:=ha.ptr_inv
   obtain ⟨w',g1,g2,g3⟩:=xw (P:=P) ok h hs hv h1
   refine kg g3 g2 ?_
   rw [h3]
   simp only [Instr.storeAt,Instr.sureAddr,Sem.run_bind,Sem.run_pure,Result.andThen_ok]
   exact g1
  ·cases hx
 ·cases hx
def Fresh (P:Program) (nm:Nm) (φ:Emb) (w:World) (s:Sem Next) (v:Nat->Value) (o:Nat->AObj):Prop :=
 ∃ (c:Obj) (v':Value) (p:Pl),s.run P w=.ok (.value v') (w.alloc c)/\p.blk=w.heap.size /\
  ∀ b,φ b=none->OR nm (φ.upd b p) (w.heap.push c) p (o b)/\(o b).own=true/\VR nm (φ.upd b p) (v b) v'
theorem Fresh.goal {s:Sem Next} {v:Nat->Value} {o:Nat->AObj} (h:WR nm K base φ A w) (f:Fresh P nm φ w s v o) :
  Goal P nm K base φ A w s (.val (v A.next)) { A with next:=A.next+1,h:=A.h.set A.next (o A.next) }:=by
 obtain ⟨c,v',p,h1,h2,h3⟩:=f
 have hn:=h.dom A.next (Nat.le_refl _)
 obtain ⟨g1,g2,g3⟩:=h3 A.next hn
 exact ⟨φ.upd A.next p,w.alloc c,Emb.upd_ext _ _ _,Nat.le_succ _,h.new A.next p _ c (A.next+1) hn (Nat.le_succ _) (Nat.lt_succ_self _) h2 g1 g2,v',g3,h1⟩
theorem ki {e:TypeId} {cells cvs:List Value} {s:Sem Next} {v:Nat->Value} {v':Value} (hc:LR nm φ cells cvs)
  (hs:s.run P w=.ok (.value v') (w.alloc (.cells cvs.toArray e)))
  (hv:∀ b,VR nm (φ.upd b (bQ w cvs.length)) (v b) v'):Fresh P nm φ w s v (fm e cells) :=
 ⟨_,v',bQ w cvs.length,hs,rfl,fun b hb=>⟨xx b (hc.mono (Emb.upd_le _ hb)),rfl,hv b⟩⟩
theorem kj (e:TypeId) (cells:List Value):A.newRow e cells=(⟨A.next,0,none⟩,{ A with next:=A.next+1,h:=A.h.set A.next (fm e cells A.next) }):=rfl
theorem nE (b n:Nat):VR nm (φ.upd b (bQ w n)) (.pointer (some ⟨b,0,none⟩)) (.pointer (some ⟨w.heap.size,0,none⟩)) :=
 .ptr ⟨b,0,none⟩ (bQ w n) (Emb.upd_same _ _ _) rfl
theorem qt (b n l c:Nat) (hl:l<=c):VR nm (φ.upd b (bQ w n)) (.slice (some ⟨b,0,none⟩) l c) (.slice (some ⟨w.heap.size,0,none⟩) l c) :=
 .slc ⟨b,0,none⟩ ⟨w.heap.size,0,none⟩ l c c (bQ w n) (Emb.upd_same _ _ _) rfl (.inr rfl) (.inr rfl) (.inr rfl) (fun _=>rfl) (fun h=>by simp [bQ] at h) hl
theorem qu (ok:EnvOk E P nm) (t:TypeId) (hx:kG E A ρ t=some (nx,A')) :
  ∃ v o,nx=.val (v A.next)/\A'={ A with next:=A.next+1,h:=A.h.set A.next (o A.next) }/\Fresh P nm φ w (Instr.alloc t true (.tuple #[]) >>= fun x=>pure (Next.value x)) v o:=by
 unfold kG at hx
 split at hx
 ·rename_i z hzz
  rw [kj] at hx
  cases hx
  refine ⟨fun b=>.pointer (some ⟨b,0,none⟩),fm t z.cells.toList,rfl,rfl,?_⟩
  refine ki (fk hzz φ) (v':=.pointer (some ⟨w.heap.size,0,none⟩)) ?_ (fun b=>nE b _)
  simp [Instr.alloc,ok.run_zero hzz w,newVar,newRow]
 ·cases hx
theorem qx (t:TypeId) (x:Operand) (hr:VR nm φ (ρ x) (ρ' x)) (hx:kH A ρ t x=some (nx,A')) :
  ∃ v o,nx=.val (v A.next)/\A'={ A with next:=A.next+1,h:=A.h.set A.next (o A.next) }/\Fresh P nm φ w (Instr.box t (ρ' x) >>= fun x=>pure (Next.value x)) v o:=by
 unfold kH at hx
 rw [kj] at hx
 cases hx
 refine ⟨fun b=>.pointer (some ⟨b,0,none⟩),fm t (ρ x).cells.toList,rfl,rfl,?_⟩
 refine ki hr.cells (v':=.pointer (some ⟨w.heap.size,0,none⟩)) ?_ (fun b=>nE b _)
 simp [Instr.box,newVar,newRow]
end
end Go.AM
namespace Go.AM
section
variable {E:Env} {P:Program} {nm:Nm} {K:Kp} {base:World} {φ:Emb} {A A':St} {w:World} {ρ ρ':Operand->Value} {nx:Nx}
def PR (nm:Nm) (φ:Emb) (l l':List (Nat×Value)):Prop:=l.map (·.1)=l'.map (·.1)/\LR nm φ (l.map (·.2)) (l'.map (·.2))
theorem AR.setIfInBounds {a a':Array Value} (h:AR nm φ a a') (i:Nat) {v v':Value} (hv:VR nm φ v v'):AR nm φ (a.setIfInBounds i v) (a'.setIfInBounds i v'):=by
 refine .of_get? (by simpa using h.1) fun j u u' h1 h2=>?_
 simp only [Array.getElem?_toList,Array.getElem?_setIfInBounds] at h1 h2
 have hs:=AR.size h
 split at h1
 ·rename_i e
  split at h1
  ·rename_i hi
   rw [if_pos e] at h2
   rw [if_pos (hs ▸ hi)] at h2
   cases h1;cases h2;exact hv
  ·cases h1
 ·rename_i e
  rw [if_neg e] at h2
  obtain ⟨x,hx,hr⟩:=LR.get? h (i:=j) (by simpa using h1)
  have hx':a'[j]? = some x:=by simpa using hx
  rw [hx'] at h2;cases h2;exact hr
theorem qy (off:Nat):∀ (vs vs':List Value) (k:Nat) (cs cs':Array Value),LR nm φ vs vs'->AR nm φ cs cs' ->
  AR nm φ ((vs.zipIdx k).foldl (fun cs (x:Value×Nat)=>cs.setIfInBounds (off+x.2) x.1) cs) ((vs'.zipIdx k).foldl (fun cs (x:Value×Nat)=>cs.setIfInBounds (off+x.2) x.1) cs')
 | [],vs',k,cs,cs',h,hc=>by rw [h.nil_inv];exact hc
 | v::vs,vs',k,cs,cs',h,hc=>by
  obtain ⟨v',m,rfl,h1,h2⟩:=h.cons_inv
  simp only [List.zipIdx_cons,List.foldl_cons]
  exact qy off vs m (k+1) _ _ h2 (hc.setIfInBounds _ h1)
theorem kl (place:Nat->Option (Nat×Nat)):∀ (l l':List (Nat×Value)) (cs cs' r:Array Value),PR nm φ l l'->AR nm φ cs cs'->Instr.fill place cs l=some r ->
  ∃ r',Instr.fill place cs' l'=some r'/\AR nm φ r r'
 | [],l',cs,cs',r,h,hc,hf=>by
  have:l'=[]:=by have:=h.1;simpa using this.symm
  subst this
  simp only [Instr.fill,Option.some.injEq] at hf ⊢
  subst hf
  exact ⟨cs',rfl,hc⟩
 | (i,v)::l,l',cs,cs',r,h,hc,hf=>by
  cases l' with
  | nil=>have:=h.1;simp at this
  | cons x l' =>
   obtain ⟨i',v'⟩:=x
   have h1:=h.1
   simp only [List.map_cons,List.cons.injEq] at h1
   obtain ⟨e,h1⟩:=h1
   subst e
   have h2:LR nm φ (v::l.map (·.2)) (v'::l'.map (·.2)):=h.2
   simp only [Instr.fill] at hf ⊢
   cases hpl:place i with
   | none=>simp [hpl] at hf
   | some q =>
    obtain ⟨off,size⟩:=q
    simp only [hpl] at hf ⊢
    have hcs:=AR.size h2.head.cells
    have hsz:=AR.size hc
    split at hf
    ·cases hf
    ·rename_i hn
     rw [<- hcs,<- hsz,if_neg hn]
     have hcc:LR nm φ v.cells.toList v'.cells.toList:=h2.head.cells
     have key:=qy off v.cells.toList v'.cells.toList 0 cs cs' hcc hc
     have conv:∀ (c d:Array Value),(c.zipIdx.foldl (fun cs (x:Value×Nat)=>cs.setIfInBounds (off+x.2) x.1) d)=((c.toList.zipIdx 0).foldl (fun cs (x:Value×Nat)=>cs.setIfInBounds (off+x.2) x.1) d):=by
      intro c d
      rw [<- Array.foldl_toList,Array.toList_zipIdx]
     rw [<- conv,<- conv] at key
     exact kl place l l' _ _ r ⟨h1,h2.tail⟩ key hf
theorem qz (parts:Array (Nat×Operand)) (h:∀ x,x∈parts.toList.map (·.2)->VR nm φ (ρ x) (ρ' x)) :
  PR nm φ (parts.toList.map fun p=>(p.1,ρ p.2)) (parts.map fun (i,x)=>(i,ρ' x)).toList:=by
 rw [Array.toList_map]
 refine ⟨by simp [List.map_map,Function.comp_def],?_⟩
 rw [List.map_map,List.map_map]
 exact LR.map _ fun p hp=>h p.2 (List.mem_map_of_mem hp)
theorem LR.extract {a a':Array Value} (h:AR nm φ a a') (i j:Nat):AR nm φ (a.extract i j) (a'.extract i j):=by
 have:LR nm φ ((a.toList.take j).drop i) ((a'.toList.take j).drop i):=(LR.take h j).drop i
 simpa [AR,Array.toList_extract,List.extract_eq_take_drop,List.drop_take] using this
theorem rA (ok:EnvOk E P nm) {t:TypeId} {cs cs':Array Value} {off:Nat} {v:Value} (h:AR nm φ cs cs') (hp:gR E t cs off=some v) :
  ∃ v',VR nm φ v v'/\(part t cs' off).run P w=.ok v' w:=by
 unfold gR at hp
 split at hp
 ·rename_i hb
  split at hp
  ·rename_i n hs
   cases hp
   exact ⟨.agg (cs'.extract off (off+n)),.agg' (h.extract _ _),by simp [part,ok.run_agg hb w,ok.run_size hs w]⟩
  ·cases hp
 ·rename_i hb
  obtain ⟨v',h1,h2⟩:=LR.get? h (i:=off) (by simpa using hp)
  refine ⟨v',h2,?_⟩
  have h1':cs'[off]? = some v':=by simpa using h1
  simp [part,ok.run_agg hb w,h1']
 ·cases hp
theorem yC (ok:EnvOk E P nm) (h:WR nm K base φ A w) (t:TypeId) (x:Operand) (f:Nat) (hv:VR nm φ (ρ x) (ρ' x)) (hx:gZ E A ρ t x f=some (nx,A')) :
  Goal P nm K base φ A w (Instr.field t (ρ' x) f >>= fun x=>pure (Next.value x)) nx A':=by
 unfold gZ at hx
 split at hx
 ·rename_i fs cs hu hr
  split at hx
  ·rename_i fd hf
   split at hx
   ·rename_i v hp
    cases hx
    rw [hr] at hv
    obtain ⟨cs',e1,e2⟩:=hv.agg_inv
    obtain ⟨v',g1,g2⟩:=rA (w:=w) ok e2 hp
    refine aN h g1 ?_
    simp [Instr.field,ok.run_und hu w,hf,e1,asAgg,g2]
   ·cases hx
  ·cases hx
 ·cases hx
theorem yD (h:WR nm K base φ A w) (t:Operand) (i:Nat) (hv:VR nm φ (ρ t) (ρ' t)) (hx:iu A ρ t i=some (nx,A')) :
  Goal P nm K base φ A w (Instr.extract (ρ' t) i >>= fun x=>pure (Next.value x)) nx A':=by
 unfold iu at hx
 split at hx
 ·rename_i vs hr
  split at hx
  ·rename_i v hp
   cases hx
   rw [hr] at hv
   obtain ⟨cs',e1,e2⟩:=hv.tuple_inv
   obtain ⟨v',h1,h2⟩:=LR.get? e2 (i:=i) (by simpa using hp)
   have h1':cs'[i]? = some v':=by simpa using h1
   exact aN h h2 (by simp [Instr.extract,e1,h1'])
  ·cases hx
 ·cases hx
theorem yE (ok:EnvOk E P nm) (h:WR nm K base φ A w) (t:TypeId) (x:Operand) (hv:VR nm φ (ρ x) (ρ' x)) (hx:ic E A ρ t x=some (nx,A')) :
  Goal P nm K base φ A w (Instr.makeInterface t (ρ' x) >>= fun x=>pure (Next.value x)) nx A':=by
 unfold ic at hx
 split at hx
 ·cases hx
 ·rename_i d hn hu
  cases hx
  refine aN h (.iface _ _ _ hv) ?_
  simp only [Instr.makeInterface,Sem.run_bind,ok.run_und hu w,Result.andThen_ok]
  cases d <;> first | rfl | (exact absurd rfl (hn _))
 ·cases hx
theorem yF (ok:EnvOk E P nm) (fs:List Field) (places:List (Nat×Nat)) (h:fs.mapM (fun f=>(E.size f.type).map fun s=>(f.offset,s))=some places) :
  (fs.mapM (m:=Sem) (fun f=>do pure (f.offset,<- sizeOf f.type))).run P w=.ok places w:=by
 induction fs generalizing places with
 | nil=>simp at h;subst h;simp
 | cons f fs ih =>
  simp only [List.mapM_cons,Option.bind_eq_bind,Option.bind_eq_some_iff,Option.map_eq_some_iff,Option.pure_def,Option.some.injEq] at h
  obtain ⟨p,⟨s,hs,rfl⟩,ps,hps,rfl⟩:=h
  simp only [List.mapM_cons,Sem.run_bind,ok.run_size hs w,Result.andThen_ok,Sem.run_pure,ih ps hps]
theorem yG (ok:EnvOk E P nm) (h:WR nm K base φ A w) (t:TypeId) (parts:Array (Nat×Operand)) (hv:∀ x,x∈parts.toList.map (·.2)->VR nm φ (ρ x) (ρ' x))
  (hx:ed E A ρ t parts=some (nx,A')) :
  Goal P nm K base φ A w (Instr.build t (parts.map fun (i,x)=>(i,ρ' x)) >>= fun x=>pure (Next.value x)) nx A':=by
 have hp:=qz (nm:=nm) (φ:=φ) parts hv
 unfold ed at hx
 split at hx
 ·rename_i fs z hu hz
  split at hx
  ·rename_i places hpl
   split at hx
   ·rename_i cells hf
    cases hx
    obtain ⟨r',e1,e2⟩:=kl _ _ _ _ z.cells cells hp (fk hz φ) hf
    refine aN h (.agg' e2) ?_
    have hm:=yF (w:=w) ok fs.toList places hpl
    have hm':(fs.mapM (m:=Sem) (fun f=>do pure (f.offset,<- sizeOf f.type))).run P w=.ok places.toArray w:=by
     rw [Array.mapM_eq_mapM_toList]
     simp only [Sem.run_map,hm,Result.andThen_ok]
    simp only [Instr.build,Sem.run_bind,ok.run_zero hz w,ok.run_und hu w,Result.andThen_ok,Sem.run_pure,hm',e1]
   ·cases hx
  ·cases hx
 ·rename_i n e z hu hz
  split at hx
  ·rename_i s hs
   split at hx
   ·rename_i cells hf
    cases hx
    obtain ⟨r',e1,e2⟩:=kl _ _ _ _ z.cells cells hp (fk hz φ) hf
    refine aN h (.agg' e2) ?_
    simp only [Instr.build,Sem.run_bind,ok.run_zero hz w,ok.run_und hu w,Result.andThen_ok,Sem.run_pure,ok.run_size hs w,e1]
   ·cases hx
  ·cases hx
 ·cases hx
theorem yH (z:List Value) (n:Nat):(zeros z n).length=n * z.length:=by
 induction n with
 | zero=>simp [zeros]
 | succ n ih=>simp [zeros,ih,Nat.succ_mul,Nat.add_comm]
theorem rB (z:List Value):∀ (n i:Nat),i < n * z.length->(zeros z n)[i]? = z[i % z.length]?
 | 0,i,h=>by simp at h
 | n+1,i,h=>by
  simp only [zeros]
  rw [List.getElem?_append]
  split
  ·rename_i hi;rw [Nat.mod_eq_of_lt hi]
  ·rename_i hi
   rw [Nat.succ_mul] at h
   rw [rB z n (i - z.length) (by omega)]
   rw [Nat.mod_eq_sub_mod (by omega:i>=z.length)]
theorem jE (z:Array Value) (n s:Nat) (hs:z.size=s):(Array.range (n * s)).map (fun i=>z[i % z.size]!)=(zeros z.toList n).toArray:=by
 subst hs
 apply Array.ext_getElem?
 intro i
 by_cases h:i < n * z.size
 ·have hz:0 < z.size:=by
   rcases Nat.eq_zero_or_pos z.size with g | g
   ·rw [g] at h;simp at h
   ·exact g
  have hm:=Nat.mod_lt i hz
  simp only [Array.getElem?_map,List.getElem?_toArray]
  rw [rB _ _ _ (by simpa using h)]
  simp [h,getElem!_pos,hm]
 ·rw [Array.getElem?_eq_none (by simpa using h),List.getElem?_toArray,List.getElem?_eq_none (by rw [yH];simpa using h)]
theorem jF {z:List Value} (h:LR nm φ z z):∀ n,LR nm φ (zeros z n) (zeros z n)
 | 0=>.nil
 | n+1=>h.append (jF h n)
theorem rC (ok:EnvOk E P nm) (t:TypeId) (len:Nat) (parts:Array (Nat×Operand)) (hv:∀ x,x∈parts.toList.map (·.2)->VR nm φ (ρ x) (ρ' x))
  (hx:ib E A ρ t len parts=some (nx,A')) :
  ∃ v o,nx=.val (v A.next)/\A'={ A with next:=A.next+1,h:=A.h.set A.next (o A.next) } /\
   Fresh P nm φ w (Instr.buildSlice t len (parts.map fun (i,x)=>(i,ρ' x)) >>= fun x=>pure (Next.value x)) v o:=by
 have hp:=qz (nm:=nm) (φ:=φ) parts hv
 unfold ib at hx
 split at hx
 ·rename_i e hu
  split at hx
  ·rename_i s z hs hz
   split at hx
   ·cases hx
   ·rename_i hn
    split at hx
    ·rename_i cells hf
     rw [kj] at hx
     cases hx
     have hzs:z.cells.size=s:=by
      rcases Classical.em (z.cells.size=s) with g | g
      ·exact g
      ·exact absurd (.inr (.inr g)) hn
     have hs0:s≠0:=fun g=>hn (.inl g)
     have hbig:¬ (len * s > 16777216):=fun g=>hn (.inr (.inl g))
     obtain ⟨r',e1,e2⟩:=kl _ _ _ _ (zeros z.cells.toList len).toArray cells hp (by simpa [AR] using jF (fk hz φ) len) hf
     refine ⟨fun b=>.slice (some ⟨b,0,none⟩) len len,fm e cells.toList,rfl,rfl,?_⟩
     refine ki e2 (v':=.slice (some ⟨w.heap.size,0,none⟩) len len) ?_ (fun b=>qt b _ _ _ (Nat.le_refl _))
     rcases Nat.eq_zero_or_pos len with hl | hl
     ·subst hl
      have hz0:(zeros z.cells.toList 0).toArray=#[]:=rfl
      rw [hz0] at e1
      have hr:∀ f:Nat->Value,Array.map f (Array.range 0)=#[]:=fun f=>by simp
      simp only [Instr.buildSlice,Sem.run_bind,ok.run_und hu w,ok.run_size hs w,Result.andThen_ok,Nat.zero_mul]
      rw [if_neg (by simp),if_pos trivial]
      simp only [Sem.run_bind,Sem.run_pure,Result.andThen_ok,hr,e1]
      simp [newRow]
     ·have hne:¬ (len * s=0):=by
       intro g;rcases Nat.mul_eq_zero.1 g with g | g <;> omega
      have hbig':¬ (2 ^ 24 < len * s):=by omega
      simp only [Instr.buildSlice,Sem.run_bind,ok.run_und hu w,ok.run_size hs w,Result.andThen_ok]
      rw [if_neg (by simpa using hbig'),if_neg hne]
      simp only [Sem.run_bind,ok.run_zero hz w,Result.andThen_ok,Sem.run_pure]
      have hze:=jE z.cells len s hzs
      simp only [hze,e1]
      simp [newRow]
    ·cases hx
  ·cases hx
 ·cases hx
theorem rD (ok:EnvOk E P nm) (t:TypeId) (l c:Operand) (hl:VR nm φ (ρ l) (ρ' l)) (hc:VR nm φ (ρ c) (ρ' c)) (hx:kK E A ρ t l c=some (nx,A')) :
  ∃ v o,nx=.val (v A.next)/\A'={ A with next:=A.next+1,h:=A.h.set A.next (o A.next) } /\
   Fresh P nm φ w (Instr.makeSlice t (ρ' l) (ρ' c) >>= fun x=>pure (Next.value x)) v o:=by
 unfold kK at hx
 split at hx
 ·rename_i e k1 ln k2 cp hu h1 h2
  split at hx
  ·rename_i i hi
   split at hx
   ·rename_i z hz
    split at hx
    ·rename_i hcond
     obtain ⟨c1,c2,c3,c4,c5,c6⟩:=hcond
     rw [kj] at hx
     cases hx
     rw [h1] at hl;rw [h2] at hc
     have e1:=hl.int_inv
     have e2:=hc.int_inv
     obtain ⟨n,rfl⟩:=Int.eq_ofNat_of_zero_le c1
     obtain ⟨m,rfl⟩:=Int.eq_ofNat_of_zero_le (Int.le_trans c1 c2)
     have hs:E.size e=some i.size:=by simp [Env.size,hi]
     refine ⟨fun b=>.slice (some ⟨b,0,none⟩) n m,fm e (zeros z.cells.toList m),rfl,rfl,?_⟩
     refine ki (jF (fk hz φ) m) (v':=.slice (some ⟨w.heap.size,0,none⟩) n m) ?_ (fun b=>qt b _ _ _ (by omega))
     have w1:IntKind.i64.wrap (n:Int)=n:=by unfold IntKind.wrap;simp [IntKind.bits,IntKind.signed];omega
     have w2:IntKind.i64.wrap (m:Int)=m:=by unfold IntKind.wrap;simp [IntKind.bits,IntKind.signed];omega
     have hze:=jE z.cells m i.size c6
     have big:¬ ((2:Int) ^ 48 < (i.bytes:Int) * m):=by
      have:(i.bytes:Int) * m=m * i.bytes:=Int.mul_comm _ _
      omega
     have room:¬ (roomBytes < m * i.bytes):=by
      unfold roomBytes
      have:((m * i.bytes:Nat):Int)<=140737488355328:=by simpa using c3
      omega
     simp only [Instr.makeSlice,Sem.run_bind,ok.run_und hu w,Result.andThen_ok,e1,e2,asInt,asIntOf,Sem.run_pure,ok.run_inf hi w,w1,w2]
     have hcond2:(((decide ((m:Int) < 0)||decide ((i.bytes:Int) * m > 2 ^ 48))||decide ((n:Int) < 0))||decide ((n:Int) > m))=false:=by
      simp only [Bool.or_eq_false_iff,decide_eq_false_iff_not]
      refine ⟨⟨⟨by omega,by simpa using big⟩,by omega⟩,by omega⟩
     rw [if_neg (by rw [hcond2];simp)]
     simp only [Int.toNat_natCast,askRoom]
     rw [if_neg (by simpa using room)]
     simp only [Sem.run_bind,Sem.run_pure,Result.andThen_ok,ok.run_size hs w]
     rcases Nat.eq_zero_or_pos m with hm | hm
     ·subst hm
      have hr:∀ f:Nat->Value,Array.map f (Array.range 0)=#[]:=fun f=>by simp
      simp [newRow,zeros]
      rw [hr]
     ·have hne:¬ (m * i.size=0):=by
       intro g;rcases Nat.mul_eq_zero.1 g with g | g <;> omega
      rw [if_neg hne]
      simp only [Sem.run_bind,ok.run_zero hz w,Result.andThen_ok,Sem.run_pure,hze]
      simp [newRow]
    ·cases hx
   ·cases hx
  ·cases hx
 ·cases hx
theorem rE (t:TypeId) (r:Option Operand) (hx:kJ A ρ r=some (nx,A')) :
  ∃ v o,nx=.val (v A.next)/\A'={ A with next:=A.next+1,h:=A.h.set A.next (o A.next) } /\
   Fresh P nm φ w (Instr.makeMap t (r.map ρ') >>= fun x=>pure (Next.value x)) v o:=by
 unfold kJ at hx
 split at hx
 ·cases hx
  refine ⟨fun b=>.map (some b),fun _=>.map [] 0,rfl,rfl,?_⟩
  refine ⟨.map #[] 0,.map (some w.heap.size),bQ w 0,by simp [Instr.makeMap,newObj,Sem.run],rfl,fun b hb=>⟨⟨#[],by simp [bQ],rfl,fun i e c h=>by simp at h⟩,rfl,?_⟩⟩
  exact .map b (bQ w 0) (Emb.upd_same _ _ _)
 ·cases hx
end
end Go.AM
namespace Go.AM
section
variable {E:Env} {P:Program} {nm:Nm} {K:Kp} {base:World} {φ:Emb} {A A':St} {w:World} {ρ ρ':Operand->Value} {nx:Nx}
theorem jG:aH (nilDeref E)=true:=rfl
theorem jH {α:Type} (ok:EnvOk E P nm):(runtimePanic (α:=α) .nilDeref).run P w=.halt (.panic (nilDeref E)) w:=by
 simp [runtimePanic,program,Sem.run,goPanic,nilDeref,ok.prog]
theorem yI (ok:EnvOk E P nm) (h:WR nm K base φ A w) (x:Operand) (hv:VR nm φ (ρ x) (ρ' x)) (hx:ff E A ρ x=some (nx,A')) (o:Oper) (ho:o.op=.nilCheck x) :
  Goal P nm K base φ A w (execOp ρ' o) nx A':=by
 unfold ff at hx
 unfold execOp
 simp only [ho]
 revert hv hx
 generalize ρ' x=c
 generalize ρ x=v
 intro hv hx
 split at hx
 ·cases hx;cases hv;exact ez h (.of_plainV jG) (jH ok)
 ·cases hx;cases hv;exact ez h (.of_plainV jG) (jH ok)
 ·cases hx;cases hv;exact ez h (.of_plainV jG) (jH ok)
 ·rename_i f fi ca
  cases hx
  obtain ⟨f',a',b',rfl,h1,h2,h3⟩:=hv.func_inv
  cases h1
  exact bY h hv
 ·rename_i f fi ca
  cases hx
  obtain ⟨f',a',b',rfl,h1,h2,h3⟩:=hv.func_inv
  cases h1 with
  | yield l l' p g1 g2=>exact bY h (.func' (.yield _ _ p g1 g2) h2 h3)
 ·cases hx
 ·rename_i n1 n2 n3 n4 n5 n6
  cases hx
  cases hv with
  | nilp=>exact absurd rfl n1
  | nili=>exact absurd rfl n2
  | nilf=>exact absurd rfl n3
  | func f f' a a' c c' g1 g2 g3 g4 g5=>exact absurd rfl (n6 _ _ _)
  | bool b=>exact bY h (.bool b)
  | int k n=>exact bY h (.int k n)
  | str s=>exact bY h (.str s)
  | sym=>exact bY h .sym
  | ptr a p g1 g2=>exact bY h (.ptr a p g1 g2)
  | nils l c=>exact bY h (.nils l c)
  | slc a a' l c c' p h1 h2 h3 h4 h5 h6 h7 h8=>exact bY h (.slc a a' l c c' p h1 h2 h3 h4 h5 h6 h7 h8)
  | nilm=>exact bY h .nilm
  | map r p g1=>exact bY h (.map r p g1)
  | iface t v v' g=>exact bY h (.iface t v v' g)
  | agg a a' g1 g2=>exact bY h (.agg a a' g1 g2)
  | tuple a a' g1 g2=>exact bY h (.tuple a a' g1 g2)
theorem rF (k:IntKind) (n:Int):aV k n=k.wrap n:=by
 unfold aV
 split
 ·rename_i h
  cases k <;> simp only [lo,hi] at h <;> unfold IntKind.wrap <;> simp [IntKind.bits,IntKind.signed] <;> omega
 ·rfl
def bE:Value->Bool
 | .agg _ | .nilIface=>false
 | _=>true
theorem nF {op:BinOp} {t:TypeId} {x y:Operand} {a b:Value} (h:bE a=true):(eqGuard op t x y a b).run P w=.ok () w:=by
 cases op <;> first | rfl | (cases a <;> first | rfl | (simp [bE] at h))
theorem rG {op:BinOp} {t:TypeId} {x y:Operand} {a b:Value} (h:bE b=true):(eqGuard op t x y a b).run P w=.ok () w:=by
 cases op <;> first | rfl | (cases b <;> first | (simp [bE] at h;done) | (cases a <;> rfl))
theorem fast_ok (ok:EnvOk E P nm) (op:BinOp) (t:TypeId) {x y x' y' v:Value} (hx:VR nm φ x x') (hy:VR nm φ y y') (hf:cU E.sl op x y=some v) :
  (binOp op t x' y').run P w=.ok v w/\aH v=true/\bE x'=true:=by
 unfold cU at hf
 split at hf
 ·rename_i k a k' b
  rw [hx.int_inv,hy.int_inv]
  refine ⟨?_,?_,rfl⟩
  ·split at hf
   ·rename_i e
    subst e
    split at hf <;> cases hf <;> simp [binOp,Op.intArith,Op.intCmp,rF]
   ·cases hf
  ·split at hf
   ·split at hf <;> cases hf <;> rfl
   ·cases hf
 ·rename_i a b
  rw [hx.str_inv,hy.str_inv]
  refine ⟨?_,?_,rfl⟩
  ·split at hf <;> cases hf <;> simp [binOp,Op.stringOp,ByteArray.toList_eq]
  ·split at hf <;> cases hf <;> rfl
 ·rename_i b
  have hy':=hy.str_inv
  cases hx
  rw [hy']
  refine ⟨?_,?_,rfl⟩
  ·split at hf
   ·split at hf
    ·rename_i hc
     cases hf
     have hne:nm.data≠b.data:=fun e=>ok.sl _ hc (by rw [e])
     simp [binOp,Op.stringOp,ByteArray.toList_eq,hne]
    ·cases hf
   ·split at hf
    ·rename_i hc
     cases hf
     have hne:nm.data≠b.data:=fun e=>ok.sl _ hc (by rw [e])
     simp [binOp,Op.stringOp,ByteArray.toList_eq,hne]
    ·cases hf
   ·cases hf
  ·split at hf
   ·split at hf
    ·cases hf;rfl
    ·cases hf
   ·split at hf
    ·cases hf;rfl
    ·cases hf
   ·cases hf
 ·rename_i b
  have hx':=hx.str_inv
  cases hy
  rw [hx']
  refine ⟨?_,?_,rfl⟩
  ·split at hf
   ·split at hf
    ·rename_i hc
     cases hf
     have hne:nm.data≠b.data:=fun e=>ok.sl _ hc (by rw [e])
     simp [binOp,Op.stringOp,ByteArray.toList_eq,Ne.symm hne]
    ·cases hf
   ·split at hf
    ·rename_i hc
     cases hf
     have hne:nm.data≠b.data:=fun e=>ok.sl _ hc (by rw [e])
     simp [binOp,Op.stringOp,ByteArray.toList_eq,Ne.symm hne]
    ·cases hf
   ·cases hf
  ·split at hf
   ·split at hf
    ·cases hf;rfl
    ·cases hf
   ·split at hf
    ·cases hf;rfl
    ·cases hf
   ·cases hf
 ·cases hf
theorem yJ (ok:EnvOk E P nm) (n:Nat) (t:TypeId) (d:TypeDesc) {x y x' y':Value} {b:Bool} (hd:E.und t=some d) (hx:VR nm φ x x') (hy:VR nm φ y y') (hf:iX E d x y=some b) :
  (Op.equalIn (n+1) t x' y').run P w=.ok b w/\binOp .eql t x' y'=(Op.equal t x' y' >>= fun b=>pure (.bool b))/\binOp .neq t x' y'=(Op.equal t x' y' >>= fun b=>pure (.bool !b)) /\
   (bE x'=true\/bE y'=true):=by
 unfold iX at hf
 split at hf
 ·cases hf
  obtain ⟨p,_,_,rfl⟩:=hx.ptr_inv;cases hy
  exact ⟨by simp [Op.equalIn,ok.run_und hd w],rfl,rfl,by simp [bE]⟩
 ·cases hf
  obtain ⟨p,_,_,rfl⟩:=hy.ptr_inv;cases hx
  exact ⟨by simp [Op.equalIn,ok.run_und hd w],rfl,rfl,by simp [bE]⟩
 ·cases hf
  obtain ⟨a',k',p,rfl,_⟩:=hx.slc_inv;cases hy
  exact ⟨by simp [Op.equalIn,ok.run_und hd w],rfl,rfl,by simp [bE]⟩
 ·cases hf
  obtain ⟨a',k',p,rfl,_⟩:=hy.slc_inv;cases hx
  exact ⟨by simp [Op.equalIn,ok.run_und hd w],rfl,rfl,by simp [bE]⟩
 ·cases hf
  obtain ⟨p,_,rfl⟩:=hx.map_inv;cases hy
  exact ⟨by simp [Op.equalIn,ok.run_und hd w],rfl,rfl,by simp [bE]⟩
 ·cases hf
  obtain ⟨p,_,rfl⟩:=hy.map_inv;cases hx
  exact ⟨by simp [Op.equalIn,ok.run_und hd w],rfl,rfl,by simp [bE]⟩
 ·cases hf
  obtain ⟨f',a',b',rfl,_⟩:=hx.func_inv;cases hy
  exact ⟨by simp [Op.equalIn,ok.run_und hd w],rfl,rfl,by simp [bE]⟩
 ·cases hf
  obtain ⟨f',a',b',rfl,_⟩:=hy.func_inv;cases hx
  exact ⟨by simp [Op.equalIn,ok.run_und hd w],rfl,rfl,by simp [bE]⟩
 ·cases hf
  obtain ⟨v',rfl,_⟩:=hx.iface_inv;cases hy
  exact ⟨by simp [Op.equalIn,ok.run_und hd w],rfl,rfl,by simp [bE]⟩
 ·cases hf
  obtain ⟨v',rfl,_⟩:=hy.iface_inv;cases hx
  exact ⟨by simp [Op.equalIn,ok.run_und hd w],rfl,rfl,by simp [bE]⟩
 ·rename_i e a c
  split at hf
  ·rename_i hab
   cases hf
   obtain ⟨p,h1,h2,rfl⟩:=hx.ptr_inv
   obtain ⟨q,h3,h4,rfl⟩:=hy.ptr_inv
   rw [hab.1,h3] at h1;cases h1
   obtain ⟨m,hn⟩:=Option.isSome_iff_exists.1 hab.2.2
   rw [hab.2.1]
   exact ⟨by simp [Op.equalIn,ok.run_und hd w,ok.run_size hn w,sameAddr],rfl,rfl,by simp [bE]⟩
  ·cases hf
 ·rename_i tx v ty u
  split at hf
  ·cases hf
  ·rename_i hne
   cases hf
   obtain ⟨v',rfl,_⟩:=hx.iface_inv
   obtain ⟨u',rfl,_⟩:=hy.iface_inv
   exact ⟨by simp [Op.equalIn,ok.run_und hd w,hne],rfl,rfl,by simp [bE]⟩
 ·cases hf
theorem rH (ok:EnvOk E P nm) (t:TypeId) (d:TypeDesc) {x y x' y':Value} {b:Bool} (hd:E.und t=some d) (hx:VR nm φ x x') (hy:VR nm φ y y') (hf:iX E d x y=some b) :
  (binOp .eql t x' y').run P w=.ok (.bool b) w/\(binOp .neq t x' y').run P w=.ok (.bool !b) w/\(bE x'=true\/bE y'=true):=by
 obtain ⟨h1,h2,h3,h4⟩:=yJ (w:=w) ok 9999 t d hd hx hy hf
 have h1':(Op.equal t x' y').run P w=.ok b w:=h1
 refine ⟨?_,?_,h4⟩
 ·rw [h2];simp only [Sem.run_bind,h1',Result.andThen_ok,Sem.run_pure]
 ·rw [h3];simp only [Sem.run_bind,h1',Result.andThen_ok,Sem.run_pure]
theorem yK (ok:EnvOk E P nm) (h:WR nm K base φ A w) (o:Oper) (op:BinOp) (t:TypeId) (x y:Operand) (u:TypeId) (ho:o.op=.binOp op t x y u)
  (hρ:∀ x,x∈o.op.operands.toList->VR nm φ (ρ x) (ρ' x)) (hx:dE E A ρ o op t x y=some (nx,A')):Goal P nm K base φ A w (execOp ρ' o) nx A':=by
 have h1:VR nm φ (ρ x) (ρ' x):=hρ x (by rw [ho];simp [Op.operands])
 have h2:VR nm φ (ρ y) (ρ' y):=hρ y (by rw [ho];simp [Op.operands])
 have he:execOp ρ' o=((do eqGuard op t x y (ρ' x) (ρ' y);binOp op t (ρ' x) (ρ' y)) >>= fun v=>pure (Next.value v)):=by unfold execOp;simp only [ho]
 unfold dE at hx
 split at hx
 ·rename_i v hf
  cases hx
  obtain ⟨g1,g2,g3⟩:=fast_ok (w:=w) ok op t h1 h2 hf
  rw [he]
  exact aN h (.of_plainV g2) (by simp only [Sem.run_bind,nF g3,Result.andThen_ok];exact g1)
 ·split at hx
  ·rename_i r hr
   cases hx
   exact nD ok h o hρ hr
  ·split at hx
   ·split at hx
    ·rename_i b hb
     cases hx
     obtain ⟨d,hd,hn⟩:=Option.bind_eq_some_iff.1 hb
     obtain ⟨g1,g2,g3⟩:=rH (w:=w) ok t d hd h1 h2 hn
     rw [he]
     refine aN h (.bool b) ?_
     simp only [Sem.run_bind]
     rcases g3 with g3 | g3
     ·simp only [nF g3,Result.andThen_ok];exact g1
     ·simp only [rG g3,Result.andThen_ok];exact g1
    ·cases hx
   ·split at hx
    ·rename_i b hb
     cases hx
     obtain ⟨d,hd,hn⟩:=Option.bind_eq_some_iff.1 hb
     obtain ⟨g1,g2,g3⟩:=rH (w:=w) ok t d hd h1 h2 hn
     rw [he]
     refine aN h (.bool _) ?_
     simp only [Sem.run_bind]
     rcases g3 with g3 | g3
     ·simp only [nF g3,Result.andThen_ok];exact g2
     ·simp only [rG g3,Result.andThen_ok];exact g2
    ·cases hx
   ·cases hx
theorem dq {v v':Value} {hi n m:Nat} {c:BoundsCode} (hv:VR nm φ v v') (hb:bound v hi=some n) (hm:hi<=m):(Instr.sliceBound v' m c).run P w=.ok n w/\n<=hi:=by
 unfold bound at hb
 split at hb
 ·rename_i k i
  split at hb
  ·rename_i hc
   cases hb
   rw [hv.int_inv]
   refine ⟨?_,by omega⟩
   simp only [Instr.sliceBound,asIntOf,Sem.run_bind,Sem.run_pure,Result.andThen_ok]
   rw [if_pos (by omega)]
   rfl
  ·cases hb
 ·cases hb
def OVR (nm:Nm) (φ:Emb):Option Value->Option Value->Prop
 | none,none=>True
 | some v,some v'=>VR nm φ v v'
 | _,_=>False
theorem OVR.map (x:Option Operand) (h:∀ y,x=some y->VR nm φ (ρ y) (ρ' y)):OVR nm φ (x.map ρ) (x.map ρ'):=by
 cases x with
 | none=>trivial
 | some y=>exact h y rfl
theorem jI {lo hi mx lo' hi' mx':Option Value} {len cap cap' m h l:Nat} {b:Bool} (h1:OVR nm φ lo lo') (h2:OVR nm φ hi hi') (h3:OVR nm φ mx mx')
  (hcap:cap<=cap') (hlen:len<=cap) (hmx:mx.isSome=true->hi.isSome=true) (bm:aL mx cap cap=some m) (bh:aL hi m len=some h) (bl:aL lo h 0=some l) :
  ∃ m',(Instr.sliceBounds b len cap' lo' hi' mx').run P w=.ok (l,h,m') w/\(mx=none->m'=cap'/\m=cap)/\(mx≠none->m'=m)/\l<=h/\h<=m:=by
 cases mx with
 | some vm =>
  cases mx' with
  | none=>exact h3.elim
  | some vm' =>
   have e1:=hmx rfl
   simp only [aL] at bm
   have gm:=dq (P:=P) (w:=w) (c:=if b then .slice3Acap else .slice3Alen) (show VR nm φ vm vm' from h3) bm hcap
   cases hi with
   | none=>cases e1
   | some vh =>
    cases hi' with
    | none=>exact h2.elim
    | some vh' =>
     simp only [aL] at bh
     have gh:=dq (P:=P) (w:=w) (c:=.slice3B) (show VR nm φ vh vh' from h2) bh (Nat.le_refl _)
     refine ⟨m,?_,(fun e=>by cases e),fun _=>rfl,?_,gh.2⟩
     ·simp only [Instr.sliceBounds,Sem.run_bind,gm.1,gh.1,Result.andThen_ok]
      cases lo with
      | none =>
       cases lo' with
       | some _=>exact h1.elim
       | none=>simp only [aL,Option.some.injEq] at bl;subst bl;rfl
      | some vl =>
       cases lo' with
       | none=>exact h1.elim
       | some vl' =>
        simp only [aL] at bl
        have gl:=dq (P:=P) (w:=w) (c:=if (some vm').isSome then .slice3C else .sliceB) (show VR nm φ vl vl' from h1) bl (Nat.le_refl _)
        simp only [gl.1,Sem.run_bind,Result.andThen_ok];rfl
     ·cases lo with
      | none=>simp only [aL,Option.some.injEq] at bl;omega
      | some vl =>
       cases lo' with
       | none=>exact h1.elim
       | some vl'=>simp only [aL] at bl;exact (dq (P:=P) (w:=w) (c:=.sliceB) (show VR nm φ vl vl' from h1) bl (Nat.le_refl _)).2
 | none =>
  cases mx' with
  | some _=>exact h3.elim
  | none =>
   simp only [aL,Option.some.injEq] at bm
   subst bm
   have low:∀ h,aL lo h 0=some l->(match lo' with
      | some v=>Instr.sliceBound v h (if (none:Option Value).isSome=true then .slice3C else .sliceB)
      | none=>pure 0).run P w=.ok l w/\l<=h:=by
    intro h bl
    cases lo with
    | none =>
     cases lo' with
     | some _=>exact h1.elim
     | none=>simp only [aL,Option.some.injEq] at bl;subst bl;exact ⟨rfl,Nat.zero_le _⟩
    | some vl =>
     cases lo' with
     | none=>exact h1.elim
     | some vl' =>
      simp only [aL] at bl
      exact dq (P:=P) (w:=w) (c:=if (none:Option Value).isSome then .slice3C else .sliceB) (show VR nm φ vl vl' from h1) bl (Nat.le_refl _)
   have gl:=low h bl
   cases hi with
   | none =>
    cases hi' with
    | some _=>exact h2.elim
    | none =>
     simp only [aL,Option.some.injEq] at bh
     subst bh
     refine ⟨cap',?_,fun _=>⟨rfl,rfl⟩,fun e=>absurd rfl e,gl.2,hlen⟩
     cases lo' with
     | none=>have:=gl.1;simp only [Sem.run_pure,Result.ok.injEq,and_true] at this;subst this;rfl
     | some v=>simp only [Instr.sliceBounds,Sem.run_bind,Sem.run_pure,Result.andThen_ok];simp only [] at gl;rw [gl.1];rfl
   | some vh =>
    cases hi' with
    | none=>exact h2.elim
    | some vh' =>
     simp only [aL] at bh
     have gh:=dq (P:=P) (w:=w) (c:=if b then .sliceAcap else .sliceAlen) (show VR nm φ vh vh' from h2) bh hcap
     refine ⟨cap',?_,fun _=>⟨rfl,rfl⟩,fun e=>absurd rfl e,gl.2,gh.2⟩
     cases lo' with
     | none =>
      have:=gl.1;simp only [Sem.run_pure,Result.ok.injEq,and_true] at this;subst this
      simp only [Instr.sliceBounds,Sem.run_bind,Sem.run_pure,Result.andThen_ok,gh.1]
     | some v=>simp only [Instr.sliceBounds,Sem.run_bind,Sem.run_pure,Result.andThen_ok,gh.1];simp only [] at gl;rw [gl.1];rfl
end
end Go.AM
namespace Go.AM
section
variable {E:Env} {P:Program} {nm:Nm} {K:Kp} {base:World} {φ:Emb} {A A':St} {w:World} {ρ ρ':Operand->Value} {nx:Nx}
theorem add_eq {p:Pl} {a:Addr} (n:Nat):(⟨p.blk,p.off+a.off,none⟩:Addr).add n=⟨p.blk,p.off+(aJ a n).off,none⟩:=by
 rw [cW];simp [aJ,Nat.add_assoc]
theorem rI (h:WR nm K base φ A w) {b:Nat} {r:Row} {p:Pl} (hr:A.row? b=some r) (hp:φ b=some p):p.opn=r.opn/\(r.opn=true->p.esz=r.esz):=by
 obtain ⟨q,hq,⟨cs,fz,ho⟩,_⟩:=h.obj b _ (dk hr) rfl
 rw [hp] at hq;cases hq
 exact ⟨ho.opn,ho.esz⟩
theorem yL (h:WR nm K base φ A w) (hc:mc A=true) (a':Addr):VR nm φ (.slice (some ⟨0,0,none⟩) 0 0) (.slice (some a') 0 0):=by
 unfold mc at hc
 split at hc
 ·rename_i r hr
  have hopn:r.opn=false:=by simpa using hc
  obtain ⟨p,hp,⟨cs,fz,ho⟩,_⟩:=h.obj 0 _ (dk hr) rfl
  exact .slc ⟨0,0,none⟩ a' 0 0 0 p hp rfl (.inl rfl) (.inl rfl) (.inl rfl) (fun _=>rfl) (fun e=>by rw [ho.opn,hopn] at e;cases e) (Nat.le_refl _)
 ·cases hc
theorem yM (ok:EnvOk E P nm) (h:WR nm K base φ A w) (t:TypeId) {x x':Value} {lo hi mx lo' hi' mx':Option Value} {v:Value} (hx:VR nm φ x x')
  (h1:OVR nm φ lo lo') (h2:OVR nm φ hi hi') (h3:OVR nm φ mx mx') (hs:ec E A t x lo hi mx=some v) :
  ∃ v',VR nm φ v v'/\(Instr.sliceAt t x' lo' hi' mx').run P w=.ok v' w:=by
 unfold ec at hs
 split at hs
 ·cases hs
 rename_i hmh
 have hmh:mx.isSome=true->hi.isSome=true:=by
  intro e
  cases hi with
  | some _=>rfl
  | none=>exact absurd (by simp [e]) hmh
 split at hs
 ·rename_i s hu
  split at hs
  ·cases hs
  ·split at hs
   ·rename_i hh bh
    split at hs
    ·rename_i l bl
     cases hs
     rw [hx.str_inv]
     obtain ⟨m',g1,_,_,g4,g5⟩:=jI (P:=P) (w:=w) (b:=false) (mx:=none) (mx':=mx') h1 h2 h3 (Nat.le_refl s.size) (Nat.le_refl _) (fun e=>by cases e) rfl bh bl
     cases mx' with
     | some _=>exact h3.elim
     | none=>exact ⟨_,.str _,by simp [Instr.sliceAt,Instr.slice,ok.run_und hu w,g1]⟩
    ·cases hs
   ·cases hs
 ·rename_i e len cap hu
  split at hs
  ·rename_i sz hsz hle
   split at hs
   ·rename_i m bm
    split at hs
    ·rename_i hh bh
     split at hs
     ·rename_i l bl
      cases hs
      rw [hx.nils_inv]
      obtain ⟨m',g1,g2,g3,g4,g5⟩:=jI (P:=P) (w:=w) (b:=true) h1 h2 h3 (Nat.le_refl cap) (Nat.le_of_ble_eq_true hle) hmh bm bh bl
      have hm':m'=m:=by
       cases mx with
       | none=>obtain ⟨e1,e2⟩:=g2 rfl;omega
       | some _=>exact g3 (by simp)
      subst hm'
      refine ⟨.slice none (hh - l) (m' - l),.nils _ _,?_⟩
      simp only [Instr.sliceAt,Sem.run_bind,ok.run_und hu w,Result.andThen_ok,Instr.slice,g1,ok.run_size hsz w,Sem.run_pure]
      split <;> rfl
     ·cases hs
    ·cases hs
   ·cases hs
  ·cases hs
 ·rename_i e a len cap hu
  split at hs
  ·rename_i r sz hr hsz
   split at hs
   ·rename_i m bm
    split at hs
    ·rename_i hh bh
     split at hs
     ·rename_i l bl
      obtain ⟨a',k',p,rfl,hp,hsp,q1,q2,q3,q4,q5,q6⟩:=hx.slc_inv
      obtain ⟨ho1,ho2⟩:=rI h hr hp
      have haddr:¬ k'=0->a'=⟨a'.block,a'.off,none⟩:=fun e=>by
       replace q2:=q2.resolve_left e
       cases a';simp only [] at q2;simp [q2]
      split at hs
      ·rename_i hopn
       rw [hopn] at ho1
       split at hs
       ·cases hs
       ·rename_i hc
        simp only [bne_iff_ne,ne_eq,Decidable.not_not] at hc
        have hc2:=hc
        cases hs
        obtain ⟨q5a,q5b⟩:=q5 ho1
        obtain ⟨m',g1,g2,g3,g4,g5⟩:=jI (P:=P) (w:=w) (b:=true) h1 h2 h3 q5a q6 hmh bm bh bl
        have hmm:m<=m'/\m'<=k':=by
         cases mx with
         | none=>obtain ⟨e1,e2⟩:=g2 rfl;omega
         | some vm =>
          have e1:=g3 (by simp)
          simp only [aL] at bm
          have:=(dq (P:=P) (w:=w) (c:=.index) (show VR nm φ vm (mx'.getD undef) from by cases mx' with | none=>exact h3.elim | some v=>exact h3) bm (Nat.le_refl _)).2
          omega
        have hesz:p.esz=sz:=(ho2 hopn).trans hc2
        refine ⟨.slice (some (if m'=l then a' else a'.add (l * sz))) (hh - l) (m' - l),?_,?_⟩
        ·have hcut:VR nm φ (.slice (some (aJ a (l * sz))) (hh - l) (m - l)) (.slice (some (if m'=l then a' else a'.add (l * sz))) (hh - l) (m' - l))->VR nm φ (kA A mx.isSome a sz l hh m) (.slice (some (if m'=l then a' else a'.add (l * sz))) (hh - l) (m' - l)):=by
          intro hv
          unfold kA
          split
          ·exact hv
          ·rename_i hmx
           split
           ·rename_i hq
            rw [Bool.and_eq_true] at hq
            have e1:m=l:=Nat.eq_of_beq_eq_true hq.1
            have e2:=g3 (by intro e;rw [e] at hmx;cases hmx)
            rw [show hh - l=0 by omega,show m' - l=0 by omega]
            exact yL h hq.2 _
           ·exact hv
         refine hcut (.slc (aJ a (l * sz)) _ _ _ _ p (by simpa [aJ] using hp) rfl ?_ ?_ ?_ (fun e=>by rw [ho1] at e;cases e) (fun _=>⟨by omega,?_⟩) (by omega))
         ·split
          ·exact q1.imp (fun e=>by omega) id
          ·rw [haddr (by omega),cW];exact q1.imp (fun e=>by omega) id
         ·split
          ·left;omega
          ·rw [haddr (by omega),cW];exact .inr rfl
         ·split
          ·left;omega
          ·right
           rcases q3 with q3 | q3
           ·omega
           ·rw [haddr (by omega),cW];simp [aJ,q3,Nat.add_assoc]
         ·rw [hesz] at q5b ⊢
          have hmul:=Nat.mul_le_mul_right sz hmm.2
          split
          ·rename_i e2;subst e2;simp;omega
          ·have hl:l<=m':=by omega
           rw [haddr (by omega),cW]
           have:(m' - l) * sz+l * sz=m' * sz:=by rw [<- Nat.add_mul];congr 1;omega
           simp only []
           omega
        ·simp only [Instr.sliceAt,Sem.run_bind,ok.run_und hu w,Result.andThen_ok,Instr.slice,g1,ok.run_size hsz w,Sem.run_pure]
         split <;> rfl
      ·rename_i hopn
       rw [hopn] at ho1
       cases hs
       have hk:=q4 ho1
       subst hk
       obtain ⟨m',g1,g2,g3,g4,g5⟩:=jI (P:=P) (w:=w) (b:=true) h1 h2 h3 (Nat.le_refl k') q6 hmh bm bh bl
       have hm':m'=m:=by
        cases mx with
        | none=>obtain ⟨e1,e2⟩:=g2 rfl;omega
        | some _=>exact g3 (by simp)
       subst hm'
       have hz:k'=0->m'=0:=by
        intro e
        subst e
        cases mx with
        | none=>obtain ⟨e3,e4⟩:=g2 rfl;omega
        | some _ =>
         simp only [aL] at bm
         have:=(dq (P:=P) (w:=w) (c:=.index) (show VR nm φ _ (mx'.getD undef) from by cases mx' with | none=>exact h3.elim | some v=>exact h3) bm (Nat.le_refl _)).2
         omega
       refine ⟨.slice (some (if m'=l then a' else a'.add (l * sz))) (hh - l) (m' - l),?_,?_⟩
       ·split
        ·rename_i e2
         refine .slc a a' _ _ _ p hp hsp (.inl (by omega)) (.inl (by omega)) (.inl (by omega)) (fun _=>rfl) (fun e=>by rw [ho1] at e;cases e) (by omega)
        ·rename_i e2
         refine .slc (aJ a (l * sz)) _ _ _ _ p (by simpa [aJ] using hp) rfl ?_ ?_ ?_ (fun _=>rfl) (fun e=>by rw [ho1] at e;cases e) (by omega)
         ·rw [haddr (fun e=>by have:=hz e;omega),cW];exact q1.imp (fun e=>by have:=hz e;omega) id
         ·rw [haddr (fun e=>by have:=hz e;omega),cW];exact .inr rfl
         ·right
          rcases q3 with q3 | q3
          ·subst q3
           have:l<=0:=by
            have:hh<=0:=by
             cases mx with
             | none=>obtain ⟨e3,e4⟩:=g2 rfl;omega
             | some _ =>
              simp only [aL] at bm
              have:=(dq (P:=P) (w:=w) (c:=.index) (show VR nm φ _ (mx'.getD undef) from by cases mx' with | none=>exact h3.elim | some v=>exact h3) bm (Nat.le_refl _)).2
              omega
            omega
           have hm0:m'=0:=by
            cases mx with
            | none=>obtain ⟨e3,e4⟩:=g2 rfl;omega
            | some _ =>
             simp only [aL] at bm
             have:=(dq (P:=P) (w:=w) (c:=.index) (show VR nm φ _ (mx'.getD undef) from by cases mx' with | none=>exact h3.elim | some v=>exact h3) bm (Nat.le_refl _)).2
             omega
           exact absurd (by omega) e2
          ·rw [haddr (fun e=>by have:=hz e;omega),cW];simp [aJ,q3,Nat.add_assoc]
       ·simp only [Instr.sliceAt,Sem.run_bind,ok.run_und hu w,Result.andThen_ok,Instr.slice,g1,ok.run_size hsz w,Sem.run_pure]
        split <;> rfl
     ·cases hs
    ·cases hs
   ·cases hs
  ·cases hs
 ·rename_i n e a hu
  split at hs
  ·rename_i r sz hr hsz
   split at hs
   ·cases hs
   ·rename_i hopn
    split at hs
    ·rename_i m bm
     split at hs
     ·rename_i hh bh
      split at hs
      ·rename_i l bl
       cases hs
       obtain ⟨p,hp,hsp,rfl⟩:=hx.ptr_inv
       obtain ⟨ho1,ho2⟩:=rI h hr hp
       rw [hopn] at ho1
       obtain ⟨m',g1,g2,g3,g4,g5⟩:=jI (P:=P) (w:=w) (b:=false) h1 h2 h3 (Nat.le_refl n) (Nat.le_refl n) hmh bm bh bl
       have hm':m'=m:=by
        cases mx with
        | none=>obtain ⟨e1,e2⟩:=g2 rfl;omega
        | some _=>exact g3 (by simp)
       subst hm'
       refine ⟨.slice (some (if m'=l then ⟨p.blk,p.off+a.off,none⟩ else (⟨p.blk,p.off+a.off,none⟩:Addr).add (l * sz))) (hh - l) (m' - l),?_,?_⟩
       ·split
        ·refine .slc a ⟨p.blk,p.off+a.off,none⟩ _ _ _ p hp hsp (.inr rfl) (.inr rfl) (.inr rfl) (fun _=>rfl) (fun e=>by rw [ho1] at e;cases e) (by omega)
        ·rw [add_eq]
         refine .slc (aJ a (l * sz)) _ _ _ _ p (by simpa [aJ] using hp) rfl (.inr rfl) (.inr rfl) (.inr rfl) (fun _=>rfl) (fun e=>by rw [ho1] at e;cases e) (by omega)
       ·simp only [Instr.sliceAt,Sem.run_bind,ok.run_und hu w,Result.andThen_ok,Instr.sureAddr,Sem.run_pure,g1,ok.run_size hsz w]
      ·cases hs
     ·cases hs
    ·cases hs
  ·cases hs
 ·cases hs
theorem yN (ok:EnvOk E P nm) (h:WR nm K base φ A w) (t:TypeId) (x:Operand) (lo hi mx:Option Operand) (hv:VR nm φ (ρ x) (ρ' x))
  (h1:∀ y,lo=some y->VR nm φ (ρ y) (ρ' y)) (h2:∀ y,hi=some y->VR nm φ (ρ y) (ρ' y)) (h3:∀ y,mx=some y->VR nm φ (ρ y) (ρ' y)) (hx:gY E A ρ t x lo hi mx=some (nx,A')) :
  Goal P nm K base φ A w (Instr.sliceAt t (ρ' x) (lo.map ρ') (hi.map ρ') (mx.map ρ') >>= fun x=>pure (Next.value x)) nx A':=by
 unfold gY at hx
 split at hx
 ·rename_i v hs
  cases hx
  obtain ⟨v',g1,g2⟩:=yM ok h t hv (OVR.map lo h1) (OVR.map hi h2) (OVR.map mx h3) hs
  exact aN h g1 g2
 ·cases hx
theorem yO (ok:EnvOk E P nm) (h:WR nm K base φ A w) (s:TypeId) (x:Operand) (f:Nat) (hv:VR nm φ (ρ x) (ρ' x)) (hx:ie E A ρ s x f=some (nx,A')) :
  Goal P nm K base φ A w (Instr.fieldAt s (ρ' x) f >>= fun x=>pure (Next.value x)) nx A':=by
 unfold ie at hx
 split at hx
 ·rename_i fs a hu hr
  split at hx
  ·rename_i fd hf
   split at hx
   ·rename_i n hn
    split at hx
    ·cases hx
    ·rename_i hn0
     cases hx
     rw [hr] at hv
     obtain ⟨p,hp,hsp,e⟩:=hv.ptr_inv
     refine aN h (.ptr (aJ a fd.offset) p (by simpa [aJ] using hp) rfl) ?_
     simp only [Instr.fieldAt,Sem.run_bind,ok.run_und hu w,Result.andThen_ok,hf,e,Instr.sureAddr,Sem.run_pure,fieldPlace,ok.run_size hn w]
     rw [if_neg hn0,add_eq]
     rfl
   ·cases hx
  ·cases hx
 ·cases hx
theorem yP (ok:EnvOk E P nm) (h:WR nm K base φ A w) (t:TypeId) (x ix:Operand) (hv:VR nm φ (ρ x) (ρ' x)) (hi:VR nm φ (ρ ix) (ρ' ix)) (hx:gf E A ρ t x ix=some (nx,A')) :
  Goal P nm K base φ A w (Instr.indexAt t (ρ' x) (ρ' ix) >>= fun x=>pure (Next.value x)) nx A':=by
 unfold gf at hx
 split at hx
 ·rename_i e a len cap k i hu hr hri
  split at hx
  ·rename_i s hs
   split at hx
   ·rename_i hc
    cases hx
    rw [hr] at hv;rw [hri] at hi
    obtain ⟨a',k',p,e1,hp,hsp,q1,q2,q3,q4,q5,q6⟩:=hv.slc_inv
    have haddr:a'=⟨p.blk,p.off+a.off,none⟩:=by
     have:¬ k'=0:=by
      intro e
      cases ho:p.opn with
      | true=>have:=(q5 ho).1;omega
      | false=>have:=q4 ho;omega
     replace q1:=q1.resolve_left this
     replace q2:=q2.resolve_left this
     cases a';simp only [] at q1 q2 q3
     simp [q1,q2,q3.resolve_left this]
    refine aN h (.ptr (aJ a (i.toNat * s)) p (by simpa [aJ] using hp) rfl) ?_
    simp only [Instr.indexAt,Sem.run_bind,ok.run_und hu w,Result.andThen_ok,e1,hi.int_inv,asIntOf,Sem.run_pure]
    rw [if_pos ⟨hc.1,hc.2.1⟩]
    simp only [Sem.run_bind,ok.run_size hs w,Result.andThen_ok,Sem.run_pure]
    rw [haddr,add_eq]
   ·cases hx
  ·cases hx
 ·rename_i len e a k i hu hr hri
  split at hx
  ·rename_i s hs
   split at hx
   ·rename_i hc
    cases hx
    rw [hr] at hv;rw [hri] at hi
    obtain ⟨p,hp,hsp,e1⟩:=hv.ptr_inv
    refine aN h (.ptr (aJ a (i.toNat * s)) p (by simpa [aJ] using hp) rfl) ?_
    simp only [Instr.indexAt,Sem.run_bind,ok.run_und hu w,Result.andThen_ok,e1,hi.int_inv,asIntOf,Sem.run_pure,Instr.sureAddr]
    rw [if_pos ⟨hc.1,hc.2.1⟩]
    simp only [Sem.run_bind,ok.run_size hs w,Result.andThen_ok,Sem.run_pure]
    rw [add_eq]
   ·cases hx
  ·cases hx
 ·cases hx
theorem yQ (s:ByteArray) (i:Nat):s[i]? = s.data.toList[i]? := by
 rw [Array.getElem?_toList]
 rfl
theorem yR (ok:EnvOk E P nm) (h:WR nm K base φ A w) (t:TypeId) (x ix:Operand) (hv:VR nm φ (ρ x) (ρ' x)) (hi:VR nm φ (ρ ix) (ρ' ix)) (hx:ig E A ρ t x ix=some (nx,A')) :
  Goal P nm K base φ A w (Instr.index t (ρ' x) (ρ' ix) >>= fun x=>pure (Next.value x)) nx A':=by
 unfold ig at hx
 split at hx
 ·rename_i s k i hu hr hri
  split at hx
  ·rename_i hc
   split at hx
   ·rename_i b hb
    cases hx
    rw [hr] at hv;rw [hri] at hi
    refine aN h (.int _ _) ?_
    simp only [Instr.index,Sem.run_bind,ok.run_und hu w,Result.andThen_ok,hv.str_inv,hi.int_inv,asIntOf,Sem.run_pure]
    rw [if_pos hc,yQ,hb]
    rfl
   ·cases hx
  ·cases hx
 ·rename_i len e cs k i hu hr hri
  split at hx
  ·rename_i s hs
   split at hx
   ·rename_i hc
    split at hx
    ·rename_i v hp
     cases hx
     rw [hr] at hv;rw [hri] at hi
     obtain ⟨cs',e1,e2⟩:=hv.agg_inv
     obtain ⟨v',g1,g2⟩:=rA (w:=w) ok e2 hp
     refine aN h g1 ?_
     simp only [Instr.index,Sem.run_bind,ok.run_und hu w,Result.andThen_ok,e1,hi.int_inv,asIntOf,Sem.run_pure]
     rw [if_pos hc]
     simp only [Sem.run_bind,ok.run_size hs w,Result.andThen_ok]
     exact g2
    ·cases hx
   ·cases hx
  ·cases hx
 ·cases hx
end
end Go.AM
