/- What stands for a value: the steps that change nothing. -/
import Derived.Test.YtilbjefgojocaaaGreatDoorSxOk1
namespace Go.AM.SX
open Go
section
variable {E:Env} {A:St} {ρ:Operand->Value} {o:Oper}
theorem iD {v:Value} (hp:dD o=true) (hpl:(o.op.operands.toList.map ρ).all aH=true) (hr:aR E.P (execOp ρ o)=some (.ok (.value v))) (hv:aH v=true):cT E A ρ o=some (.val v,A):=by
 unfold cT
 rw [hp,hpl]
 simp [hr,hv]
theorem Sj (hsl:E.sl=[]) (op:BinOp) (x y:Value):cU E.sl op x y=cU [] op x y:=by rw [hsl]
theorem vG (hsl:E.sl=[]) {op:BinOp} {t u:TypeId} {x y:Operand} (ho:o.op=.binOp op t x y u) {v:Value} (h:fP op (ρ x) (ρ y)=some v):dE E A ρ o op t x y=some (.val v,A):=by
 unfold fP at h
 unfold dE
 rw [Sj hsl]
 split at h
 ·rename_i v' hf
  cases h
  rw [hf]
 ·rename_i hf
  rw [hf]
  simp only
  have hp:dD o=true:=by unfold dD;rw [ho]
  have hops:o.op.operands.toList.map ρ=[ρ x,ρ y]:=by rw [ho];rfl
  split at h
  ·rename_i k a k' b hx hy
   have hpl:(o.op.operands.toList.map ρ).all aH=true:=by rw [hops,hx,hy];rfl
   have key : aR E.P (execOp ρ o)=some (.ok (.value v))/\aH v=true:=by
    unfold execOp
    rw [ho]
    simp only [hx,hy]
    rw [hx,hy] at hf
    split at h
    ·rename_i hs
     cases op <;> simp only [jk,Bool.false_eq_true] at hs <;> unfold wY at h <;> split at h <;> first
      | (cases h;done)
      | (simp only [Option.some.injEq] at h;subst h;rename_i hb;refine ⟨?_,rfl⟩
         simp only [binOp,Op.shift]
         rw [if_neg hb]
         rfl)
    ·rename_i hs
     split at h
     ·rename_i hk
      subst hk
      cases op <;> simp only [mI] at h <;> first
       | (cases h;done)
       | (simp [jk] at hs;done)
       | (split at h <;> first
         | (cases h;done)
         | (simp only [Option.some.injEq] at h;subst h;rename_i hb;refine ⟨?_,rfl⟩
            simp only [binOp,Op.intDiv]
            rw [if_neg hb]
            simp only [ne_eq,not_true_eq_false,if_false]
            rfl))
       | (simp only [Option.some.injEq] at h;subst h;refine ⟨?_,rfl⟩
          simp only [binOp,Op.intBits,ne_eq,not_true_eq_false,if_false]
          rfl)
     ·cases h
   rw [iD hp hpl key.1 key.2]
  ·rename_i a b hx hy
   have hpl:(o.op.operands.toList.map ρ).all aH=true:=by rw [hops,hx,hy];rfl
   have key:aR E.P (execOp ρ o)=some (.ok (.value v))/\aH v=true:=by
    unfold execOp
    rw [ho]
    simp only [hx,hy]
    cases op <;> simp only [p9] at h <;> first
     | (cases h;done)
     | (split at h <;> first
       | (cases h;done)
       | (simp only [Option.some.injEq] at h;subst h;rename_i hb;refine ⟨?_,rfl⟩
          simp only [binOp,Op.stringOp]
          rw [if_neg hb]
          rfl))
     | (simp only [Option.some.injEq] at h;subst h;refine ⟨?_,rfl⟩
        simp only [binOp,Op.stringOp]
        rfl)
   rw [iD hp hpl key.1 key.2]
  ·cases h
structure SxEnv (E:Env):Prop where
 sl:E.sl=[]
 und:∀ t d,E.und t=some d->E.P.underlying t=some d
theorem cy {α β:Type} {P:Program} {f:α->Sem β} {a:α}:∀ {s:Sem α},aR P s=some (.ok a)->aR P (s >>= f)=aR P (f a):=by
 intro s
 show _->aR P (s.bind f)=_
 induction s with
 | pure b=>intro h;simp only [aR,Option.some.injEq,Except.ok.injEq] at h;subst h;rfl
 | program k ih=>intro h;simp only [aR] at h;exact ih P h
 | halt x=>intro h;cases x <;> simp [aR] at h
 | _=>intro h;simp [aR] at h
theorem lU {P:Program} {t:TypeId} {d:TypeDesc} (h:P.underlying t=some d):aR P (underlying t)=some (.ok d):=by
 show aR P (match P.underlying t with
  | some d=>pure d
  | none=>stuck "no such type")=_
 rw [h]
 rfl
theorem Sk {P:Program} {t:TypeId} {d:TypeDesc} (hu:P.underlying t=some d) {x y:Value} {b:Bool} (h:dw d x y=some b):aR P (Op.equal t x y)=some (.ok b):=by
 show aR P (underlying t >>= fun d=>_)=_
 rw [cy (lU hu)]
 unfold dw at h
 split at h <;> first
  | (cases h;rfl)
  | cases h
theorem Sl (hE:SxEnv E) {op:BinOp} {t u:TypeId} {d:TypeDesc} {x y:Operand} (ho:o.op=.binOp op t x y u) (hop:op=.eql\/op=.neq) (hc:isConst y=true) (hd:E.und t=some d) {b:Bool}
  (h:dw d (ρ x) (ρ y)=some b):dE E A ρ o op t x y=some (.val (.bool (if op=.eql then b else !b)),A):=by
 have hu:=hE.und _ _ hd
 have hp:dD o=true:=by unfold dD;rw [ho]
 have hops:o.op.operands.toList.map ρ=[ρ x,ρ y]:=by rw [ho];rfl
 have hf:cU E.sl op (ρ x) (ρ y)=none:=by
  unfold dw at h
  split at h <;> first
   | (cases h;done)
   | (rename_i h1 h2;rw [h1,h2];rfl)
   | (rename_i h1 h2 _;rw [h1,h2];rfl)
   | skip
 have hrun:aR E.P (execOp ρ o)=some (.ok (.value (.bool (if op=.eql then b else !b)))):=by
  unfold execOp
  rw [ho]
  simp only
  have hg:aR E.P (eqGuard op t x y (ρ x) (ρ y))=some (.ok ()):=by
   unfold eqGuard
   cases y <;> simp only [isConst,Bool.false_eq_true] at hc
   unfold dw at h
   split at h <;> first
    | (cases h;done)
    | (rcases hop with rfl | rfl <;> simp_all <;> rfl)
  have he:=Sk hu h
  have hb:aR E.P (binOp op t (ρ x) (ρ y))=some (.ok (.bool (if op=.eql then b else !b))):=by
   revert he
   unfold dw at h
   split at h <;> first
    | (cases h;done)
    | (rename_i h1 h2
       rw [h1,h2]
       intro he
       rcases hop with rfl | rfl
       ·show aR E.P (Op.equal t _ _ >>= fun b=>(pure (Value.bool b):Sem Value))=_
        rw [cy he];rfl
       ·show aR E.P (Op.equal t _ _ >>= fun b=>(pure (Value.bool (!b)):Sem Value))=_
        rw [cy he];rfl)
  show aR E.P ((eqGuard op t x y (ρ x) (ρ y) >>= fun _=>binOp op t (ρ x) (ρ y)) >>= fun r=>(pure (Next.value r):Sem Next))=_
  rw [cy (by rw [cy hg];exact hb)]
  rfl
 unfold dE
 rw [hf]
 simp only
 cases hpl:(o.op.operands.toList.map ρ).all aH with
 | true=>rw [iD hp hpl hrun rfl]
 | false =>
  have hv:cT E A ρ o=none:=by unfold cT;rw [hp,hpl];rfl
  rw [hv,hd]
  rw [hops] at hpl
  rcases hop with rfl | rfl
  ·simp only [Option.bind_some]
   unfold dw at h
   split at h <;> first
    | (cases h;done)
    | (cases h;rename_i h1 h2;rw [h1,h2] at hpl ⊢;first | rfl | (exact absurd (hpl.symm.trans rfl:false=true) Bool.false_ne_true))
  ·simp only [Option.bind_some]
   unfold dw at h
   split at h <;> first
    | (cases h;done)
    | (cases h;rename_i h1 h2;rw [h1,h2] at hpl ⊢;first | rfl | (exact absurd (hpl.symm.trans rfl:false=true) Bool.false_ne_true))
theorem Sm {P:Program} {t:TypeId} (hu:P.underlying t=some .bool) (a b:Bool):aR P (Op.equal t (.bool a) (.bool b))=some (.ok (a==b)):=by
 show aR P (underlying t >>= fun d=>_)=_
 rw [cy (lU hu)]
 rfl
theorem Sn (hE:SxEnv E) {op:BinOp} {t u:TypeId} {x y:Operand} (ho:o.op=.binOp op t x y u) (hop:op=.eql\/op=.neq) (hd:E.und t=some .bool) {a b:Bool}
  (hx:ρ x=.bool a) (hy:ρ y=.bool b):dE E A ρ o op t x y=some (.val (.bool (if op=.eql then a==b else !(a==b))),A):=by
 have hu:=hE.und _ _ hd
 have hp:dD o=true:=by unfold dD;rw [ho]
 have hops:o.op.operands.toList.map ρ=[ρ x,ρ y]:=by rw [ho];rfl
 have hf:cU E.sl op (ρ x) (ρ y)=none:=by rw [hx,hy];rfl
 have hpl:(o.op.operands.toList.map ρ).all aH=true:=by rw [hops,hx,hy];rfl
 have hrun:aR E.P (execOp ρ o)=some (.ok (.value (.bool (if op=.eql then a==b else !(a==b))))):=by
  unfold execOp
  rw [ho]
  simp only [hx,hy]
  have he:=Sm hu a b
  rcases hop with rfl | rfl
  ·show aR E.P ((Op.equal t (.bool a) (.bool b) >>= fun r=>(pure (Value.bool r):Sem Value)) >>= fun r=>(pure (Next.value r):Sem Next))=_
   rw [cy (by rw [cy he];rfl)]
   rfl
  ·show aR E.P ((Op.equal t (.bool a) (.bool b) >>= fun r=>(pure (Value.bool (!r)):Sem Value)) >>= fun r=>(pure (Next.value r):Sem Next))=_
   rw [cy (by rw [cy he];rfl)]
   rfl
 unfold dE
 rw [hf]
 simp only
 rw [iD hp hpl hrun rfl]
end
end Go.AM.SX
namespace Go.AM.SX
open Go
theorem vH:∀ (cs:List Value) (k off:Nat) (a:Array Value),((cs.zipIdx k).foldl (fun (a:Array Value) (p:Value×Nat)=>a.setIfInBounds (off+p.2) p.1) a)=(setFrom a.toList (off+k) cs).toArray
 | [],k,off,a=>by simp [setFrom]
 | c::cs,k,off,a=>by
  simp only [List.zipIdx_cons,List.foldl_cons]
  rw [vH cs (k+1) off]
  simp [setFrom,Nat.add_assoc]
theorem So (cs a:Array Value) (off:Nat):(cs.zipIdx.foldl (fun cs (c,j)=>cs.setIfInBounds (off+j) c) a)=(setFrom a.toList off cs.toList).toArray:=by
 have:=vH cs.toList 0 off a
 rw [<- Array.foldl_toList]
 simpa using this
theorem lV {place:Nat->Option (Nat×Nat)}:∀ {is:List Nat} {pl:List (Nat×Nat)} {vs l cs:List Value} (_:is.map place=pl.map some) (_:dx pl vs l=some cs),
  Instr.fill place l.toArray (is.zip vs)=some cs.toArray
 | [],[],[],l,cs,_,h=>by simp only [dx,Option.some.injEq] at h;subst h;rfl
 | [],[],v::vs,l,cs,_,h=>by simp [dx] at h
 | i::is,[],vs,l,cs,hp,h=>by simp at hp
 | [],p::pl,vs,l,cs,hp,h=>by simp at hp
 | i::is,p::pl,[],l,cs,hp,h=>by simp [dx] at h
 | i::is,(off,size)::pl,v::vs,l,cs,hp,h=>by
  simp only [List.map_cons,List.cons.injEq] at hp
  simp only [dx] at h
  split at h
  ·rename_i hc
   simp only [List.zip_cons_cons,Instr.fill,hp.1]
   rw [if_neg (by simp;omega)]
   rw [So]
   exact lV hp.2 h
  ·cases h
section
variable {E:Env} {σ:Sg} {sf:SF} {fr:Fr} {o:Oper}
theorem vI {pl:List (Nat×Nat)}:∀ {is:List Nat} {ps:List (Nat×Nat)},mJ pl is=some ps->is.map (fun i=>pl.toArray[i]?)=ps.map some
 | [],ps,h=>by cases h;rfl
 | i::is,ps,h=>by
  simp only [mJ] at h
  split at h
  ·rename_i p ps' h1 h2
   cases h
   simp only [List.map_cons]
   rw [vI h2]
   simp [h1]
  ·cases h
theorem Sp {α:Type} (parts:List (Nat×α)) (g:α->Value):(parts.map (·.1)).zip (parts.map fun p=>g p.2)=parts.map fun p=>(p.1,g p.2):=by
 induction parts with
 | nil=>rfl
 | cons p ps ih=>simp [ih]
theorem o9 (hf:FrRel σ sf fr) {parts:List (Nat×Operand)} {xs:List X} (h:fR sf (parts.map (·.2))=some xs):(parts.map fun p=>(p.1,aD fr p.2))=(parts.map (·.1)).zip (denL σ xs):=by
 have h2:=(mQ hf h).2
 rw [<- h2,List.map_map]
 exact (Sp parts (aD fr)).symm
theorem Sq (hf:FrRel σ sf fr) {t:TypeId} {parts:List (Nat×Operand)} {a:Act} (ho:o.op=.build t parts.toArray) (hl:cD E o=true) (h:pe E sf t parts=some a):da E σ fr o a:=by
 unfold pe at h
 split at h
 ·rename_i fs z xs hu hz hx
  split at h
  ·rename_i pl hpl
   split at h
   ·rename_i pl' hnp
    cases h
    intro A v A' hs
    simp only [aB] at hs
    split at hs
    ·rename_i cs hc
     cases hs
     rw [e8 hl]
     unfold opD
     rw [ho]
     show ed E A (aD fr) t parts.toArray=_
     unfold ed
     rw [hu,hz]
     simp only [hpl]
     rw [o9 hf hx]
     have:=lV (vI hnp) hc
     rw [show z.cells.toList.toArray=z.cells from rfl] at this
     rw [this]
    ·cases hs
   ·cases h
  ·cases h
 ·rename_i x1 e z xs hu hz hx
  split at h
  ·rename_i s hsz
   cases h
   intro A v A' hs
   simp only [aB] at hs
   split at hs
   ·rename_i cs hc
    cases hs
    rw [e8 hl]
    unfold opD
    rw [ho]
    show ed E A (aD fr) t parts.toArray=_
    unfold ed
    rw [hu,hz]
    simp only [hsz]
    rw [o9 hf hx]
    have:=lV (place:=fun i=>some (i * s,s)) (is:=parts.map (·.1)) (by simp) hc
    rw [show z.cells.toList.toArray=z.cells from rfl] at this
    rw [this]
   ·cases hs
  ·cases h
 ·cases h
theorem Sr (hf:FrRel σ sf fr) {t:TypeId} {len:Nat} {parts:List (Nat×Operand)} {a:Act} (ho:o.op=.buildSlice t len parts.toArray) (hl:cD E o=true) (h:pf E sf t len parts=some a):da E σ fr o a:=by
 unfold pf at h
 split at h
 ·rename_i e xs hu hx
  split at h
  ·rename_i s z hsz hz
   split at h
   ·cases h
   ·rename_i hn
    cases h
    intro A v A' hs
    simp only [aB] at hs
    split at hs
    ·rename_i cs hc
     cases hs
     rw [e8 hl]
     unfold opD
     rw [ho]
     show _/\ib E A (aD fr) t len parts.toArray=_
     unfold ib
     rw [hu]
     simp only [hsz,hz]
     rw [if_neg hn,o9 hf hx]
     have:=lV (place:=fun i=>some (i * s,s)) (is:=parts.map (·.1)) (by simp) hc
     rw [this]
     exact ⟨⟨_,rfl⟩,rfl⟩
    ·cases hs
  ·cases h
 ·cases h
end
end Go.AM.SX
namespace Go.AM.SX
open Go
section
variable {E:Env} {σ:Sg} {sf:SF} {fr:Fr} {o:Oper}
theorem vJ (hf:FrRel σ sf fr) {lo hi mx:Option Operand} {xs:List X} (h:iS sf [lo,hi,mx]=some xs) :
  ∃ l:Option Value,lo.map (aD fr)=l/\denL σ xs=(lo.map (aD fr)).toList++(hi.map (aD fr)).toList++(mx.map (aD fr)).toList:=by
 refine ⟨_,rfl,?_⟩
 have key:∀ {os:List (Option Operand)} {xs:List X},iS sf os=some xs->denL σ xs=(os.map fun o=>(o.map (aD fr)).toList).flatten:=by
  intro os
  induction os with
  | nil=>intro xs h;cases h;rfl
  | cons o os ih =>
   intro xs h
   cases o with
   | none=>exact ih h
   | some o =>
    simp only [iS] at h
    split at h
    ·rename_i x xs' h1 h2
     cases h
     have:=(aK hf h1).2
     simp only [denL,List.map_cons,List.flatten_cons,Option.map_some,Option.toList_some]
     rw [this]
     have:=ih h2
     simp only [denL] at this
     rw [this]
     rfl
    ·cases h
 rw [key h]
 simp
theorem Ss (hf:FrRel σ sf fr) {t:TypeId} {x:Operand} {lo hi mx:Option Operand} {a:Act} (ho:o.op=.slice t x lo hi mx) (hl:cD E o=true) (h:pg E sf t x lo hi mx=some a):da E σ fr o a:=by
 unfold pg at h
 split at h
 ·cases h
 rename_i hm
 have hgo:∀ A v,ec E A t (aD fr x) (lo.map (aD fr)) (hi.map (aD fr)) (mx.map (aD fr))=some v->opX E A (aD fr) o=some (.val v,A):=by
  intro A v hs
  rw [e8 hl]
  unfold opD
  rw [ho]
  show gY E A (aD fr) t x lo hi mx=_
  unfold gY
  rw [hs]
 have hm':¬ ((mx.map (aD fr)).isSome&&(hi.map (aD fr)).isNone)=true:=by simpa using hm
 split at h
 ·rename_i a' xs hu hx hxs
  cases mx with
  | some m=>cases h
  | none =>
   cases h
   intro A v A' hs
   obtain ⟨_,_,hd⟩:=vJ hf hxs
   have hx':=(aK hf hx).2
   simp only [denL,List.map_cons] at hs
   have hd':xs.map (·.den σ)=_:=hd
   rw [hd',<- hx'] at hs
   cases hv:aD fr x with
   | string s =>
    rw [hv] at hs
    have hvals:∃ r,ec E A t (aD fr x) (lo.map (aD fr)) (hi.map (aD fr)) none=some r/\some (r,A)=some (v,A'):=by
     unfold ec
     rw [if_neg (by simp),hu,hv]
     cases lo <;> cases hi <;>
      simp only [aB,Option.map_none,Option.map_some,Option.toList_none,Option.toList_some,List.nil_append,List.append_nil,List.cons_append,Option.isSome_some,Option.isSome_none,if_true,Bool.false_eq_true,if_false,List.head?_cons,List.tail_cons,List.head?_nil] at hs ⊢ <;>
      (split at hs <;> first
       | (cases hs;done)
       | (split at hs <;> first
         | (cases hs;done)
         | (rename_i h1 _ _ h2;rw [h1];simp only;rw [h2];exact ⟨_,rfl,hs⟩)))
    obtain ⟨r,hr,he⟩:=hvals
    cases he
    exact hgo A _ hr
   | _=>rw [hv] at hs;simp [aB] at hs
 ·rename_i e a' xs hu hx hxs
  split at h
  ·rename_i sz hsz
   cases h
   intro A v A' hs
   obtain ⟨_,_,hd⟩:=vJ hf hxs
   have hx':=(aK hf hx).2
   simp only [denL,List.map_cons] at hs
   have hd':xs.map (·.den σ)=_:=hd
   rw [hd',<- hx'] at hs
   have hA:A'=A/\ec E A t (aD fr x) (lo.map (aD fr)) (hi.map (aD fr)) (mx.map (aD fr))=some v:=by
    unfold ec
    rw [if_neg hm',hu]
    simp only [aB] at hs
    have e1:(if lo.isSome=true then ((lo.map (aD fr)).toList++(hi.map (aD fr)).toList++(mx.map (aD fr)).toList).head? else none)=lo.map (aD fr):=by cases lo <;> simp
    have e2:(if lo.isSome=true then ((lo.map (aD fr)).toList++(hi.map (aD fr)).toList++(mx.map (aD fr)).toList).tail else ((lo.map (aD fr)).toList++(hi.map (aD fr)).toList++(mx.map (aD fr)).toList))=(hi.map (aD fr)).toList++(mx.map (aD fr)).toList:=by cases lo <;> simp
    have e3:(if hi.isSome=true then ((hi.map (aD fr)).toList++(mx.map (aD fr)).toList).head? else none)=hi.map (aD fr):=by cases hi <;> simp
    have e4:(if hi.isSome=true then ((hi.map (aD fr)).toList++(mx.map (aD fr)).toList).tail else ((hi.map (aD fr)).toList++(mx.map (aD fr)).toList))=(mx.map (aD fr)).toList:=by cases hi <;> simp
    have e5:(if mx.isSome=true then ((mx.map (aD fr)).toList).head? else none)=mx.map (aD fr):=by cases mx <;> simp
    rw [e1,e2,e3,e4,e5] at hs
    cases hv:aD fr x with
    | slice base len cap =>
     rw [hv] at hs
     cases base with
     | none =>
      simp only [hsz] at hs ⊢
      split at hs
      ·rename_i hle
       rw [hle]
       simp only
       split at hs <;> first
        | (cases hs;done)
        | skip
       rename_i m hm1
       rw [hm1];simp only
       split at hs <;> first
        | (cases hs;done)
        | skip
       rename_i hh hh1
       rw [hh1];simp only
       split at hs <;> first
        | (cases hs;done)
        | skip
       rename_i l hl1
       rw [hl1]
       cases hs
       exact ⟨rfl,rfl⟩
      ·cases hs
     | some ad =>
      simp only [hsz] at hs ⊢
      split at hs <;> first
       | (cases hs;done)
       | skip
      rename_i r hr
      rw [hr];simp only
      split at hs <;> first
       | (cases hs;done)
       | skip
      rename_i m hm1
      rw [hm1];simp only
      split at hs <;> first
       | (cases hs;done)
       | skip
      rename_i hh hh1
      rw [hh1];simp only
      split at hs <;> first
       | (cases hs;done)
       | skip
      rename_i l hl1
      rw [hl1];simp only
      split at hs
      ·rename_i ho1
       rw [ho1];simp only
       split at hs
       ·cases hs
       ·rename_i hc
        rw [if_neg (by simpa using hc)]
        cases hs
        refine ⟨rfl,?_⟩
        cases mx <;> rfl
      ·rename_i ho1
       rw [ho1]
       cases hs
       exact ⟨rfl,rfl⟩
    | _=>rw [hv] at hs;cases hs
   obtain ⟨rfl,hr⟩:=hA
   exact hgo A' _ hr
  ·cases h
 ·cases h
end
end Go.AM.SX
namespace Go.AM.SX
open Go
section
variable {E:Env} {σ:Sg} {sf:SF} {fr:Fr} {o:Oper}
theorem oc {src dst:TypeId} {x:Operand} {A:St} {ρ:Operand->Value} {v:Value} (ho:o.op=.convert src dst x) 
  (hp:aH (ρ x)=true) (hv:aH v=true) (hc:aR E.P (convert src dst (ρ x))=some (.ok v)):cT E A ρ o=some (.val v,A):=by
 refine iD (by unfold dD;rw [ho]) (by rw [ho];show [ρ x].all aH=true;simp [hp]) ?_ hv
 unfold execOp
 rw [ho]
 show aR E.P (convert src dst (ρ x) >>= fun r=>(pure (Next.value r):Sem Next))=_
 rw [cy hc]
 rfl
theorem oe (hE:SxEnv E) {src dst:TypeId} {ds dd:TypeDesc} (hs:E.und src=some ds) (hd:E.und dst=some dd) {f:TypeDesc->TypeDesc->Sem Value} :
  aR E.P (underlying src >>= fun a=>underlying dst >>= fun b=>f a b)=aR E.P (f ds dd):=by
 rw [cy (lU (hE.und _ _ hs)),cy (lU (hE.und _ _ hd))]
theorem Su (hE:SxEnv E) (hf:FrRel σ sf fr) {src dst:TypeId} {x:Operand} {a:Act} (ho:o.op=.convert src dst x) (hl:cD E o=true) (h:ph E sf src dst x=some a):da E σ fr o a:=by
 have hX:∀ A,opX E A (aD fr) o=df E A (aD fr) o src dst x:=by
  intro A
  rw [e8 hl]
  unfold opD
  rw [ho]
 unfold ph at h
 split at h
 ·rename_i k0 k a' hs hd hx
  have hx':=(aK hf hx).2
  have main:∀ A j n,aD fr x=.int j n->opX E A (aD fr) o=some (.val (.int k (k.wrap n)),A):=by
   intro A j n hv
   rw [hX]
   unfold df
   rw [hs,hd]
   simp only
   refine oc ho (by rw [hv];rfl) rfl ?_
   rw [hv]
   show aR E.P (underlying src >>= fun a=>underlying dst >>= fun b=>_)=_
   rw [oe hE hs hd]
   rfl
  split at h
  ·rename_i j n
   cases h
   exact ⟨c8 σ _,fun A=>main A j n hx'⟩
  ·cases h
   intro A v A' hr
   simp only [denL,List.map_cons,List.map_nil] at hr
   rw [<- hx'] at hr
   cases hv:aD fr x with
   | int j n =>
    rw [hv] at hr
    simp only [aB,Option.some.injEq,Prod.mk.injEq] at hr
    obtain ⟨rfl,rfl⟩:=hr
    exact main A j n hv
   | _=>rw [hv] at hr;simp [aB] at hr
 ·rename_i k0 a' hs hd hx
  cases h
  have hx':=(aK hf hx).2
  intro A v A' hr
  simp only [denL,List.map_cons,List.map_nil] at hr
  rw [<- hx'] at hr
  cases hv:aD fr x with
  | int j n =>
   rw [hv] at hr
   simp only [aB,Option.some.injEq,Prod.mk.injEq] at hr
   obtain ⟨rfl,rfl⟩:=hr
   rw [hX]
   unfold df
   rw [hs,hd]
   simp only
   refine oc ho (by rw [hv];rfl) rfl ?_
   rw [hv]
   show aR E.P (underlying src >>= fun a=>underlying dst >>= fun b=>_)=_
   rw [oe hE hs hd]
   rfl
  | _=>rw [hv] at hr;simp [aB] at hr
 ·rename_i e a' hs hd hx
  split at h
  ·rename_i he
   cases h
   have hx':=(aK hf hx).2
   intro A v A' hr
   simp only [denL,List.map_cons,List.map_nil] at hr
   rw [<- hx'] at hr
   simp only [aB] at hr
   split at hr
   ·rename_i l hb
    cases hr
    rw [hX]
    unfold df
    rw [hs,hd]
    simp only [he,hb]
   ·cases hr
  ·cases h
 ·rename_i e a' hs hd hx
  split at h
  ·rename_i he
   cases h
   have hx':=(aK hf hx).2
   intro A v A' hr
   simp only [denL,List.map_cons,List.map_nil] at hr
   rw [<- hx'] at hr
   cases hv:aD fr x with
   | string s =>
    rw [hv] at hr
    simp only [aB,Option.some.injEq,Prod.mk.injEq] at hr
    obtain ⟨rfl,rfl⟩:=hr
    rw [hX]
    unfold df
    rw [hs,hd,hv]
    simp only [he]
   | _=>rw [hv] at hr;simp [aB] at hr
  ·cases h
 ·rename_i a' hs hd hx
  cases h
  have hx':=(aK hf hx).2
  intro A v A' hr
  simp only [denL,List.map_cons,List.map_nil] at hr
  rw [<- hx'] at hr
  cases hv:aD fr x with
  | string s =>
   rw [hv] at hr
   simp only [aB,Option.some.injEq,Prod.mk.injEq] at hr
   obtain ⟨rfl,rfl⟩:=hr
   rw [hX]
   unfold df
   rw [hs,hd,hv]
   simp only
   refine oc ho (by rw [hv];rfl) rfl ?_
   rw [hv]
   show aR E.P (underlying src >>= fun a=>underlying dst >>= fun b=>_)=_
   rw [oe hE hs hd]
   rfl
  | _=>rw [hv] at hr;simp [aB] at hr
 ·cases h
theorem lW {c:Call} (ho:o.op=.call c) (hl:cD E o=true) (A:St) (ρ:Operand->Value):opX E A ρ o=eE E A ρ o c:=by
 rw [e8 hl]
 unfold opD
 rw [ho]
theorem Sv {c:Call} {b:Builtin} (ho:o.op=.call c) (hl:cD E o=true) (hb:c.callee=.builtin b) (A:St) (ρ:Operand->Value):opX E A ρ o=bK E A b c.argTypes.toList o.type (c.args.toList.map ρ):=by
 rw [lW ho hl]
 unfold eE dP
 rw [hb]
 simp [eD]
theorem Sw {b:Builtin} {ts:List TypeId} {xs:List X} {a:Act} (hg:∀ x,x∈xs->x.good σ) (h:pj E b ts xs=some a) (hX:∀ A,opX E A (aD fr) o=bK E A b ts o.type (denL σ xs)):da E σ fr o a:=by
 unfold pj at h
 split at h
 ·-- len
  rename_i t ts' x
  simp only [denL,List.map_cons,List.map_nil] at hX
  split at h
  ·rename_i e hu
   split at h
   ·rename_i aa n
    cases h
    refine ⟨c8 σ _,fun A=>?_⟩
    rw [hX]
    obtain ⟨p,hp⟩:=(hg _ (List.mem_singleton.2 rfl)).2
    simp only [bK,dC,bJ,hu,X.den,hp,slV]
    rfl
   ·rename_i p n q
    cases h
    refine ⟨c8 σ _,fun A=>?_⟩
    rw [hX]
    simp only [bK,dC,bJ,hu]
    rfl
   ·cases h
    intro A v A' hr
    simp only [denL,List.map_cons,List.map_nil] at hr
    rw [hX]
    cases hv:x.den σ <;> rw [hv] at hr <;> simp only [aB] at hr <;> first
     | (cases hr;done)
     | (cases hr;simp only [bK,dC,bJ,hu])
  ·rename_i hu
   split at h
   ·rename_i s
    cases h
    refine ⟨c8 σ _,fun A=>?_⟩
    rw [hX]
    simp only [bK,dC,bJ,hu]
    rfl
   ·cases h
    intro A v A' hr
    simp only [denL,List.map_cons,List.map_nil] at hr
    rw [hX]
    cases hv:x.den σ <;> rw [hv] at hr <;> simp only [aB] at hr <;> first
     | (cases hr;done)
     | (cases hr;simp only [bK,dC,bJ,hu])
  ·rename_i k v hu
   cases h
   intro A v A' hr
   simp only [denL,List.map_cons,List.map_nil] at hr
   rw [hX]
   cases hv:x.den σ <;> rw [hv] at hr <;> first
    | (simp only [aB] at hr;cases hr;done)
    | skip
   rename_i r
   cases r with
   | none=>simp only [aB] at hr;cases hr;simp only [bK,dC,bJ,hu]
   | some r =>
    simp only [aB] at hr
    split at hr
    ·rename_i es c hg
     cases hr
     simp only [bK,dC,bJ,hu,hg]
    ·cases hr
  ·rename_i n e hu
   cases h
   refine ⟨c8 σ _,fun A=>?_⟩
   rw [hX]
   simp only [bK,dC,bJ,hu]
   rfl
  ·cases h
 ·-- cap
  rename_i t ts' x
  simp only [denL,List.map_cons,List.map_nil] at hX
  split at h
  ·rename_i e hu
   cases h
   intro A v A' hr
   simp only [denL,List.map_cons,List.map_nil] at hr
   rw [hX]
   cases hv:x.den σ <;> rw [hv] at hr <;> first
    | (simp only [aB] at hr;cases hr;done)
    | skip
   rename_i r l c
   cases r with
   | none=>simp only [aB] at hr;cases hr;simp only [bK,gV,bJ,hu]
   | some r =>
    simp only [aB] at hr
    split at hr
    ·rename_i rr hg
     split at hr
     ·cases hr
     ·rename_i hc
      cases hr
      simp only [bK,gV,bJ,hu,hg]
      rw [if_neg hc]
    ·cases hr
  ·cases h
 ·-- append
  rename_i t t1 x y
  simp only [denL,List.map_cons,List.map_nil] at hX
  split at h
  ·rename_i e k1 hu hu1
   split at h
   ·rename_i i z hi hz
    cases h
    intro A v A' hr
    simp only [denL,List.map_cons,List.map_nil] at hr
    rw [hX]
    cases hv:x.den σ <;> rw [hv] at hr <;> first
     | (simp only [aB] at hr;cases hr;done)
     | skip
    rename_i base len cap
    cases hw:y.den σ <;> rw [hw] at hr <;> first
     | (simp only [aB] at hr;cases hr;done)
     | skip
    rename_i k2 n
    simp only [aB] at hr
    simp only [bK,iY]
    unfold app
    simp only [hu,hu1,hi,hz]
    split at hr
    ·rename_i hc0
     have hnew:fZ E A (.int k1) e i (.int k2 n)=some (n.toNat,zeros z.cells.toList n.toNat):=by
      unfold fZ
      simp only [hz]
      rw [if_pos hc0]
     rw [hnew]
     simp only
     split at hr
     ·rename_i hc
      rw [if_pos hc]
      split at hr
      ·rename_i hle
       rw [if_pos hle,hr]
      ·rename_i hle
       rw [if_neg hle,hr]
     ·cases hr
    ·cases hr
   ·cases h
  ·rename_i e d1 hn hu hu1
   split at h
   ·rename_i i z hi hz
    cases h
    intro A v A' hr
    simp only [denL,List.map_cons,List.map_nil] at hr
    rw [hX]
    cases hv:x.den σ <;> rw [hv] at hr <;> first
     | (simp only [aB] at hr;cases hr;done)
     | skip
    rename_i base len cap
    simp only [aB] at hr
    simp only [bK,iY]
    unfold app
    simp only [hu,hu1,hi,hz]
    have hnew:fZ E A d1 e i (y.den σ)=cz A i.size (y.den σ):=by
     unfold fZ cz
     cases d1 <;> first
      | rfl
      | exact (hn _ rfl).elim
    rw [hnew]
    split at hr
    ·rename_i n new hm
     rw [hm]
     simp only
     split at hr
     ·rename_i hc
      rw [if_pos hc]
      split at hr
      ·rename_i hle
       rw [if_pos hle,hr]
      ·rename_i hle
       rw [if_neg hle,hr]
     ·cases hr
    ·cases hr
   ·cases h
  ·cases h
 ·-- copy
  rename_i t ts' x y
  simp only [denL,List.map_cons,List.map_nil] at hX
  split at h
  ·rename_i e hu
   split at h
   ·rename_i sz hsz
    cases h
    intro A v A' hr
    simp only [denL,List.map_cons,List.map_nil] at hr
    rw [hX]
    cases hv:x.den σ <;> rw [hv] at hr <;> first
     | (simp only [aB] at hr;cases hr;done)
     | skip
    rename_i base dl cap
    simp only [aB] at hr
    simp only [bK,kB,bJ,hu,hsz]
    split at hr <;> first
     | (cases hr;done)
     | skip
    rename_i sl hsl
    rw [hsl];simp only
    split at hr <;> first
     | (cases hr;done)
     | skip
    rename_i cs hcs
    rw [hcs];simp only
    cases base with
    | none=>cases hr;rfl
    | some ad =>
     simp only at hr ⊢
     split at hr
     ·rename_i hc
      rw [if_pos hc]
      cases hr;rfl
     ·rename_i hc
      rw [if_neg hc]
      split at hr
      ·rename_i A'' hst
       rw [hst]
       cases hr;rfl
      ·cases hr
   ·cases h
  ·cases h
 ·-- delete
  rename_i t ts' x y
  simp only [denL,List.map_cons,List.map_nil] at hX
  split at h
  ·rename_i kt vt hu
   split at h
   ·rename_i kd hkd
    cases h
    intro A v A' hr
    simp only [denL,List.map_cons,List.map_nil] at hr
    rw [hX]
    cases hv:x.den σ <;> rw [hv] at hr <;> first
     | (simp only [aB] at hr;cases hr;done)
     | skip
    rename_i r
    cases r with
    | none=>simp only [aB] at hr;cases hr
    | some r =>
     simp only [aB] at hr
     simp only [bK,kC,bJ,hu,hkd]
     split at hr <;> first
      | (cases hr;done)
      | skip
     rename_i es c hg
     rw [hg];simp only
     split at hr <;> first
      | (cases hr;done)
      | skip
     rename_i hk
     rw [if_pos hk]
     split at hr
     ·rename_i i v' hfe
      rw [hfe]
      cases hr;rfl
     ·rename_i hfe
      rw [hfe]
      cases hr;rfl
     ·cases hr
   ·cases h
  ·cases h
 ·-- max
  rename_i x y
  cases h
  intro A v A' hr
  simp only [denL,List.map_cons,List.map_nil] at hr hX
  rw [hX]
  cases hv:x.den σ <;> rw [hv] at hr <;> first
   | (simp only [aB] at hr;cases hr;done)
   | skip
  cases hw:y.den σ <;> rw [hw] at hr <;> first
   | (simp only [aB] at hr;cases hr;done)
   | skip
  simp only [aB] at hr
  cases hr
  rfl
 ·rename_i x y
  cases h
  intro A v A' hr
  simp only [denL,List.map_cons,List.map_nil] at hr hX
  rw [hX]
  cases hv:x.den σ <;> rw [hv] at hr <;> first
   | (simp only [aB] at hr;cases hr;done)
   | skip
  cases hw:y.den σ <;> rw [hw] at hr <;> first
   | (simp only [aB] at hr;cases hr;done)
   | skip
  simp only [aB] at hr
  cases hr
  rfl
 ·cases h
end
end Go.AM.SX
namespace Go.AM.SX
open Go
section
variable {E:Env} {σ:Sg} {sf:SF} {fr:Fr} {o:Oper}
theorem Sx (hf:FrRel σ sf fr) {c:Call} {a:Act} (ho:o.op=.call c) (hl:cD E o=true) (h:pk E sf c=some a):da E σ fr o a:=by
 unfold pk at h
 split at h
 ·cases h
 rename_i xs hxs
 obtain ⟨hgood,hargs⟩:=mQ hf hxs
 split at h
 ·rename_i b hb
  refine Sw hgood h fun A=>?_
  rw [Sv ho hl hb,hargs]
 ·rename_i f hc
  split at h
  ·rename_i g cs hg
   obtain ⟨hg1,hg2⟩:=aK hf hg
   have hX:∀ A,opX E A (aD fr) o=de E A g (denL σ xs++cs.map (·.den σ)):=by
    intro A
    rw [lW ho hl]
    unfold eE dP
    rw [hc]
    simp only [hg2,X.den,eD]
    congr 1
    simp [<- hargs]
   split at h
   ·rename_i fn hfn
    split at h
    ·rename_i body hbody
     cases h
     refine ⟨fun x hx=>?_,fun A=>?_⟩
     ·rcases List.mem_append.1 hx with hx | hx
      ·exact hgood x hx
      ·obtain ⟨at',ha,rfl⟩:=List.mem_map.1 hx
       exact ⟨List.all_eq_true.1 hg1.1 at' ha,trivial⟩
     ·rw [hX]
      unfold de
      rw [hfn]
      simp only [hbody]
      simp [denL,X.den]
    ·rename_i hbody
     split at h
     ·cases h
      intro A v A' hr
      rw [hX]
      unfold de
      rw [hfn]
      simp only [hbody,List.map_nil,List.append_nil]
      simp only [aB] at hr
      rw [hr]
     ·cases h
   ·cases h
  ·rename_i k hg
   cases h
   intro A g fs cs hd hb
   obtain ⟨fn,hfn,hbody⟩:=hb
   obtain ⟨_,hg2⟩:=aK hf hg
   rw [lW ho hl]
   unfold eE dP
   rw [hc]
   have:aD fr f=.func (.func g) fs cs:=hg2.trans hd
   simp only [this,eD]
   unfold de
   rw [hfn]
   obtain ⟨body,hbody⟩:=Option.isSome_iff_exists.1 hbody
   simp only [hbody]
   simp [<- hargs]
  ·cases h
 ·rename_i r name hc
  split at h
  ·rename_i x hx
   cases h
   intro A g as hm
   obtain ⟨_,hx2⟩:=aK hf hx
   rw [lW ho hl]
   unfold eE dP
   rw [hc]
   simp only [eD]
   have:(#[aD fr r]++c.args.map (aD fr)).toList=aD fr r::denL σ xs:=by simp [<- hargs]
   rw [this,hx2]
   exact hm
  ·cases h
theorem vK:∀ {xs:List X} {l:List At},mK xs=some l->(∀ x,x∈xs->X.good σ x)->l.all (·.ok σ.length)=true/\denL σ xs=l.map (·.den σ)
 | [],l,h,_=>by cases h;exact ⟨rfl,rfl⟩
 | x::xs,l,h,hg=>by
  simp only [mK] at h
  split at h
  ·rename_i a l' h1 h2
   cases h
   have:x=.at a:=by cases x <;> simp [atomic] at h1;rw [h1]
   subst this
   obtain ⟨i1,i2⟩:=vK h2 (fun y hy=>hg y (List.mem_cons_of_mem _ hy))
   refine ⟨?_,?_⟩
   ·simp only [List.all_cons,i1,Bool.and_true]
    exact (hg _ (List.mem_cons_self ..)).1
   ·simp only [denL,List.map_cons] at i2 ⊢
    rw [i2]
    rfl
  ·cases h
end
end Go.AM.SX
namespace Go.AM.SX
open Go
section
variable {E:Env} {σ:Sg} {sf:SF} {fr:Fr} {o:Oper}
theorem vL (hE:SxEnv E) {op:BinOp} {t u:TypeId} {x y:Operand} {a b:X} {r:X} (ho:o.op=.binOp op t x y u) (hx:aD fr x=a.den σ) (hy:aD fr y=b.den σ) (h:pc a b op=some r) (A:St) :
  r.good σ/\dE E A (aD fr) o op t x y=some (.val (r.den σ),A):=by
 unfold pc at h
 split at h
 ·rename_i v w
  split at h
  ·rename_i v' hb
   split at h
   ·cases h
    refine ⟨c8 σ _,?_⟩
    refine vG hE.sl ho ?_
    rw [hx,hy]
    exact hb
   ·cases h
  ·cases h
 ·cases h
theorem Sy (hE:SxEnv E) {op:BinOp} {t u:TypeId} {x y:Operand} {a b:X} {ac:Act} (ho:o.op=.binOp op t x y u) (hl:cD E o=true) (hx:aD fr x=a.den σ) (hy:aD fr y=b.den σ)
  (h:pd E op t y a b=some ac):da E σ fr o ac:=by
 have hX:∀ A,opX E A (aD fr) o=dE E A (aD fr) o op t x y:=by
  intro A
  rw [e8 hl]
  unfold opD
  rw [ho]
 unfold pd at h
 split at h
 ·rename_i r hr
  cases h
  refine ⟨(vL (E:=E) hE ho hx hy hr { next:=0,h:=.nil,g:=.nil }).1,fun A=>?_⟩
  rw [hX]
  exact (vL hE ho hx hy hr A).2
 ·split at h
  ·rename_i hc
   rw [Bool.and_eq_true] at hc
   split at h <;> first
    | (cases h;done)
    | (have hd:=‹E.und t=some _›
       cases h
       intro A v A' hr
       simp only [denL,List.map_cons,List.map_nil,aB] at hr
       split at hr
       ·rename_i bb hbb
        cases hr
        rw [hX]
        rw [<- hx,<- hy] at hbb
        have:=Sl (A:=A) (ρ:=aD fr) hE ho (by first | exact .inl rfl | exact .inr rfl) hc.1 hd hbb
        rw [this]
        cases bb <;> rfl
       ·cases hr)
  ·have binCase:da E σ fr o (.op (.bin op) [a,b]):=by
    intro A v A' hr
    simp only [denL,List.map_cons,List.map_nil,aB] at hr
    split at hr
    ·rename_i w hw
     cases hr
     rw [hX]
     refine vG hE.sl ho ?_
     rw [hx,hy]
     exact hw
    ·cases hr
   have boolCase:∀ neg:Bool,(op=if neg then .neq else .eql)->E.und t=some .bool->da E σ fr o (.op (.beq neg) [a,b]):=by
    intro neg hop hd A v A' hr
    simp only [denL,List.map_cons,List.map_nil] at hr
    cases ha:a.den σ <;> rw [ha] at hr <;> first
     | (cases hr;done)
     | skip
    cases hb:b.den σ <;> rw [hb] at hr <;> first
     | (cases hr;done)
     | skip
    cases hr
    rw [hX,Sn hE ho (by cases neg <;> simp [hop]) hd (hx.trans ha) (hy.trans hb)]
    cases neg <;> simp [hop]
   split at h
   ·cases h
    exact boolCase false rfl ‹E.und t=some .bool›
   ·cases h
    exact boolCase true rfl ‹E.und t=some .bool›
   ·cases h
    exact binCase
theorem og {op:UnOp} {t:TypeId} {x:Operand} {A:St} {v r:Value} (ho:o.op=.unOp op t x) (hl:cD E o=true) (hv:aD fr x=v) (hp:aH v=true) (hpr:aH r=true) (hu:Op.unary op v=pure r) :
  opX E A (aD fr) o=some (.val r,A):=by
 rw [e8 hl]
 unfold opD
 rw [ho]
 show cT E A (aD fr) o=_
 refine iD (by unfold dD;rw [ho]) (by rw [ho];show [aD fr x].all aH=true;simp [hv,hp]) ?_ hpr
 unfold execOp
 rw [ho]
 show aR E.P (Op.unary op (aD fr x) >>= fun r=>(pure (Next.value r):Sem Next))=_
 rw [hv,hu]
 rfl
set_option maxHeartbeats 0 in
theorem iE (hE:SxEnv E) (hf:FrRel σ sf fr) {a:Act} (hl:cD E o=true) (h:tr E sf o=some a):da E σ fr o a:=by
 have hXD:∀ A,opX E A (aD fr) o=opD E A (aD fr) o:=fun A=>e8 hl
 unfold tr at h
 cases ho:o.op <;> rw [ho] at h <;> simp only at h <;> first
  | (cases h;done)
  | skip
 case move x =>
  cases hx:aT sf x with
  | none=>rw [hx] at h;cases h
  | some y =>
   rw [hx] at h;cases h
   obtain ⟨h1,h2⟩:=aK hf hx
   refine ⟨h1,fun A=>?_⟩
   rw [hXD];unfold opD;rw [ho];simp only [h2]
 case assign x =>
  cases hx:aT sf x with
  | none=>rw [hx] at h;cases h
  | some y =>
   rw [hx] at h;cases h
   obtain ⟨h1,h2⟩:=aK hf hx
   refine ⟨h1,fun A=>?_⟩
   rw [hXD];unfold opD;rw [ho];simp only [h2]
 case pick c x y =>
  split at h
  ·rename_i t x' y' hc hx hy
   cases h
   obtain ⟨_,c2⟩:=aK hf hc
   obtain ⟨x1,x2⟩:=aK hf hx
   obtain ⟨y1,y2⟩:=aK hf hy
   refine ⟨by cases t <;> assumption,fun A=>?_⟩
   rw [hXD];unfold opD;rw [ho];simp only [gW,c2,x2,y2,X.den,At.den]
   cases t <;> rfl
  ·rename_i k x' y' hc hx hy
   cases h
   obtain ⟨_,c2⟩:=aK hf hc
   obtain ⟨x1,x2⟩:=aK hf hx
   obtain ⟨y1,y2⟩:=aK hf hy
   refine ⟨x1,y1,fun A t hk=>?_⟩
   have c3:aD fr c=.bool t:=c2.trans hk
   rw [hXD];unfold opD;rw [ho];simp only [gW,c3,x2,y2]
  ·cases h
 case alloc t =>
  split at h
  ·rename_i z hz
   cases h
   intro A v A' hr
   simp only [denL,List.map_nil,aB,Option.some.injEq,Prod.mk.injEq] at hr
   obtain ⟨rfl,rfl⟩:=hr
   rw [hXD];unfold opD;rw [ho];simp only [kG,hz]
   rfl
  ·cases h
 case box t x =>
  split at h
  ·rename_i x' hx
   cases h
   intro A v A' hr
   obtain ⟨_,x2⟩:=aK hf hx
   simp only [denL,List.map_cons,List.map_nil,aB,Option.some.injEq,Prod.mk.injEq] at hr
   obtain ⟨rfl,rfl⟩:=hr
   rw [hXD];unfold opD;rw [ho];simp only [kH,x2]
   rfl
  ·cases h
 case build t parts=>exact Sq hf (parts:=parts.toList) ho hl h
 case buildSlice t len parts=>exact Sr hf (parts:=parts.toList) ho hl h
 case load t x =>
  split at h
  ·rename_i n x' ha hs hx
   cases h
   obtain ⟨_,x2⟩:=aK hf hx
   intro A v A' hr
   simp only [denL,List.map_cons,List.map_nil] at hr
   rw [<- x2] at hr
   rw [hXD];unfold opD;rw [ho];simp only [gX]
   cases hv:aD fr x <;> rw [hv] at hr <;> first
    | (simp only [aB] at hr;cases hr;done)
    | skip
   rename_i p
   cases p with
   | none=>simp only [aB] at hr;cases hr
   | some ad =>
    simp only [aB] at hr
    simp only [dA,ha,hs]
    split at hr
    ·rename_i vs hvs
     cases hr
     rw [hvs]
    ·cases hr
  ·rename_i x' ha hx
   cases h
   obtain ⟨_,x2⟩:=aK hf hx
   intro A v A' hr
   simp only [denL,List.map_cons,List.map_nil] at hr
   rw [<- x2] at hr
   rw [hXD];unfold opD;rw [ho];simp only [gX]
   cases hv:aD fr x <;> rw [hv] at hr <;> first
    | (simp only [aB] at hr;cases hr;done)
    | skip
   rename_i p
   cases p with
   | none=>simp only [aB] at hr;cases hr
   | some ad =>
    simp only [aB] at hr
    simp only [dA,ha]
    split at hr
    ·rename_i w hvs
     cases hr
     rw [hvs]
    ·cases hr
  ·cases h
 case store t x y =>
  split at h
  ·rename_i n x' y' hs hx hy
   cases h
   obtain ⟨_,x2⟩:=aK hf hx
   obtain ⟨_,y2⟩:=aK hf hy
   intro A v A' hr
   simp only [denL,List.map_cons,List.map_nil] at hr
   rw [<- x2,<- y2] at hr
   rw [hXD];unfold opD;rw [ho];simp only [kI]
   cases hv:aD fr x <;> rw [hv] at hr <;> first
    | (simp only [aB] at hr;cases hr;done)
    | skip
   rename_i p
   cases p with
   | none=>simp only [aB] at hr;cases hr
   | some ad =>
    simp only [aB] at hr
    simp only [jz,hs]
    split at hr
    ·rename_i hc
     rw [if_pos hc]
     split at hr
     ·rename_i A'' hst
      cases hr
      rw [hst]
     ·cases hr
    ·cases hr
  ·cases h
 case nilCheck x =>
  split at h
  ·rename_i f cs hx
   cases h
   obtain ⟨x1,x2⟩:=aK hf hx
   refine ⟨x1,fun A=>?_⟩
   rw [hXD];unfold opD;rw [ho];simp only [ff,x2,X.den]
  ·rename_i t a' hx
   cases h
   obtain ⟨x1,x2⟩:=aK hf hx
   refine ⟨x1,fun A=>?_⟩
   rw [hXD];unfold opD;rw [ho];simp only [ff,x2,X.den]
  ·rename_i x' hx
   cases h
   obtain ⟨_,x2⟩:=aK hf hx
   intro A v A' hr
   simp only [denL,List.map_cons,List.map_nil,aB] at hr
   rw [<- x2] at hr
   rw [hXD];unfold opD;rw [ho];simp only [ff]
   cases hv:aD fr x <;> rw [hv] at hr <;> first
    | (cases hr;rfl)
    | (rename_i p;cases p <;> first
      | (cases hr;rfl)
      | (cases hr;done))
    | (rename_i fn f c;cases fn <;> first
      | (cases hr;rfl)
      | (cases hr;done))
    | (cases hr;done)
  ·cases h
 case binOp op t x y u =>
  split at h
  ·rename_i a' b' hx hy
   exact Sy hE ho hl (aK hf hx).2 (aK hf hy).2 h
  ·cases h
 case unOp op t x =>
  split at h
  ·rename_i a' hx
   obtain ⟨_,x2⟩:=aK hf hx
   split at h
   ·rename_i b
    cases h
    exact ⟨c8 σ _,fun A=>og ho hl x2 rfl rfl rfl⟩
   ·cases h
    intro A v A' hr
    simp only [denL,List.map_cons,List.map_nil] at hr
    rw [<- x2] at hr
    cases hv:aD fr x <;> rw [hv] at hr <;> simp only [aB] at hr <;> first
     | (cases hr;done)
     | (cases hr;exact og ho hl hv rfl rfl rfl)
  ·rename_i a' hx
   obtain ⟨_,x2⟩:=aK hf hx
   cases h
   intro A v A' hr
   simp only [denL,List.map_cons,List.map_nil] at hr
   rw [<- x2] at hr
   cases hv:aD fr x <;> rw [hv] at hr <;> simp only [aB] at hr <;> first
    | (cases hr;done)
    | (cases hr;exact og ho hl hv rfl rfl rfl)
  ·cases h
 case convert src dst x=>exact Su hE hf ho hl h
 case makeInterface t x =>
  split at h
  ·cases h
  ·rename_i d a' hn hu hx
   cases h
   obtain ⟨x1,x2⟩:=aK hf hx
   refine ⟨⟨x1.1,trivial⟩,fun A=>?_⟩
   rw [hXD];unfold opD;rw [ho];simp only [ic,hu]
   cases d <;> first
    | exact (hn _ rfl).elim
    | (rw [x2];rfl)
  ·cases h
 case makeFunc fn first captured =>
  cases fn with
  | func f =>
   simp only at h
   split at h
   ·rename_i xs hfst hxs
    split at h
    ·rename_i l hat
     cases h
     obtain ⟨g1,g2⟩:=mQ hf hxs
     obtain ⟨k1,k2⟩:=vK hat g1
     refine ⟨⟨k1,trivial⟩,fun A=>?_⟩
     rw [hXD];unfold opD;rw [ho];simp only [kP,X.den]
     have e1:first.map (aD fr)=#[]:=by
      have:first=#[]:=by simpa using hfst
      rw [this];simp
     have e2:captured.map (aD fr)=(l.map (·.den σ)).toArray:=by
      rw [<- k2,<- g2]
      apply Array.ext'
      simp
     rw [e1,e2]
    ·cases h
   ·cases h
  | _=>simp only at h;cases h
 case makeMap t r =>
  cases r with
  | none =>
   simp only at h
   cases h
   intro A v A' hr
   simp only [denL,List.map_nil,aB,Option.some.injEq,Prod.mk.injEq] at hr
   obtain ⟨rfl,rfl⟩:=hr
   rw [hXD];unfold opD;rw [ho];simp only [kJ]
   rfl
  | some _=>simp only at h;cases h
 case makeSlice t l c =>
  split at h
  ·rename_i e x' y' hu hx hy
   split at h
   ·rename_i i z hi hz
    split at h
    ·rename_i hc
     cases h
     obtain ⟨_,x2⟩:=aK hf hx
     obtain ⟨_,y2⟩:=aK hf hy
     intro A v A' hr
     simp only [denL,List.map_cons,List.map_nil] at hr
     rw [<- x2,<- y2] at hr
     rw [hXD];unfold opD;rw [ho];simp only [kK]
     cases hv:aD fr l <;> rw [hv] at hr <;> first
      | (simp only [aB] at hr;cases hr;done)
      | skip
     cases hw:aD fr c <;> rw [hw] at hr <;> first
      | (simp only [aB] at hr;cases hr;done)
      | skip
     simp only [aB] at hr
     split at hr
     ·rename_i hb
      simp only [Option.some.injEq,Prod.mk.injEq] at hr
      obtain ⟨rfl,rfl⟩:=hr
      rw [hu]
      simp only [hi,hz]
      rw [if_pos ⟨hb.1,hb.2.1,hb.2.2.1,hb.2.2.2,hc.1,hc.2⟩]
      rfl
     ·cases hr
    ·cases h
   ·cases h
  ·cases h
 case slice t x lo hi mx=>exact Ss hf ho hl h
 case fieldAddr s x f =>
  split at h
  ·rename_i fs a' hu hx
   split at h
   ·rename_i fd hfd
    split at h
    ·rename_i n hn
     split at h
     ·cases h
     ·rename_i hz
      cases h
      obtain ⟨_,x2⟩:=aK hf hx
      intro A v A' hr
      simp only [denL,List.map_cons,List.map_nil] at hr
      rw [<- x2] at hr
      rw [hXD];unfold opD;rw [ho];simp only [ie,hu]
      cases hv:aD fr x <;> rw [hv] at hr <;> first
       | (simp only [aB] at hr;cases hr;done)
       | skip
      rename_i p
      cases p with
      | none=>simp only [aB] at hr;cases hr
      | some ad =>
       simp only [aB] at hr
       cases hr
       simp only [hfd,hn]
       rw [if_neg hz]
    ·cases h
   ·cases h
  ·cases h
 case field t x f =>
  split at h
  ·rename_i fs a' hu hx
   split at h
   ·rename_i fd hfd
    obtain ⟨_,x2⟩:=aK hf hx
    split at h
    ·rename_i n ha hn
     cases h
     intro A v A' hr
     simp only [denL,List.map_cons,List.map_nil] at hr
     rw [<- x2] at hr
     rw [hXD];unfold opD;rw [ho];simp only [gZ,hu]
     cases hv:aD fr x <;> rw [hv] at hr <;> first
      | (simp only [aB] at hr;cases hr;done)
      | skip
     simp only [aB] at hr
     cases hr
     simp only [hfd,gR,ha,hn]
    ·rename_i ha
     cases h
     intro A v A' hr
     simp only [denL,List.map_cons,List.map_nil] at hr
     rw [<- x2] at hr
     rw [hXD];unfold opD;rw [ho];simp only [gZ,hu]
     cases hv:aD fr x <;> rw [hv] at hr <;> first
      | (simp only [aB] at hr;cases hr;done)
      | skip
     simp only [aB] at hr
     split at hr
     ·rename_i w hw
      cases hr
      simp only [hfd,gR,ha,hw]
     ·cases hr
    ·cases h
   ·cases h
  ·cases h
 case indexAddr t x ix =>
  split at h
  ·rename_i e a' i' hu hx hi
   split at h
   ·rename_i s hs
    split at h
    ·cases h
    ·rename_i hz
     cases h
     obtain ⟨_,x2⟩:=aK hf hx
     obtain ⟨_,i2⟩:=aK hf hi
     intro A v A' hr
     simp only [denL,List.map_cons,List.map_nil] at hr
     rw [<- x2,<- i2] at hr
     rw [hXD];unfold opD;rw [ho];simp only [gf,hu]
     cases hv:aD fr x <;> rw [hv] at hr <;> first
      | (simp only [aB] at hr;cases hr;done)
      | skip
     rename_i p len cap
     cases p with
     | none=>simp only [aB] at hr;cases hr
     | some ad =>
      cases hw:aD fr ix <;> rw [hw] at hr <;> first
       | (simp only [aB] at hr;cases hr;done)
       | skip
      simp only [aB] at hr
      split at hr
      ·rename_i hc
       cases hr
       simp only [hs]
       rw [if_pos ⟨hc.1,hc.2,hz⟩]
      ·cases hr
   ·cases h
  ·rename_i len e a' i' hu hx hi
   split at h
   ·rename_i s hs
    split at h
    ·cases h
    ·rename_i hz
     cases h
     obtain ⟨_,x2⟩:=aK hf hx
     obtain ⟨_,i2⟩:=aK hf hi
     intro A v A' hr
     simp only [denL,List.map_cons,List.map_nil] at hr
     rw [<- x2,<- i2] at hr
     rw [hXD];unfold opD;rw [ho];simp only [gf,hu]
     cases hv:aD fr x <;> rw [hv] at hr <;> first
      | (simp only [aB] at hr;cases hr;done)
      | skip
     rename_i p
     cases p with
     | none=>simp only [aB] at hr;cases hr
     | some ad =>
      cases hw:aD fr ix <;> rw [hw] at hr <;> first
       | (simp only [aB] at hr;cases hr;done)
       | skip
      simp only [aB] at hr
      split at hr
      ·rename_i hc
       cases hr
       simp only [hs]
       rw [if_pos ⟨hc.1,hc.2,hz⟩]
      ·cases hr
   ·cases h
  ·cases h
 case index t x ix =>
  split at h
  ·rename_i a' i' hu hx hi
   cases h
   obtain ⟨_,x2⟩:=aK hf hx
   obtain ⟨_,i2⟩:=aK hf hi
   intro A v A' hr
   simp only [denL,List.map_cons,List.map_nil] at hr
   rw [<- x2,<- i2] at hr
   rw [hXD];unfold opD;rw [ho];simp only [ig,hu]
   cases hv:aD fr x <;> rw [hv] at hr <;> first
    | (simp only [aB] at hr;cases hr;done)
    | skip
   cases hw:aD fr ix <;> rw [hw] at hr <;> first
    | (simp only [aB] at hr;cases hr;done)
    | skip
   simp only [aB] at hr
   split at hr
   ·rename_i hc
    simp only [if_pos hc]
    split at hr
    ·rename_i b hb
     cases hr
     rw [hb]
    ·cases hr
   ·cases hr
  ·cases h
 case lookup t m ix ok =>
  split at h
  ·rename_i kt et a' i' hu hx hi
   split at h
   ·rename_i kd z hkd hz
    cases h
    obtain ⟨_,x2⟩:=aK hf hx
    obtain ⟨_,i2⟩:=aK hf hi
    intro A v A' hr
    simp only [denL,List.map_cons,List.map_nil] at hr
    rw [<- x2,<- i2] at hr
    rw [hXD];unfold opD;rw [ho];simp only [ij,hu,hkd,hz]
    simp only [aB] at hr
    split at hr
    ·rename_i hk
     rw [if_pos hk]
     have fin:∀ es,(match bV (aD fr ix) es 0 with
       | some (some (_,v))=>some (if ok then .tuple #[v,.bool true] else v,A)
       | some none=>some (if ok then .tuple #[z,.bool false] else z,A)
       | none=>none:Option (Value×St))=some (v,A')->(match bV (aD fr ix) es 0 with
       | some (some (_,v))=>some (Nx.val (if ok then .tuple #[v,.bool true] else v),A)
       | some none=>some (Nx.val (if ok then .tuple #[z,.bool false] else z),A)
       | none=>none:Option (Nx×St))=some (.val v,A'):=by
      intro es he
      split at he
      ·rename_i i w hfe
       cases he;first | rfl | rw [hfe]
      ·rename_i hfe
       cases he;first | rfl | rw [hfe]
      ·cases he
     cases hv:aD fr m <;> rw [hv] at hr <;> first
      | (simp only at hr;cases hr;done)
      | skip
     rename_i r
     cases r with
     | none=>exact fin [] hr
     | some r =>
      simp only at hr ⊢
      cases hg:A.h.get r with
      | none=>rw [hg] at hr;cases hr
      | some ob =>
       rw [hg] at hr
       cases ob <;> first
        | (simp only at hr;cases hr;done)
        | (rename_i es c;exact fin es hr)
    ·cases hr
   ·cases h
  ·cases h
 case mapUpdate t m k x =>
  split at h
  ·rename_i kt et a' k' x' hu hm hk hx
   split at h
   ·rename_i kd hkd
    cases h
    obtain ⟨_,m2⟩:=aK hf hm
    obtain ⟨_,k2⟩:=aK hf hk
    obtain ⟨_,x2⟩:=aK hf hx
    intro A v A' hr
    simp only [denL,List.map_cons,List.map_nil] at hr
    rw [<- x2,<- m2,<- k2] at hr
    rw [hXD];unfold opD;rw [ho];simp only [ik,hu]
    cases hv:aD fr m <;> rw [hv] at hr <;> first
     | (simp only [aB] at hr;cases hr;done)
     | skip
    rename_i r
    cases r with
    | none=>simp only [aB] at hr;cases hr
    | some r =>
     simp only [aB] at hr
     simp only [hkd]
     split at hr
     ·rename_i es c hg
      rw [hg];simp only
      split at hr
      ·rename_i hko
       rw [if_pos hko]
       split at hr
       ·rename_i es' c' hp
        rw [hp]
        cases hr;rfl
       ·cases hr
      ·cases hr
     ·cases hr
   ·cases h
  ·cases h
 case insert t m k x =>
  split at h
  ·rename_i kt et a' k' x' hu hm hk hx
   split at h
   ·rename_i kd hkd
    cases h
    obtain ⟨_,m2⟩:=aK hf hm
    obtain ⟨_,k2⟩:=aK hf hk
    obtain ⟨_,x2⟩:=aK hf hx
    intro A v A' hr
    simp only [denL,List.map_cons,List.map_nil] at hr
    rw [<- x2,<- m2,<- k2] at hr
    rw [hXD];unfold opD;rw [ho];simp only [ik,hu]
    cases hv:aD fr m <;> rw [hv] at hr <;> first
     | (simp only [aB] at hr;cases hr;done)
     | skip
    rename_i r
    cases r with
    | none=>simp only [aB] at hr;cases hr
    | some r =>
     simp only [aB] at hr
     simp only [hkd]
     split at hr
     ·rename_i es c hg
      rw [hg];simp only
      split at hr
      ·rename_i hko
       rw [if_pos hko]
       split at hr
       ·rename_i es' c' hp
        rw [hp]
        cases hr;rfl
       ·cases hr
      ·cases hr
     ·cases hr
   ·cases h
  ·cases h
 case mapEntry t m k =>
  split at h
  ·rename_i kt et a' k' hu hm hk
   split at h
   ·rename_i kd z hkd hz
    cases h
    obtain ⟨_,m2⟩:=aK hf hm
    obtain ⟨_,k2⟩:=aK hf hk
    intro A v A' hr
    simp only [denL,List.map_cons,List.map_nil] at hr
    rw [<- m2,<- k2] at hr
    rw [hXD];unfold opD;rw [ho];simp only [kL,hu]
    cases hv:aD fr m <;> rw [hv] at hr <;> first
     | (simp only [aB] at hr;cases hr;done)
     | skip
    rename_i r
    cases r with
    | none=>simp only [aB] at hr;cases hr
    | some r =>
     simp only [aB] at hr
     simp only [hkd,hz]
     split at hr
     ·rename_i es c hg
      rw [hg];simp only
      split at hr
      ·rename_i hko
       rw [if_pos hko]
       split at hr
       ·rename_i i w hfe
        rw [hfe];simp only
        split at hr
        ·rename_i e he
         rw [he]
         cases hr;rfl
        ·cases hr
       ·rename_i hfe
        rw [hfe]
        cases hr;rfl
       ·cases hr
      ·cases hr
     ·cases hr
   ·cases h
  ·cases h
 case entryStore t m s x =>
  split at h
  ·rename_i a' b' c' hm hs hx
   cases h
   obtain ⟨_,m2⟩:=aK hf hm
   obtain ⟨_,s2⟩:=aK hf hs
   obtain ⟨_,x2⟩:=aK hf hx
   intro A v A' hr
   simp only [denL,List.map_cons,List.map_nil] at hr
   rw [<- m2,<- s2,<- x2] at hr
   rw [hXD];unfold opD;rw [ho];simp only [kM]
   cases hv:aD fr m <;> rw [hv] at hr <;> first
    | (simp only [aB] at hr;cases hr;done)
    | skip
   rename_i r
   cases r with
   | none=>simp only [aB] at hr;cases hr
   | some r =>
    cases hw:aD fr s <;> rw [hw] at hr <;> first
     | (simp only [aB] at hr;cases hr;done)
     | skip
    simp only [aB] at hr
    split at hr
    ·rename_i es c hg
     simp only [hg]
     split at hr
     ·rename_i i hi
      rw [hi]
      cases hr;rfl
     ·cases hr
    ·cases hr
  ·cases h
 case range t x =>
  split at h
  ·rename_i a' hu hx
   cases h
   obtain ⟨_,x2⟩:=aK hf hx
   intro A v A' hr
   simp only [denL,List.map_cons,List.map_nil] at hr
   rw [<- x2] at hr
   rw [hXD];unfold opD;rw [ho];simp only [im,hu]
   cases hv:aD fr x <;> rw [hv] at hr <;> simp only [aB] at hr <;> first
    | (cases hr;done)
    | (cases hr;rfl)
  ·rename_i kt et a' hu hx
   cases h
   obtain ⟨_,x2⟩:=aK hf hx
   intro A v A' hr
   simp only [denL,List.map_cons,List.map_nil] at hr
   rw [<- x2] at hr
   rw [hXD];unfold opD;rw [ho];simp only [im,hu]
   cases hv:aD fr x <;> rw [hv] at hr <;> first
    | (simp only [aB] at hr;cases hr;done)
    | skip
   rename_i r
   cases r with
   | none=>simp only [aB] at hr;cases hr;rfl
   | some r =>
    simp only [aB] at hr
    split at hr
    ·rename_i es c hg
     cases hr
     simp only [hg]
     rfl
    ·cases hr
  ·cases h
 case next it str =>
  split at h
  ·rename_i a' hx
   cases h
   obtain ⟨_,x2⟩:=aK hf hx
   intro A v A' hr
   simp only [denL,List.map_cons,List.map_nil] at hr
   rw [<- x2] at hr
   rw [hXD];unfold opD;rw [ho];simp only [kN]
   cases hv:aD fr it <;> rw [hv] at hr <;> first
    | (cases str <;> simp only [aB] at hr <;> cases hr;done)
    | skip
   rename_i p
   cases p with
   | none=>cases str <;> simp only [aB] at hr <;> cases hr
   | some ad =>
    obtain ⟨b,off,spot⟩:=ad
    cases off with
    | succ n=>cases str <;> simp only [aB] at hr <;> cases hr
    | zero =>
     cases spot with
     | some s=>cases str <;> simp only [aB] at hr <;> cases hr
     | none =>
      cases str with
      | true =>
       simp only [aB] at hr
       split at hr
       ·rename_i s pos hg
        simp only [hg]
        split at hr
        ·rename_i hc
         rw [if_pos hc]
         cases hr;rfl
        ·rename_i hc
         rw [if_neg hc]
         cases hr;rfl
       ·cases hr
      | false =>
       simp only [aB] at hr
       split at hr
       ·rename_i hg
        simp only [hg]
        cases hr;rfl
       ·rename_i m since seen stepped hg
        simp only [hg]
        split at hr
        ·rename_i es c hg2
         simp only [hg2]
         split at hr
         ·rename_i hc
          rw [if_pos hc]
          split at hr
          ·rename_i hfl
           rw [hfl]
           cases hr;rfl
          ·rename_i e hfl
           rw [hfl]
           cases hr;rfl
          ·cases hr
         ·cases hr
        ·cases hr
       ·cases hr
  ·cases h
 case typeAssert x xt t ok =>
  split at h
  ·cases h
  ·rename_i d a' z hn hu hx hz
   cases h
   obtain ⟨_,x2⟩:=aK hf hx
   intro A v A' hr
   simp only [denL,List.map_cons,List.map_nil] at hr
   rw [<- x2] at hr
   rw [hXD];unfold opD;rw [ho];simp only [iq,hu,hz]
   cases hv:aD fr x <;> rw [hv] at hr <;> first
    | (simp only [aB] at hr;cases hr;done)
    | skip
   ·simp only [aB] at hr
    cases d <;> first
     | exact (hn _ rfl).elim
     | (simp only
        split at hr
        ·rename_i hc;rw [if_pos hc];cases hr;rfl
        ·rename_i hc;rw [if_neg hc]
         split at hr
         ·rename_i hc2;rw [if_pos hc2];cases hr;rfl
         ·cases hr)
   ·simp only [aB] at hr
    cases d <;> first
     | exact (hn _ rfl).elim
     | (simp only
        split at hr
        ·rename_i hc;rw [if_pos hc];cases hr;rfl
        ·cases hr)
  ·cases h
 case extract t i =>
  split at h
  ·rename_i a' hx
   cases h
   obtain ⟨_,x2⟩:=aK hf hx
   intro A v A' hr
   simp only [denL,List.map_cons,List.map_nil] at hr
   rw [<- x2] at hr
   rw [hXD];unfold opD;rw [ho];simp only [iu]
   cases hv:aD fr t <;> rw [hv] at hr <;> first
    | (simp only [aB] at hr;cases hr;done)
    | skip
   simp only [aB] at hr
   split at hr
   ·rename_i w hw
    cases hr
    simp only [hw]
   ·cases hr
  ·cases h
 case call c=>exact Sx hf ho hl h
end
end Go.AM.SX
namespace Go.AM.SX
open Go
structure Le (r s:Rec):Prop where
 code:∀ nt c fr A x,r.code nt c fr A=some x->s.code nt c fr A=some x
 callR:∀ f as A x,r.callR f as A=some x->s.callR f as A=some x
 callD:∀ f as m A x,r.callD f as m A=some x->s.callD f as m A=some x
theorem Le.call {r s:Rec} (h:Le r s) {f:FuncId} {as:List Value} {A:St} {x:Value×St} (hx:r.call f as A=some x):s.call f as A=some x:=by
 unfold Rec.call at hx ⊢
 cases hc:r.callR f as A with
 | none=>rw [hc] at hx;cases hx
 | some y=>rw [hc] at hx;rw [h.callR _ _ _ _ hc];exact hx
section
variable {E:Env} {r s:Rec}
theorem Sz (h:Le r s) {nt:Nat} {fr:Fr} {d:Option Tmp} {f:FuncId} {as:List Value} {A:St} {x:Fr×St} (hx:di r nt fr d f as A=some x):di s nt fr d f as A=some x:=by
 unfold di at hx ⊢
 cases hc:r.call f as A with
 | none=>rw [hc] at hx;cases hx
 | some v=>rw [hc] at hx;rw [h.call hc];exact hx
theorem TA (h:Le r s) {nt:Nat} {fr:Fr} {d:Option Tmp} {nx:Nx} {A:St} {x:Fr×St} (hx:cE r nt fr d nx A=some x):cE s nt fr d nx A=some x:=by
 cases nx <;> first
  | exact hx
  | exact Sz h hx
theorem oh (h:Le r s) {nt:Nat} {o:Oper} {fr:Fr} {A:St} {x:Fr×St} (hx:bL E r nt o fr A=some x):bL E s nt o fr A=some x:=by
 unfold bL at hx ⊢
 split at hx
 ·cases hx
 ·rename_i nx A1 h1
  exact TA h hx
theorem TB (h:Le r s) {nt:Nat} {o:Oper} {fr:Fr} {A:St} {x:OpR} (hx:opR E r nt o fr A=some x):opR E s nt o fr A=some x:=by
 unfold opR at hx ⊢
 split at hx
 ·cases hx
 ·rename_i nx A1 h1
  split at hx <;> first
   | exact hx
   | skip
  rename_i f as
  cases hc:r.callR f as A1 with
  | none=>rw [hc] at hx;cases hx
  | some y=>rw [hc] at hx;rw [h.callR _ _ _ _ hc];exact hx
theorem ja (h:Le r s) {nt:Nat} {ops:Array Oper}:∀ {os:List Oper} {fr:Fr} {A:St} {x:Out×Fr×St},bk E r nt ops os fr A=some x->bk E s nt ops os fr A=some x
 | [],_,_,_,hx=>hx
 | o::os,fr,A,x,hx=>by
  unfold bk at hx ⊢
  split at hx
  ·rename_i hg
   rw [if_pos hg]
   cases h1:opR E r nt o fr A with
   | none=>rw [h1] at hx;cases hx
   | some y =>
    rw [h1] at hx
    rw [TB h h1]
    cases y with
    | ok fr1 A1=>exact ja h hx
    | pan ch A1=>exact hx
  ·rename_i hg
   rw [if_neg hg]
   cases h1:Fr.put nt fr o.dst undef with
   | none=>rw [h1] at hx;cases hx
   | some y =>
    rw [h1] at hx
    exact ja h hx
theorem iF (h:Le r s) {nt:Nat} {ops:Array Oper} {befs:List Nat}:∀ {os:List (Oper×Nat)} {i rid:Nat} {fr:Fr} {A:St} {log:List Ent} {Hs:List (Nat×St)} {ks:List Nat} {x:Fr×St},
  bA E r nt ops befs os i rid fr A log Hs ks=some x->bA E s nt ops befs os i rid fr A log Hs ks=some x
 | [],_,_,_,_,_,_,_,_,hx=>hx
 | (o, b)::os,i,rid,fr,A,log,Hs,ks,x,hx=>by
  unfold bA at hx ⊢
  split at hx
  ·rename_i hg
   rw [if_pos hg]
   split at hx
   ·rename_i hfl
    rw [if_pos hfl]
    split at hx
    ·rename_i v A1 h1
     split at hx
     ·rename_i fr1 h2
      exact iF h hx
     ·cases hx
    ·cases hx
   ·rename_i hfl
    rw [if_neg hfl]
    split at hx
    ·rename_i hal
     rw [if_pos hal]
     split at hx
     ·rename_i v A1 h1
      split at hx
      ·rename_i fr1 h2
       exact iF h hx
      ·cases hx
     ·cases hx
    ·rename_i hal
     rw [if_neg hal]
     cases h1:bL E r nt o fr A with
     | none=>rw [h1] at hx;cases hx
     | some y =>
      rw [h1] at hx
      rw [oh h h1]
      exact iF h hx
  ·rename_i hg
   rw [if_neg hg]
   cases h1:Fr.put nt fr o.dst undef with
   | none=>rw [h1] at hx;cases hx
   | some y =>
    rw [h1] at hx
    exact iF h hx
theorem TC (h:Le r s) {nt:Nat} {ops:Array Oper} {fr:Fr} {A:St} {x:Fr×St} (hx:eh E r nt ops fr A=some x):eh E s nt ops fr A=some x:=by
 unfold eh gj at hx ⊢
 split at hx
 ·rename_i hc
  rw [if_pos hc]
  exact iF h hx
 ·cases hx
theorem TD (h:Le r s) {f:Operand} {fr:Fr} {A:St} {x:Out×Fr×St} (hx:fh E r f fr A=some x):fh E s f fr A=some x:=by
 by_cases hl:dh E f=true
 ·simp only [fh,if_pos hl] at hx ⊢
  split at hx
  ·cases hx
  ·split at hx
   ·rename_i g as A2 hi
    cases hc:r.call g as A2 with
    | none=>rw [hc] at hx;cases hx
    | some y =>
     rw [hc] at hx
     rw [h.call hc]
     exact hx
   ·cases hx
 ·simp only [fh,if_neg hl] at hx
  cases hx
theorem vM (h:Le r s) {nt:Nat} {b:Code} {z:Out×Fr×St}:∀ {n:Nat} {x y:Option (Out×Fr×St)},(∀ q,x=some q->y=some q)->bp r nt b n x=some z->bp s nt b n y=some z:=by
 intro n
 induction n with
 | zero =>
  intro x y hxy hx
  rcases x with _ | ⟨o,fr,A⟩
  ·cases hx
  ·rw [hxy _ rfl]
   cases o <;> simp only [bp] at hx ⊢ <;> first
    | exact hx
    | (split at hx
       ·rename_i hl;simp only [hl];exact hx
       ·cases hx)
    | (split at hx
       ·exact hx
       ·cases hx)
 | succ n ih =>
  intro x y hxy hx
  rcases x with _ | ⟨o,fr,A⟩
  ·cases hx
  ·rw [hxy _ rfl]
   cases o <;> simp only [bp] at hx ⊢ <;> first
    | exact hx
    | (split at hx
       ·rename_i hl;simp only [hl];exact hx
       ·rename_i rest hl
        simp only [hl]
        exact ih (fun q hq=>h.code _ _ _ _ _ hq) hx)
    | (split at hx
       ·exact hx
       ·exact ih (fun q hq=>h.code _ _ _ _ _ hq) hx)
theorem TE (h:Le r s) {nt:Nat} {c:Code} {fr:Fr} {A:St} {x:Out×Fr×St} (hx:a7 E r nt c fr A=some x):a7 E s nt c fr A=some x:=by
 cases c <;> simp only [a7] at hx ⊢ <;> first
  | (exfalso;cases hx;done)
  | exact hx
  | exact h.code _ _ _ _ _ hx
  | exact TD h hx
  | skip
 case region i ops draw =>
  cases draw with
  | true =>
   simp only [if_true] at hx ⊢
   cases h1:eh E r nt ops fr A with
   | none=>rw [h1] at hx;cases hx
   | some y=>rw [h1] at hx;rw [TC h h1];exact hx
  | false =>
   simp only [Bool.false_eq_true,if_false] at hx ⊢
   exact ja h hx
 case seq a b =>
  cases h1:r.code nt a fr A with
  | none=>simp only [h1] at hx;cases hx
  | some y =>
   simp only [h1] at hx
   simp only [h.code _ _ _ _ _ h1]
   obtain ⟨o,fr1,A1⟩:=y
   cases o <;> first
    | exact h.code _ _ _ _ _ hx
    | exact hx
 case cond c t e =>
  split at hx
  ·rename_i hc;exact h.code _ _ _ _ _ hx
  ·rename_i hc;exact h.code _ _ _ _ _ hx
  ·cases hx
 case block id b =>
  cases h1:r.code nt b fr A with
  | none=>simp only [h1] at hx;cases hx
  | some y =>
   simp only [h1] at hx
   simp only [h.code _ _ _ _ _ h1]
   exact hx
 case scope b=>exact vM h (fun q hq=>h.code _ _ _ _ _ hq) hx
 case loop b =>
  cases h1:r.code nt b fr A with
  | none=>simp only [h1] at hx;cases hx
  | some y =>
   simp only [h1] at hx
   simp only [h.code _ _ _ _ _ h1]
   obtain ⟨o,fr1,A1⟩:=y
   cases o <;> first
    | exact h.code _ _ _ _ _ hx
    | exact hx
theorem oi (h:Le r s):∀ {ds:List DI} {m:Mode} {A:St} {x:Mode×St},leave r ds m A=some x->leave s ds m A=some x
 | [],_,_,_,hx=>hx
 | .mark b::ds,m,A,x,hx=>by
  unfold leave at hx ⊢
  split at hx
  ·exact oi h hx
  ·cases hx
 | .fn g cap args::ds,m,A,x,hx=>by
  unfold leave at hx ⊢
  cases hc:r.callD g (args++cap) m A with
  | none=>rw [hc] at hx;cases hx
  | some y =>
   rw [hc] at hx
   rw [h.callD _ _ _ _ _ hc]
   exact oi h hx
theorem TF (h:Le r s) {f:FuncId} {as:List Value} {A:St} {x:Func×Fr×Mode×St} (hx:cb E r f as A=some x):cb E s f as A=some x:=by
 unfold cb at hx ⊢
 split at hx
 ·cases hx
 ·rename_i fn hfn
  split at hx
  ·cases hx
  ·rename_i c hb
   split at hx
   ·rename_i hle
    rw [if_pos hle]
    cases h1:r.code fn.ntmps c { tm:=T.ofList as,marks:=[] } A with
    | none=>rw [h1] at hx;cases hx
    | some y =>
     rw [h1] at hx
     rw [h.code _ _ _ _ _ h1]
     obtain ⟨out,fr,A1⟩:=y
     simp only at hx ⊢
     cases hm:kT out with
     | none=>rw [hm] at hx;cases hx
     | some m =>
      rw [hm] at hx
      simp only at hx ⊢
      cases hl:leave r fr.marks m A1 with
      | none=>rw [hl] at hx;cases hx
      | some z=>rw [hl] at hx;rw [oi h hl];exact hx
   ·cases hx
theorem TG (h:Le r s) {f:FuncId} {as:List Value} {A:St} {x:Res×St} (hx:callR E r f as A=some x):callR E s f as A=some x:=by
 unfold callR at hx ⊢
 cases hk:knw E f as with
 | some k=>rw [hk] at hx;exact hx
 | none =>
  rw [hk] at hx
  simp only at hx ⊢
  cases hj:xjv E A f as with
  | some v=>rw [hj] at hx;exact hx
  | none =>
   rw [hj] at hx
   simp only at hx ⊢
   cases hc:cb E r f as A with
   | none=>rw [hc] at hx;cases hx
   | some y=>rw [hc] at hx;rw [TF h hc];exact hx
theorem TH (h:Le r s) {f:FuncId} {as:List Value} {m:Mode} {A:St} {x:Mode×St} (hx:callD E r f as m A=some x):callD E s f as m A=some x:=by
 unfold callD at hx ⊢
 split at hx
 ·cases hx
 split at hx
 case h_2=>cases hx
 split at hx
 case h_2=>cases hx
 rename_i o ho
 split at hx
 case h_2=>cases hx
 rename_i h1 h2
 split at hx
 case isFalse=>cases hx
 rename_i hle
 rw [if_pos hle]
 split at hx
 case h_2=>cases hx
 rename_i fr hp
 split at hx
 case h_2=>cases hx
 rename_i hr
 rw [ja h hr]
 simp only
 split at hx
 case h_2=>cases hx
 rename_i hc
 simp only [h.code _ _ _ _ _ hc]
 exact hx
end
theorem vN {f:FuncId} {as:List Value}:∀ {ks:List Known},ks.any (fun k=>Nat.beq k.f f)=false->cc f as ks=none
 | [],_=>rfl
 | k::ks,h=>by
  simp only [List.any_cons,Bool.or_eq_false_iff] at h
  simp only [cc]
  rw [h.1]
  exact vN h.2
theorem TI {E:Env} {A:St} {f:FuncId} {as:List Value} (h:(E.known.any (fun k=>Nat.beq k.f f)||E.xf.any (Nat.beq f)||E.xj.any (Nat.beq f))=false):xjv E A f as=none:=by
 rw [Bool.or_eq_false_iff] at h
 unfold xjv
 rw [h.2]
 rfl
theorem TJ {E:Env} {f:FuncId} {as:List Value} (h:(E.known.any (fun k=>Nat.beq k.f f)||E.xf.any (Nat.beq f)||E.xj.any (Nat.beq f))=false):knw E f as=none:=by
 rw [Bool.or_eq_false_iff,Bool.or_eq_false_iff] at h
 replace h:=h.1
 unfold knw
 rw [vN h.1,h.2]
 rfl
theorem vO {E:Env} {f:FuncId} {as:List Value} {k:Known} (h1:cc f as E.known=none) (h2:E.xf.any (Nat.beq f)=true) (h3:E.xt f as=some k):knw E f as=some k:=by
 unfold knw
 rw [h1,h2]
 exact h3
theorem TK {E:Env} {f:FuncId} {as:List Value} {A:St} {v:Value} (hk:knw E f as=none) (hj:xjv E A f as=some v):cP E f as A v A:=⟨1,by
 show Rec.call { code:=a7 E (big E 0),callR:=callR E (big E 0),callD:=callD E (big E 0) } f as A=_
 rw [kV]
 unfold fj
 rw [hk]
 simp only
 rw [hj]⟩
theorem TL {E:Env} {f:FuncId} {as:List Value} {A:St} {k:Known} (hk:knw E f as=some k) (hl:(k.looks.all fun r=>Nat.blt r.g E.ng&&bX A r)=true) :
  cP E f as A (aw A.next 8 k.v) { A with next:=A.next+k.cnt,h:=dQ A.next A.h k.objs }:=⟨1,by
 show Rec.call { code:=a7 E (big E 0),callR:=callR E (big E 0),callD:=callD E (big E 0) } f as A=_
 rw [kV]
 unfold fj
 rw [hk]
 simp only
 rw [if_pos hl]⟩
theorem cY (E:Env):∀ {n m:Nat},n<=m->Le (big E n) (big E m)
 | 0,_,_=>⟨fun _ _ _ _ _ h=>(by cases h),fun _ _ _ _ h=>(by cases h),fun _ _ _ _ _ h=>(by cases h)⟩
 | n+1,0,h=>by omega
 | n+1,m+1,h=>⟨fun _ _ _ _ _ hx=>TE (cY E (Nat.le_of_succ_le_succ h)) hx,fun _ _ _ _ hx=>TG (cY E (Nat.le_of_succ_le_succ h)) hx,fun _ _ _ _ _ hx=>TH (cY E (Nat.le_of_succ_le_succ h)) hx⟩
end Go.AM.SX
namespace Go.AM.SX
open Go
def outN:Nat->Out
 | 0=>.norm
 | 1=>.ret
 | n+2=>match Nat.blt n gotoB with
  | true=>.exit n
  | false=>.goto (n - gotoB)
section
variable {E:Env} {cfg:Cfg} {rec_:SRec} {Q:bd} {σ:Sg} {H:List St} {sf:SF} {fr:Fr} {A:St} {T:N} {nt:Nat} {o:Oper}
def KGood (E:Env) (Q:bd) (σ:Sg) (H:List St) (k:K) (fr:Fr) (A:St):Prop :=
 ∃ σ' H' sf' T',FrRel (σ++σ') sf' fr/\k sf' (σ++σ').length (H++H').length=some T'/\wp E T' (σ++σ') (H++H') A Q
def XGood (E:Env) (Q:bd) (σ:Sg) (H:List St) (k:KX) (v:Value) (A:St):Prop :=
 ∃ σ' H' x T',X.good (σ++σ') x/\x.den (σ++σ')=v/\k x (σ++σ').length (H++H').length=some T'/\wp E T' (σ++σ') (H++H') A Q
theorem KGood.here {k:K} (hf:FrRel σ sf fr) (h:k sf σ.length H.length=some T) (hw:wp E T σ H A Q):KGood E Q σ H k fr A :=
 ⟨[],[],sf,T,by simpa using hf,by simpa using h,by simpa using hw⟩
theorem KGood.more {k:K} {τ:Sg} {I:List St} (h:KGood E Q (σ++τ) (H++I) k fr A):KGood E Q σ H k fr A:=by
 obtain ⟨σ',H',sf',T',h1,h2,h3⟩:=h
 exact ⟨τ++σ',I++H',sf',T',by rw [<- List.append_assoc];exact h1,by rw [<- List.append_assoc,<- List.append_assoc];exact h2,by rw [<- List.append_assoc,<- List.append_assoc];exact h3⟩
theorem XGood.here {k:KX} {x:X} (hx:x.good σ) (h:k x σ.length H.length=some T) (hw:wp E T σ H A Q):XGood E Q σ H k (x.den σ) A :=
 ⟨[],[],x,T,by simpa using hx,by simp,by simpa using h,by simpa using hw⟩
theorem XGood.more {k:KX} {τ:Sg} {I:List St} {v:Value} (h:XGood E Q (σ++τ) (H++I) k v A):XGood E Q σ H k v A:=by
 obtain ⟨σ',H',sf',T',h1,h1',h2,h3⟩:=h
 exact ⟨τ++σ',I++H',sf',T',by rw [<- List.append_assoc];exact h1,by rw [<- List.append_assoc];exact h1',by rw [<- List.append_assoc,<- List.append_assoc];exact h2,by rw [<- List.append_assoc,<- List.append_assoc];exact h3⟩
structure RecOk (E:Env) (rec_:SRec):Prop where
 code:∀ {f nt:Nat} {c:Code} {sf:SF} {fr:Fr} {σ:Sg} {H:List St} {A:St} {T:N} {Q:bd} {k:KO},FrRel σ sf fr->rec_.code f nt c sf σ.length H.length k=some T->wp E T σ H A Q ->
  ∃ n o fr' A',(big E n).code nt c fr A=some (outN o,fr',A')/\fr'.marks=fr.marks/\KGood E Q σ H (k o) fr' A'
 call:∀ {f:Nat} {args:List X} {σ:Sg} {H:List St} {A:St} {T:N} {Q:bd} {k:KX},(∀ x,x∈args->X.good σ x)->rec_.call f args σ.length H.length k=some T->wp E T σ H A Q ->
  ∃ n v A',(big E n).call f (denL σ args) A=some (v,A')/\XGood E Q σ H k v A'
def oj (r:Rec) (nx:Nx) (A:St):Option (Value×St) :=
 match nx with
 | .val v=>some (v,A)
 | .skip=>some (undef,A)
 | .enter f as=>r.call f as A
 | _=>none
theorem TM {r:Rec} {nx:Nx} {d:Option Tmp} {v:Value} {A':St} (h:oj r nx A=some (v,A')):cE r nt fr d nx A=cV nt fr d v A':=by
 cases nx <;> simp only [oj] at h <;> first
  | (cases h;done)
  | (cases h;rfl)
  | (simp only [cE,di,h])
theorem gF {r:R} {args:List X} {n:Option N} (h:nOp r args n=some T):∃ n',n=some n'/\T=.op r args n':=by
 cases n with
 | none=>cases h
 | some n=>cases h;exact ⟨_,rfl,rfl⟩
theorem TN {f:Nat} {args:List X} {n:Option N} (h:wZ f args n=some T):∃ n',n=some n'/\T=.call f args n':=by
 cases n with
 | none=>cases h
 | some n=>cases h;exact ⟨_,rfl,rfl⟩
theorem TO {f:X} {args:List X} {n:Option N} (h:w5 f args n=some T):∃ n',n=some n'/\T=.callv f args n':=by
 cases n with
 | none=>cases h
 | some n=>cases h;exact ⟨_,rfl,rfl⟩
theorem TP {x:X} {name:String} {args:List X} {n:Option N} (h:w6 x name args n=some T):∃ n',n=some n'/\T=.callm x name args n':=by
 cases n with
 | none=>cases h
 | some n=>cases h;exact ⟨_,rfl,rfl⟩
theorem vP {b off:Nat} {r:R} {args:List X} {n:Option N} (h:po b off r args n=some T):∃ n',n=some n'/\T=.opAt b off r args n':=by
 cases n with
 | none=>cases h
 | some n=>cases h;exact ⟨_,rfl,rfl⟩
theorem vQ {n:Option N} (h:mL n=some T):∃ n',n=some n'/\T=.save n':=by
 cases n with
 | none=>cases h
 | some n=>cases h;exact ⟨_,rfl,rfl⟩
theorem TQ {m:Nat} {n:Option N} (h:w7 m n=some T):∃ n',n=some n'/\T=.bump m n':=by
 cases n with
 | none=>cases h
 | some n=>cases h;exact ⟨_,rfl,rfl⟩
theorem gG {j:Nat} {a b:Option N} (h:fS j a b=some T):∃ a' b',a=some a'/\b=some b'/\T=.br (vn j) a' b':=by
 cases a with
 | none=>cases h
 | some a=>cases b with
  | none=>cases h
  | some b=>cases h;exact ⟨_,_,rfl,rfl,rfl⟩
theorem XGood.one {k:KX} {v:Value} {x:X} (hx:x.good (σ++[v])) {u:Value} (hu:x.den (σ++[v])=u) (h:k x (σ.length+1) H.length=some T) (hw:wp E T (σ++[v]) H A Q):XGood E Q σ H k u A :=
 ⟨[v],[],x,T,hx,hu,by simpa using h,by simpa using hw⟩
theorem bZ (σ:Sg) (v:Value):(vn σ.length).good (σ++[v])/\(vn σ.length).den (σ++[v])=v:=⟨mP (by simp),fV σ v⟩
theorem TS (hR:RecOk E rec_) {a:Act} {k:KX} (ha:da E σ fr o a) (h:mM cfg rec_ a σ.length H.length k=some T) (hw:wp E T σ H A Q) :
  ∃ n v A' nx A1,opX E A (aD fr) o=some (nx,A1)/\oj (big E n) nx A1=some (v,A')/\XGood E Q σ H k v A':=by
 cases a with
 | st x=>exact ⟨0,_,A,_,_,ha.2 A,rfl,.here ha.1 h hw⟩
 | op r args =>
  obtain ⟨T',h1,rfl⟩:=gF h
  obtain ⟨v,A',hs,hw'⟩:=hw
  exact ⟨0,v,A',_,_,ha A v A' hs,rfl,.one (bZ σ v).1 (bZ σ v).2 h1 hw'⟩
 | opSl r args len =>
  obtain ⟨T',h1,rfl⟩:=gF h
  obtain ⟨v,A',hs,hw'⟩:=hw
  obtain ⟨⟨p,hp⟩,h2⟩:=ha A v A' hs
  refine ⟨0,slV v len,A',_,_,h2,rfl,.one (x:=.sl (.n σ.length) len) ⟨qF (by simp),⟨p,?_⟩⟩ ?_ h1 hw'⟩
  ·rw [<- hp];exact fV σ v
  ·show slV (look _ _) len=_
   rw [fV]
 | eff r args =>
  obtain ⟨T',h1,rfl⟩:=gF h
  obtain ⟨v,A',hs,hw'⟩:=hw
  exact ⟨0,undef,A',_,_,ha A v A' hs,rfl,.one (c8 _ _) rfl h1 hw'⟩
 | call f args =>
  simp only [mM] at h
  split at h
  ·obtain ⟨n,v,A',hc,hx⟩:=hR.call ha.1 h hw
   exact ⟨n,v,A',_,_,ha.2 A,hc,hx⟩
  ·obtain ⟨T',h1,rfl⟩:=TN h
   obtain ⟨v,A',⟨n,hc⟩,hw'⟩:=hw
   exact ⟨n,v,A',_,_,ha.2 A,hc,.one (bZ σ v).1 (bZ σ v).2 h1 hw'⟩
 | callv f args =>
  obtain ⟨T',h1,rfl⟩:=TO h
  obtain ⟨g,fs,cs,v,A',hd,hb,⟨n,hc⟩,hw'⟩:=hw
  exact ⟨n,v,A',_,_,ha A g fs cs hd hb,hc,.one (bZ σ v).1 (bZ σ v).2 h1 hw'⟩
 | callm x name args =>
  obtain ⟨T',h1,rfl⟩:=TP h
  obtain ⟨g,as,v,A',hm,⟨n,hc⟩,hw'⟩:=hw
  exact ⟨n,v,A',_,_,ha A g as hm,hc,.one (bZ σ v).1 (bZ σ v).2 h1 hw'⟩
 | pick j a b=>cases h
theorem iG (hf:FrRel σ sf fr) {d:Option Tmp} {x:X} (hx:x.good σ) {sf1:SF} (h:pn nt sf d x=some sf1):∃ fr',Fr.put nt fr d (x.den σ)=some fr'/\fr'.marks=fr.marks/\FrRel σ sf1 fr':=by
 cases d with
 | none=>cases h;exact ⟨fr,rfl,rfl,hf⟩
 | some d =>
  simp only [pn] at h
  split at h
  ·rename_i hlt
   cases h
   refine ⟨{ fr with tm:=fr.tm.set d (x.den σ) },?_,rfl,hf.put hx⟩
   simp only [Fr.put,hlt]
  ·cases h
theorem vR (hf:FrRel σ sf fr) {d:Option Tmp} {k:K} {v:Value} (h:XGood E Q σ H (ar nt sf d k) v A):∃ fr',Fr.put nt fr d v=some fr'/\fr'.marks=fr.marks/\KGood E Q σ H k fr' A:=by
 obtain ⟨σ',H',x,T',h1,h2,h3,h4⟩:=h
 simp only [ar] at h3
 split at h3
 ·rename_i sf1 hs
  obtain ⟨fr',p1,p2,p3⟩:=iG (hf.append σ') h1 hs
  rw [h2] at p1
  exact ⟨fr',p1,p2,σ',H',sf1,T',p3,h3,h4⟩
 ·cases h3
theorem om (hf:FrRel σ sf fr) {d:Option Tmp} {k:K} {x:X} (hx:x.good σ) (h:ar nt sf d k x σ.length H.length=some T) (hw:wp E T σ H A Q):∃ fr',Fr.put nt fr d (x.den σ)=some fr'/\fr'.marks=fr.marks/\KGood E Q σ H k fr' A :=
 vR hf (.here hx h hw)
theorem vS (hE:SxEnv E) (hR:RecOk E rec_) (hf:FrRel σ sf fr) {k:K} (h:fT E cfg rec_ nt o sf σ.length H.length k=some T) (hw:wp E T σ H A Q) :
  ∃ n fr' A',bL E (big E n) nt o fr A=some (fr',A')/\fr'.marks=fr.marks/\KGood E Q σ H k fr' A':=by
 unfold fT at h
 split at h
 ·rename_i hl
  cases ht:tr E sf o with
  | none =>
   rw [ht] at h
   dsimp only at h
   split at h
   ·cases h
    exact hw.elim
   ·cases h
  | some act =>
   rw [ht] at h
   have hact:=iE hE hf hl ht
   by_cases hp:∃ j a b,act=.pick j a b
   ·obtain ⟨j,a,b,rfl⟩:=hp
    obtain ⟨ga,gb,hpick⟩:=hact
    obtain ⟨ta,tb,h1,h2,rfl⟩:=gG h
    obtain ⟨t,hj,hwt,hwf⟩:=hw
    have hj':look σ j=.bool t:=hj
    have hX:=hpick A t hj'
    cases t with
    | true =>
     obtain ⟨fr',p1,p2,p3⟩:=om (hf.learn hj') (X.learn_ok ga) h1 (hwt rfl)
     rw [X.learn_den hj'] at p1
     refine ⟨0,fr',A,?_,p2,p3⟩
     unfold bL
     rw [hX]
     simp only [cE,cV,if_true]
     rw [p1]
    | false =>
     obtain ⟨fr',p1,p2,p3⟩:=om (hf.learn hj') (X.learn_ok gb) h2 (hwf rfl)
     rw [X.learn_den hj'] at p1
     refine ⟨0,fr',A,?_,p2,p3⟩
     unfold bL
     rw [hX]
     simp only [cE,cV,Bool.false_eq_true,if_false]
     rw [p1]
   ·have h':mM cfg rec_ act σ.length H.length (ar nt sf o.dst k)=some T:=by
     cases act <;> first
      | exact h
      | exact absurd ⟨_,_,_,rfl⟩ hp
    obtain ⟨n,v,A',nx,A1,e1,e2,e3⟩:=TS hR hact h' hw
    obtain ⟨fr',p1,p2,p3⟩:=vR hf e3
    refine ⟨n,fr',A',?_,p2,p3⟩
    unfold bL
    rw [e1]
    simp only
    rw [TM e2]
    simp only [cV,p1]
 ·cases h
theorem vT {ops:Array Oper} (hf:FrRel σ sf fr) (h:gd ops o sf=.yes):az ops o fr=true:=by
 unfold gd at h
 unfold az
 split at h
 ·rename_i hg;rw [hg]
 ·rename_i j want hg
  rw [hg]
  simp only
  cases hd:(ops[j]?).bind (·.dst) with
  | none=>rw [hd] at h;cases h
  | some d =>
   rw [hd] at h
   simp only [Option.bind_some] at h ⊢
   split at h
   ·rename_i b hb
    obtain ⟨_,h2⟩:=hf _ _ hb
    rw [h2]
    simp only [X.den,At.den]
    split at h
    ·assumption
    ·cases h
   ·cases h
   ·cases h
   ·cases h
theorem vU {ops:Array Oper} (hf:FrRel σ sf fr) (h:gd ops o sf=.no):az ops o fr=false:=by
 unfold gd at h
 unfold az
 split at h
 ·cases h
 ·rename_i j want hg
  rw [hg]
  simp only
  cases hd:(ops[j]?).bind (·.dst) with
  | none=>rw [hd] at h;cases h
  | some d =>
   rw [hd] at h
   simp only [Option.bind_some] at h ⊢
   split at h
   ·rename_i b hb
    obtain ⟨_,h2⟩:=hf _ _ hb
    rw [h2]
    simp only [X.den,At.den]
    split at h
    ·cases h
    ·rename_i hc;simpa using hc
   ·rename_i v hn hv
    obtain ⟨_,h2⟩:=hf _ _ hv
    rw [h2]
    simp only [X.den,At.den]
    cases v <;> first
     | rfl
     | exact (hn _ rfl).elim
   ·cases h
   ·cases h
theorem fI {ops:Array Oper} (hf:FrRel σ sf fr) {k:Nat} {want t:Bool} (h:gd ops o sf=.sym k want) (hk:look σ k=.bool t):az ops o fr=(t==want):=by
 unfold gd at h
 unfold az
 split at h
 ·cases h
 ·rename_i j w hg
  rw [hg]
  simp only
  cases hd:(ops[j]?).bind (·.dst) with
  | none=>rw [hd] at h;cases h
  | some d =>
   rw [hd] at h
   simp only [Option.bind_some] at h ⊢
   split at h
   ·split at h <;> cases h
   ·cases h
   ·rename_i j' hv
    cases h
    obtain ⟨_,h2⟩:=hf _ _ hv
    rw [h2]
    simp only [X.den,At.den,hk]
   ·cases h
theorem TT {r:Rec} {x:Fr×St} (h:bL E r nt o fr A=some x):dF E r nt o fr A=some x:=by
 unfold dF
 rw [h]
theorem oq (hE:SxEnv E) (hR:RecOk E rec_) {ops:Array Oper} {k:K}:∀ {os:List Oper} {σ:Sg} {H:List St} {sf:SF} {fr:Fr} {A:St} {T:N},FrRel σ sf fr->dZ E cfg rec_ nt ops os sf σ.length H.length k=some T->wp E T σ H A Q ->
  ∃ n fr' A',bk E (big E n) nt ops os fr A=some (.norm,fr',A')/\fr'.marks=fr.marks/\KGood E Q σ H k fr' A'
 | [],σ,H,sf,fr,A,T,hf,h,hw=>⟨0,fr,A,rfl,rfl,.here hf h hw⟩
 | o::os,σ,H,sf,fr,A,T,hf,h,hw=>by
  have step:∀ {sf:SF} {T:N},FrRel σ sf fr->az ops o fr=true->fT E cfg rec_ nt o sf σ.length H.length (fun sf nv nh=>dZ E cfg rec_ nt ops os sf nv nh k)=some T->wp E T σ H A Q ->
    ∃ n fr' A',bk E (big E n) nt ops (o::os) fr A=some (.norm,fr',A')/\fr'.marks=fr.marks/\KGood E Q σ H k fr' A':=by
   intro sf T hf hg h hw
   obtain ⟨n,fr1,A1,d1,d2,⟨σ',H',sf',T',g1,g2,g3⟩⟩:=vS hE hR hf h hw
   obtain ⟨m,fr2,A2,e1,e2,e3⟩:=oq hE hR g1 g2 g3
   refine ⟨max n m,fr2,A2,?_,e2.trans d2,e3.more⟩
   unfold bk
   rw [if_pos hg,xq (TT (oh (cY E (Nat.le_max_left n m)) d1))]
   exact ja (cY E (Nat.le_max_right n m)) e1
  have skip:∀ {sf:SF} {T:N},FrRel σ sf fr->az ops o fr=false->ar nt sf o.dst (fun sf nv nh=>dZ E cfg rec_ nt ops os sf nv nh k) (vv undef) σ.length H.length=some T->wp E T σ H A Q ->
    ∃ n fr' A',bk E (big E n) nt ops (o::os) fr A=some (.norm,fr',A')/\fr'.marks=fr.marks/\KGood E Q σ H k fr' A':=by
   intro sf T hf hg h hw
   obtain ⟨fr1,d1,d2,⟨σ',H',sf',T',g1,g2,g3⟩⟩:=om hf (c8 σ undef) h hw
   obtain ⟨m,fr2,A2,e1,e2,e3⟩:=oq hE hR g1 g2 g3
   refine ⟨m,fr2,A2,?_,e2.trans d2,e3.more⟩
   have d1':Fr.put nt fr o.dst undef=some fr1:=d1
   unfold bk
   rw [if_neg (by rw [hg];decide),d1']
   exact e1
  unfold dZ at h
  split at h
  ·rename_i hg
   exact step hf (vT hf hg) h hw
  ·rename_i hg
   exact skip hf (vU hf hg) h hw
  ·rename_i j hg
   obtain ⟨ta,tb,h1,h2,rfl⟩:=gG h
   obtain ⟨t,hj,hwt,hwf⟩:=hw
   have hj':look σ j=.bool t:=hj
   cases t with
   | true=>exact step (hf.learn hj') (fI hf hg hj') h1 (hwt rfl)
   | false=>exact skip (hf.learn hj') (fI hf hg hj') h2 (hwf rfl)
  ·rename_i j hg
   obtain ⟨ta,tb,h1,h2,rfl⟩:=gG h
   obtain ⟨t,hj,hwt,hwf⟩:=hw
   have hj':look σ j=.bool t:=hj
   cases t with
   | true=>exact skip (hf.learn hj') (fI hf hg hj') h1 (hwt rfl)
   | false=>exact step (hf.learn hj') (fI hf hg hj') h2 (hwf rfl)
  ·cases h
end
end Go.AM.SX
namespace Go.AM.SX
open Go
section
variable {E:Env} {cfg:Cfg} {rec_:SRec} {Q:bd} {nt:Nat}
inductive F2 {α β:Type} (P:α->β->Prop):List α->List β->Prop where
 | nil:F2 P [] []
 | cons {a:α} {b:β} {l:List α} {m:List β}:P a b->F2 P l m->F2 P (a::l) (b::m)
structure EntRel (E:Env) (σ:Sg) (se:SEnt) (e:Ent):Prop where
 kind:se.kind=e.kind
 bef:se.bef=e.bef
 val:se.kind=1->e.v=se.x.den σ/\se.x.ok σ.length=true
 known:se.kind=1->se.r=none->∀ A,opX E A (aD e.fr) e.o=some (.val e.v,A)
 asked:se.kind=1->∀ r args,se.r=some (r,args)->args.all (·.ok σ.length)=true/\∀ B v A',aB r (denL σ args) B=some (v,A')->opX E B (aD e.fr) e.o=some (.val v,A')
theorem EntRel.append {σ:Sg} {se:SEnt} {e:Ent} (h:EntRel E σ se e) (τ:Sg):EntRel E (σ++τ) se e where
 kind:=h.kind
 bef:=h.bef
 val:=fun hk=>⟨by rw [X.den_append τ (h.val hk).2];exact (h.val hk).1,X.ok_mono (by simp) (h.val hk).2⟩
 known:=h.known
 asked:=fun hk r args hr=>by
  obtain ⟨h1,h2⟩:=h.asked hk r args hr
  have h1':=List.all_eq_true.1 h1
  refine ⟨List.all_eq_true.2 fun x hx=>X.ok_mono (by simp) (h1' x hx),fun B v A' hs=>?_⟩
  rw [fW τ h1'] at hs
  exact h2 B v A' hs
def LogRel (E:Env) (σ:Sg) (sl:List SEnt) (l:List Ent):Prop:=F2 (EntRel E σ) sl l
def HsRel (H:List St) (sl:List (Nat×Nat)) (l:List (Nat×St)):Prop:=F2 (fun p q=>p.1=q.1/\H[p.2]? = some q.2) sl l
theorem ot {α β:Type} {P R:α->β->Prop} (h:∀ a b,P a b->R a b):∀ {l:List α} {m:List β},F2 P l m->F2 R l m
 | _,_,.nil=>.nil
 | _,_,.cons a b=>.cons (h _ _ a) (ot h b)
theorem LogRel.append {σ:Sg} {sl:List SEnt} {l:List Ent} (h:LogRel E σ sl l) (τ:Sg):LogRel E (σ++τ) sl l:=ot (fun _ _ h=>h.append τ) h
theorem HsRel.append {H:List St} {sl:List (Nat×Nat)} {l:List (Nat×St)} (h:HsRel H sl l) (I:List St):HsRel (H++I) sl l :=
 ot (fun p q ⟨h1,h2⟩=>⟨h1,by
  have hlt:=(List.getElem?_eq_some_iff.1 h2).1
  rw [List.getElem?_append_left hlt];exact h2⟩) h
theorem vV {α β:Type} {P:α->β->Prop}:∀ {l l':List α} {m m':List β},F2 P l m->F2 P l' m'->F2 P (l++l') (m++m')
 | _,_,_,_,.nil,h=>h
 | _,_,_,_,.cons a b,h=>.cons a (vV b h)
theorem oz {α β:Type} {P:α->β->Prop}:∀ {l:List α} {m:List β},F2 P l m->F2 P l.reverse m.reverse
 | _,_,.nil=>.nil
 | _,_,.cons a b=>by
  simp only [List.reverse_cons]
  exact vV (oz b) (.cons a .nil)
theorem lX {σ:Sg} {H:List St} {A:St} {se:SEnt} {e:Ent} (he:EntRel E σ se e) (hk:se.kind=1) {i:Nat} {befs ks:List Nat} {n:Option N}:∀ {sHs:List (Nat×Nat)} {Hs:List (Nat×St)} {T:N},HsRel H sHs Hs ->
  jl se i befs ks sHs n=some T->wp E T σ H A Q->(Hs.all fun p=>!allowed i e.bef befs ks p.1||sameAt E e p.2)=true/\∃ T',n=some T'/\wp E T' σ H A Q
 | _,_,T,.nil,h,hw=>⟨rfl,T,h,hw⟩
 | (k,hh)::sHs,(k',B)::Hs,T,.cons ⟨h1,h2⟩ hr,h,hw=>by
  have h1':k=k':=h1
  subst h1'
  simp only [jl] at h
  simp only [List.all_cons,Bool.and_eq_true]
  rw [<- he.bef]
  split at h
  ·rename_i hal
   rw [hal]
   simp only [Bool.not_true,Bool.false_or]
   split at h
   ·rename_i r args n' hr' hn
    cases h
    obtain ⟨⟨B',v,A',b1,b2,b3⟩,hw'⟩:=hw
    have hB:B'=B:=by
     have h2':H[hh]? = some B:=h2
     rw [h2'] at b1;cases b1;rfl
    subst hB
    obtain ⟨i1,i2⟩:=lX he hk hr hn hw'
    rw [<- he.bef] at i1
    refine ⟨⟨?_,i1⟩,i2⟩
    unfold sameAt
    rw [(he.asked hk r args hr').2 B' v A' b2]
    simp only
    rw [(he.val hk).1]
    exact b3
   ·rename_i n' hr' hn
    cases h
    obtain ⟨b3,hw'⟩:=hw
    obtain ⟨i1,i2⟩:=lX he hk hr hn hw'
    rw [<- he.bef] at i1
    refine ⟨⟨?_,i1⟩,i2⟩
    unfold sameAt
    rw [he.known hk hr' B]
    simp only
    rw [(he.val hk).1]
    exact b3
   ·cases h
  ·rename_i hal
   obtain ⟨i1,i2⟩:=lX he hk hr h hw
   rw [<- he.bef] at i1
   refine ⟨⟨?_,i1⟩,i2⟩
   have:allowed i se.bef befs ks k=false:=by simpa using hal
   rw [this]
   rfl
theorem pA {σ:Sg} {H:List St} {A:St} {befs ks:List Nat} {sHs:List (Nat×Nat)} {Hs:List (Nat×St)} (hH:HsRel H sHs Hs) {n:Option N}:∀ {sl:List SEnt} {l:List Ent} {i:Nat} {T:N},LogRel E σ sl l ->
  jm befs ks sHs sl i n=some T->wp E T σ H A Q->eF E befs ks Hs l i=true/\∃ T',n=some T'/\wp E T' σ H A Q
 | _,_,i,T,.nil,h,hw=>⟨rfl,T,h,hw⟩
 | se::sl,e::l,i,T,.cons he hr,h,hw=>by
  simp only [jm] at h
  simp only [eF,Bool.and_eq_true]
  split at h
  ·rename_i hk
   obtain ⟨a1,T1,a2,a3⟩:=lX he hk hH h hw
   obtain ⟨b1,b2⟩:=pA hH hr a2 a3
   refine ⟨⟨?_,b1⟩,b2⟩
   unfold fg
   rw [show e.kind=1 from he.kind.symm.trans hk]
   exact a1
  ·rename_i hk
   obtain ⟨b1,b2⟩:=pA hH hr h hw
   refine ⟨⟨?_,b1⟩,b2⟩
   unfold fg
   split
   ·rename_i hk';exact absurd (he.kind.trans hk') (by simpa using hk)
   ·rfl
theorem pB {σ:Sg} {H:List St} {A:St} {befs ks:List Nat} {n:Option N}:∀ {sl:List SEnt} {l:List Ent} {i:Nat} {T:N},LogRel E σ sl l->(∀ e,e∈l->e.kind=1->∃ A',opX E A (aD e.fr) e.o=some (.val e.v,A')) ->
  jo sl n=some T->wp E T σ H A Q->eF E befs ks [(0,A)] l i=true/\∃ T',n=some T'/\wp E T' σ H A Q
 | _,_,i,T,.nil,_,h,hw=>⟨rfl,T,h,hw⟩
 | se::sl,e::l,i,T,.cons he hr,hl,h,hw=>by
  simp only [jo] at h
  simp only [eF,Bool.and_eq_true]
  split at h
  ·rename_i hk
   split at h
   ·rename_i T1 h1
    cases h
    obtain ⟨b3,hw'⟩:=hw
    obtain ⟨b1,b2⟩:=pB hr (fun e' he'=>hl e' (List.mem_cons_of_mem _ he')) h1 hw'
    refine ⟨⟨?_,b1⟩,b2⟩
    unfold fg
    rw [show e.kind=1 from he.kind.symm.trans hk]
    obtain ⟨A',hx⟩:=hl e (by simp) (he.kind.symm.trans hk)
    simp only [List.all_cons,List.all_nil,Bool.and_true]
    have:sameAt E e A=true:=by
     unfold sameAt
     rw [hx]
     simp only
     rw [(he.val hk).1]
     exact b3
    rw [this];simp
   ·cases h
  ·rename_i hk
   obtain ⟨b1,b2⟩:=pB hr (fun e' he'=>hl e' (List.mem_cons_of_mem _ he')) h hw
   refine ⟨⟨?_,b1⟩,b2⟩
   unfold fg
   split
   ·rename_i hk';exact absurd (he.kind.trans hk') (by simpa using hk)
   ·rfl
theorem TU (hE:SxEnv E) {o:Oper} {bf:Nat} {σ:Sg} {H:List St} {sf:SF} {fr:Fr} {A:St} {T:N} {k:SF->Nat->Nat->SEnt->Option N} (hfl:cF E o=true) (hf:FrRel σ sf fr) (h:mN E nt o bf sf σ.length H.length k=some T) (hw:wp E T σ H A Q) :
  ∃ v fr' τ sf' se T',opX E A (aD fr) o=some (.val v,A)/\Fr.put nt fr o.dst v=some fr'/\fr'.marks=fr.marks/\FrRel (σ++τ) sf' fr'/\EntRel E (σ++τ) se { o,fr,v,kind:=1,bef:=bf }/\k sf' (σ++τ).length H.length se=some T'/\wp E T' (σ++τ) H A Q:=by
 have known:∀ {x:X} {sf0:SF} {T:N},FrRel σ sf0 fr->x.good σ->(∀ B,opX E B (aD fr) o=some (.val (x.den σ),B))->ar nt sf0 o.dst (fun sf nv nh=>k sf nv nh { kind:=1,r:=none,x,bef:=bf }) x σ.length H.length=some T->wp E T σ H A Q ->
   ∃ v fr' τ sf' se T',opX E A (aD fr) o=some (.val v,A)/\Fr.put nt fr o.dst v=some fr'/\fr'.marks=fr.marks/\FrRel (σ++τ) sf' fr'/\EntRel E (σ++τ) se { o,fr,v,kind:=1,bef:=bf }/\k sf' (σ++τ).length H.length se=some T'/\wp E T' (σ++τ) H A Q:=by
  intro x sf0 T hf hx hX h hw
  simp only [ar] at h
  split at h
  ·rename_i sf1 hs
   obtain ⟨fr',p1,p2,p3⟩:=iG hf hx hs
   refine ⟨_,fr',[],sf1,_,T,hX A,p1,p2,by simpa using p3,?_,by simpa using h,by simpa using hw⟩
   exact { kind:=rfl,bef:=rfl,val:=fun _=>⟨by simp,by simpa using hx.1⟩,known:=fun _ _=>hX,asked:=fun _ r args hr=>by cases hr }
  ·cases h
 unfold mN at h
 split at h
 ·rename_i hl
  split at h
  ·rename_i x ht
   have ha:=iE hE hf hl ht
   exact known hf ha.1 ha.2 h hw
  ·rename_i r args ht
   have ha:=iE hE hf hl ht
   split at h
   ·rename_i hargs
    obtain ⟨T1,h1,rfl⟩:=gF h
    obtain ⟨v,A',hs,hw'⟩:=hw
    have hX:=ha A v A' hs
    have hA:A'=A:=q8 hfl hX
    subst hA
    simp only [ar] at h1
    split at h1
    ·rename_i sf1 hsf
     obtain ⟨fr',p1,p2,p3⟩:=iG (hf.append [v]) (bZ σ v).1 hsf
     rw [(bZ σ v).2] at p1
     refine ⟨v,fr',[v],sf1,_,T1,hX,p1,p2,p3,?_,by simpa using h1,hw'⟩
     have hargs':=List.all_eq_true.1 hargs
     refine { kind:=rfl,bef:=rfl,val:=fun _=>⟨(bZ σ v).2.symm,(bZ σ v).1.1⟩,known:=fun _ hr=>(by cases hr),asked:=?_ }
     intro _ r' args' hr
     cases hr
     refine ⟨List.all_eq_true.2 fun x hx=>X.ok_mono (by simp) (hargs' x hx),fun B u B' hb=>?_⟩
     rw [fW [v] hargs'] at hb
     exact ha B u B' hb
    ·cases h1
   ·cases h
  ·rename_i j a b ht
   obtain ⟨ga,gb,hpick⟩:=iE hE hf hl ht
   obtain ⟨ta,tb,h1,h2,rfl⟩:=gG h
   obtain ⟨t,hj,hwt,hwf⟩:=hw
   have hj':look σ j=.bool t:=hj
   cases t with
   | true=>exact known (hf.learn hj') (X.learn_ok ga) (fun B=>by rw [X.learn_den hj'];exact hpick B true hj') h1 (hwt rfl)
   | false=>exact known (hf.learn hj') (X.learn_ok gb) (fun B=>by rw [X.learn_den hj'];exact hpick B false hj') h2 (hwf rfl)
  ·cases h
 ·cases h
theorem TV (hE:SxEnv E) {o:Oper} {bf b i base:Nat} {σ:Sg} {H:List St} {sf:SF} {fr:Fr} {A:St} {T:N} {k:SF->Nat->Nat->SEnt->Option N} (hb:look σ b=goInt base) (hf:FrRel σ sf fr) (h:mO E nt b i o bf sf σ.length H.length k=some T) (hw:wp E T σ H A Q) :
  ∃ v A1 fr' τ sf' se T',opX E { A with next:=base+i } (aD fr) o=some (.val v,A1)/\Fr.put nt fr o.dst v=some fr'/\fr'.marks=fr.marks/\FrRel (σ++τ) sf' fr'/\EntRel E (σ++τ) se { o,fr,v,kind:=3,bef:=bf }/\k sf' (σ++τ).length H.length se=some T'/\wp E T' (σ++τ) H { A1 with next:=A.next } Q:=by
 have hbase:c7 (look σ b)=base:=by rw [hb];rfl
 have ent:∀ (τ:Sg) (v:Value),EntRel E τ { kind:=3,r:=none,x:=vv undef,bef:=bf } { o,fr,v,kind:=3,bef:=bf }:=fun τ v =>
  { kind:=rfl,bef:=rfl,val:=fun hk=>(by cases hk),known:=fun hk=>(by cases hk),asked:=fun hk=>(by cases hk) }
 unfold mO at h
 split at h
 ·rename_i hl
  split at h
  ·rename_i r args ht
   have ha:=iE hE hf hl ht
   obtain ⟨T1,h1,rfl⟩:=vP h
   obtain ⟨v,A',hs,hw'⟩:=hw
   rw [hbase] at hs
   simp only [ar] at h1
   split at h1
   ·rename_i sf1 hsf
    obtain ⟨fr',p1,p2,p3⟩:=iG (hf.append [v]) (bZ σ v).1 hsf
    rw [(bZ σ v).2] at p1
    exact ⟨v,A',fr',[v],sf1,_,T1,ha _ v A' hs,p1,p2,p3,ent _ v,by simpa using h1,hw'⟩
   ·cases h1
  ·rename_i r args len ht
   have ha:=iE hE hf hl ht
   obtain ⟨T1,h1,rfl⟩:=vP h
   obtain ⟨v,A',hs,hw'⟩:=hw
   rw [hbase] at hs
   obtain ⟨⟨p,hp⟩,hX⟩:=ha _ v A' hs
   simp only [ar] at h1
   split at h1
   ·rename_i sf1 hsf
    have hg:X.good (σ++[v]) (.sl (.n σ.length) len):=⟨qF (by simp),⟨p,by rw [<- hp];exact fV σ v⟩⟩
    obtain ⟨fr',p1,p2,p3⟩:=iG (hf.append [v]) hg hsf
    have hd:X.den (σ++[v]) (.sl (.n σ.length) len)=slV v len:=by
     show slV (look _ _) len=_
     rw [fV]
    rw [hd] at p1
    exact ⟨slV v len,A',fr',[v],sf1,_,T1,hX,p1,p2,p3,ent _ _,by simpa using h1,hw'⟩
   ·cases h1
  ·cases h
 ·cases h
theorem jb (hE:SxEnv E) (hR:RecOk E rec_) {ops:Array Oper} {befs:List Nat} {b base:Nat} {k:K}:∀ {os:List (Oper×Nat)} {i:Nat} {σ:Sg} {H:List St} {sf:SF} {fr:Fr} {A:St} {slog:List SEnt} {log:List Ent} {sHs:List (Nat×Nat)} {Hs:List (Nat×St)} {ks:List Nat} {T:N},
  b < σ.length->look σ b=goInt base->FrRel σ sf fr->LogRel E σ slog log->HsRel H sHs Hs->0 < sHs.length->(calm sHs slog=true->Hs=[(0,A)]/\∀ e,e∈log->e.kind=1->∃ A',opX E A (aD e.fr) e.o=some (.val e.v,A'))->dL E cfg rec_ nt ops befs b os i sf σ.length H.length slog sHs ks k=some T->wp E T σ H A Q ->
  ∃ n fr' A',bA E (big E n) nt ops befs os i (base+i) fr A log Hs ks=some (fr',A')/\fr'.marks=fr.marks/\KGood E Q σ H k fr' A'
 | [],i,σ,H,sf,fr,A,slog,log,sHs,Hs,ks,T,hb,hbase,hf,hlog,hHs,hne,hcalm,h,hw=>by
  simp only [dL] at h
  split at h
  ·rename_i hc
   obtain ⟨rfl,hall⟩:=hcalm hc
   obtain ⟨c1,T',c2,c3⟩:=pB (befs:=befs) (ks:=ks) (i:=0) (oz hlog) (fun e he=>hall e (by simpa using he)) h hw
   refine ⟨0,fr,A,?_,rfl,.here hf c2 c3⟩
   unfold bA
   rw [if_pos c1]
  ·obtain ⟨c1,T',c2,c3⟩:=pA hHs (oz hlog) h hw
   refine ⟨0,fr,A,?_,rfl,.here hf c2 c3⟩
   unfold bA
   rw [if_pos c1]
 | (o, bf)::os,i,σ,H,sf,fr,A,slog,log,sHs,Hs,ks,T,hb,hbase,hf,hlog,hHs,hne,hcalm,h,hw=>by
  have calmOf:∀ {e:SEnt},calm sHs (e::slog)=true->calm sHs slog=true:=by
   intro e he
   simp only [calm,List.all_cons,Bool.and_eq_true] at he ⊢
   exact ⟨he.1,he.2.2⟩
  have fin:∀ {σ':Sg} {H':List St} {n:Nat} {fr1 fr':Fr} {A':St} {x:Option (Fr×St)},fr1.marks=fr.marks->x=some (fr',A')->fr'.marks=fr1.marks->KGood E Q (σ++σ') (H++H') k fr' A' ->
    (x=some (fr',A')->bA E (big E n) nt ops befs ((o,bf)::os) i (base+i) fr A log Hs ks=some (fr',A')) ->
    ∃ n fr' A',bA E (big E n) nt ops befs ((o,bf)::os) i (base+i) fr A log Hs ks=some (fr',A')/\fr'.marks=fr.marks/\KGood E Q σ H k fr' A' :=
   fun h1 hx h2 hg hd=>⟨_,_,_,hd hx,h2.trans h1,hg.more⟩
  have no:∀ {sf:SF} {T:N},FrRel σ sf fr->az ops o fr=false->ar nt sf o.dst (fun sf nv nh=>dL E cfg rec_ nt ops befs b os (i+1) sf nv nh ({ kind:=0,r:=none,x:=vv undef,bef:=bf }::slog) sHs ks k) (vv undef) σ.length H.length=some T->wp E T σ H A Q ->
    ∃ n fr' A',bA E (big E n) nt ops befs ((o,bf)::os) i (base+i) fr A log Hs ks=some (fr',A')/\fr'.marks=fr.marks/\KGood E Q σ H k fr' A':=by
   intro sf T hf hg h hw
   simp only [ar] at h
   split at h
   ·rename_i sf1 hs
    obtain ⟨fr1,p1,p2,p3⟩:=iG hf (c8 σ undef) hs
    have p1':Fr.put nt fr o.dst undef=some fr1:=p1
    obtain ⟨n,fr',A',e1,e2,e3⟩:=jb hE hR hb hbase p3 (log:={ o,fr,v:=undef,kind:=0,bef:=bf }::log) (.cons { kind:=rfl,bef:=rfl,val:=fun hk=>(by cases hk),known:=fun hk=>(by cases hk),asked:=fun hk=>(by cases hk) } hlog) hHs hne (fun hc=>by
      obtain ⟨g1,g2⟩:=hcalm (calmOf hc)
      refine ⟨g1,fun e he hk=>?_⟩
      rcases List.mem_cons.1 he with rfl | he
      ·cases hk
      ·exact g2 e he hk) h hw
    refine ⟨n,fr',A',?_,e2.trans p2,e3⟩
    unfold bA
    rw [if_neg (by rw [hg];decide),p1']
    exact e1
   ·cases h
  have yes:∀ {sf:SF} {T:N},FrRel σ sf fr->az ops o fr=true->(if cF E o then mN E nt o bf sf σ.length H.length fun sf nv nh e=>dL E cfg rec_ nt ops befs b os (i+1) sf nv nh (e::slog) sHs ks k
   else if bP o then mO E nt b i o bf sf σ.length H.length fun sf nv nh e=>dL E cfg rec_ nt ops befs b os (i+1) sf nv nh (e::slog) sHs ks k
   else fT E cfg rec_ nt o sf σ.length H.length fun sf nv nh=>mL (dL E cfg rec_ nt ops befs b os (i+1) sf nv (nh+1) ({ kind:=2,r:=none,x:=vv undef,bef:=bf }::slog) ((i+1,nh)::sHs) (i::ks) k))=some T->wp E T σ H A Q ->
    ∃ n fr' A',bA E (big E n) nt ops befs ((o,bf)::os) i (base+i) fr A log Hs ks=some (fr',A')/\fr'.marks=fr.marks/\KGood E Q σ H k fr' A':=by
   intro sf T hf hg h hw
   split at h
   ·rename_i hfl
    obtain ⟨v,fr1,τ,sf',se,T',d1,d2,d3,d4,d5,d6,d7⟩:=TU hE hfl hf h hw
    obtain ⟨n,fr',A',e1,e2,e3⟩:=jb hE hR (Nat.lt_of_lt_of_le hb (by simp)) ((eB σ τ hb).trans hbase) d4 (.cons d5 (hlog.append τ)) hHs hne (fun hc=>by
      obtain ⟨g1,g2⟩:=hcalm (calmOf hc)
      refine ⟨g1,fun e he hk=>?_⟩
      rcases List.mem_cons.1 he with rfl | he
      ·exact ⟨A,d1⟩
      ·exact g2 e he hk) d6 d7
    refine ⟨n,fr',A',?_,e2.trans d3,KGood.more (I:=[]) (by simpa using e3)⟩
    unfold bA
    rw [if_pos hg,if_pos hfl,d1]
    simp only [d2]
    exact e1
   ·rename_i hfl
    split at h
    ·rename_i hal
     obtain ⟨v,A1,fr1,τ,sf',se,T',d1,d2,d3,d4,d5,d6,d7⟩:=TV hE hbase hf h hw
     obtain ⟨n,fr',A',e1,e2,e3⟩:=jb hE hR (Nat.lt_of_lt_of_le hb (by simp)) ((eB σ τ hb).trans hbase) d4 (.cons d5 (hlog.append τ)) hHs hne (fun hc=>by
       simp only [calm,List.all_cons,Bool.and_eq_true] at hc
       have hk:se.kind=3:=d5.kind
       rw [hk] at hc
       have:=hc.2.1
       simp at this) d6 d7
     refine ⟨n,fr',A',?_,e2.trans d3,KGood.more (I:=[]) (by simpa using e3)⟩
     unfold bA
     rw [if_pos hg,if_neg hfl,if_pos hal,d1]
     simp only [d2]
     exact e1
    ·rename_i hal
     obtain ⟨n,fr1,A1,d1,d2,⟨σ',H',sf',T',g1,g2,g3⟩⟩:=vS hE hR hf h hw
     obtain ⟨T2,g4,rfl⟩:=vQ g2
     have g3':wp E T2 (σ++σ') ((H++H')++[A1]) A1 Q:=g3
     have hH2:HsRel ((H++H')++[A1]) ((i+1,(H++H').length)::sHs) ((i+1,A1)::Hs):=.cons ⟨rfl,by simp⟩ ((hHs.append H').append [A1])
     have hL2:LogRel E (σ++σ') ({ kind:=2,r:=none,x:=vv undef,bef:=bf }::slog) ({ o,fr,v:=mw fr1 o.dst,kind:=2,bef:=bf }::log) :=
      .cons { kind:=rfl,bef:=rfl,val:=fun hk=>(by cases hk),known:=fun hk=>(by cases hk),asked:=fun hk=>(by cases hk) } (hlog.append σ')
     obtain ⟨m,fr',A',e1,e2,e3⟩:=jb (H:=(H++H')++[A1]) hE hR (Nat.lt_of_lt_of_le hb (by simp)) ((eB σ σ' hb).trans hbase) g1 hL2 hH2 (by simp) (fun hc=>by
       simp only [calm,Bool.and_eq_true] at hc
       have h1:=Nat.eq_of_beq_eq_true hc.1
       simp only [List.length_cons] at h1
       omega) (by simpa [Nat.add_assoc] using g4) g3'
     refine ⟨max n m,fr',A',?_,e2.trans d2,KGood.more (I:=H'++[A1]) (by simpa using e3)⟩
     unfold bA
     rw [if_pos hg,if_neg hfl,if_neg hal,oh (cY E (Nat.le_max_left n m)) d1]
     exact iF (cY E (Nat.le_max_right n m)) e1
  simp only [dL] at h
  split at h
  ·rename_i hg
   exact yes hf (vT hf hg) h hw
  ·rename_i hg
   exact no hf (vU hf hg) h hw
  ·rename_i j hg
   obtain ⟨ta,tb,h1,h2,rfl⟩:=gG h
   obtain ⟨t,hj,hwt,hwf⟩:=hw
   have hj':look σ j=.bool t:=hj
   cases t with
   | true=>exact yes (hf.learn hj') (fI hf hg hj') h1 (hwt rfl)
   | false=>exact no (hf.learn hj') (fI hf hg hj') h2 (hwf rfl)
  ·rename_i j hg
   obtain ⟨ta,tb,h1,h2,rfl⟩:=gG h
   obtain ⟨t,hj,hwt,hwf⟩:=hw
   have hj':look σ j=.bool t:=hj
   cases t with
   | true=>exact no (hf.learn hj') (fI hf hg hj') h1 (hwt rfl)
   | false=>exact yes (hf.learn hj') (fI hf hg hj') h2 (hwf rfl)
  ·cases h
theorem TW (hE:SxEnv E) (hR:RecOk E rec_) {ops:Array Oper} {k:K} {σ:Sg} {H:List St} {sf:SF} {fr:Fr} {A:St} {T:N} (hf:FrRel σ sf fr) (h:pq E cfg rec_ nt ops sf σ.length H.length k=some T) (hw:wp E T σ H A Q) :
  ∃ n fr' A',gj E (big E n) nt ops fr A=some (fr',A')/\fr'.marks=fr.marks/\KGood E Q σ H k fr' A':=by
 unfold pq at h
 split at h
 ·rename_i hreg
  obtain ⟨T1,h1,rfl⟩:=TQ h
  obtain ⟨T2,h2,rfl⟩:=vQ h1
  have hw':wp E T2 (σ++[goInt A.next]) (H++[{ A with next:=A.next+ops.size }]) { A with next:=A.next+ops.size } Q:=hw
  obtain ⟨n,fr',A',e1,e2,e3⟩:=jb (b:=σ.length) (base:=A.next) (σ:=σ++[goInt A.next]) (H:=H++[{ A with next:=A.next+ops.size }]) (sHs:=[(0,H.length)]) (Hs:=[(0,{ A with next:=A.next+ops.size })]) (log:=[]) hE hR (by simp) (fV σ _) (hf.append _) .nil (.cons ⟨rfl,by simp⟩ .nil) (by simp) (fun _=>⟨rfl,fun e he=>by cases he⟩) (by simpa using h2) hw'
  refine ⟨n,fr',A',?_,e2,e3.more⟩
  unfold gj
  rw [if_pos hreg]
  exact e1
 ·cases h
theorem TX (hE:SxEnv E) (hR:RecOk E rec_) {ops:Array Oper} {k:K} {σ:Sg} {H:List St} {sf:SF} {fr:Fr} {A:St} {T:N} (hf:FrRel σ sf fr) (h:w8 E cfg rec_ nt ops sf σ.length H.length k=some T) (hw:wp E T σ H A Q) :
  ∃ n fr' A',eh E (big E n) nt ops fr A=some (fr',A')/\fr'.marks=fr.marks/\KGood E Q σ H k fr' A':=TW hE hR hf h hw
end
end Go.AM.SX
namespace Go.AM.SX
open Go
theorem vW {l:List Nat} {n:Nat}:jq l n=true<->n∈l:=by
 unfold jq
 rw [List.any_eq_true]
 constructor
 ·rintro ⟨m,h1,h2⟩
  have:n=m:=Nat.eq_of_beq_eq_true h2
  subst this
  exact h1
 ·intro h
  exact ⟨n,h,Nat.beq_refl n⟩
theorem At.same_eq {a b:At} (h:a.same b=true):a=b:=by
 unfold At.same at h
 split at h
 ·rw [Bool.and_eq_true,decide_eq_true_eq,decide_eq_true_eq] at h
  rw [h.1,h.2]
 ·rw [decide_eq_true_eq] at h;rw [h]
 ·rename_i x y
  rw [decide_eq_true_eq] at h
  obtain ⟨⟨x⟩⟩:=x
  obtain ⟨⟨y⟩⟩:=y
  have h':x=y:=h
  rw [h']
 ·rfl
 ·rfl
 ·rw [Bool.and_eq_true,decide_eq_true_eq,decide_eq_true_eq] at h
  rw [h.1,h.2]
 ·rw [Nat.eq_of_beq_eq_true h]
 ·cases h
theorem vX:∀ {l m:List At},mH l m=true->l=m
 | [],[],_=>rfl
 | [],_::_,h=>by cases h
 | _::_,[],h=>by cases h
 | a::l,b::m,h=>by
  simp only [mH,Bool.and_eq_true] at h
  rw [At.same_eq h.1,vX h.2]
theorem X.same_eq {a b:X} (h:a.same b=true):a=b:=by
 cases a <;> cases b <;> simp only [X.same,Bool.and_eq_true,Bool.false_eq_true] at h
 ·rw [At.same_eq h]
 ·rw [Nat.eq_of_beq_eq_true h.1,At.same_eq h.2]
 ·rw [Nat.eq_of_beq_eq_true h.1,vX h.2]
 ·rw [At.same_eq h.1,Nat.eq_of_beq_eq_true h.2]
theorem SF.get_append {sf tf:SF} {t:Nat}:(sf++tf).get t=match SF.get sf t with
  | some x=>some x
  | none=>SF.get tf t:=by
 induction sf with
 | nil=>rfl
 | cons p sf ih =>
  obtain ⟨s,x⟩:=p
  simp only [List.cons_append,SF.get]
  split
  ·rfl
  ·exact ih
theorem pC {M:List Nat} {t:Nat} {x:X}:∀ {sf:SF} {seen:List Nat},SF.get (fU M sf seen) t=some x->t ∉ seen/\t ∉ M/\SF.get sf t=some x
 | [],seen,h=>by cases h
 | (s,y)::sf,seen,h=>by
  have drop:SF.get (fU M sf (s::seen)) t=some x->t ∉ seen/\t ∉ M/\SF.get ((s,y)::sf) t=some x:=by
   intro h
   obtain ⟨h1,h2,h3⟩:=pC h
   rw [List.mem_cons,not_or] at h1
   refine ⟨h1.2,h2,?_⟩
   simp only [SF.get]
   rw [if_neg]
   ·exact h3
   ·intro e;exact h1.1 (Nat.eq_of_beq_eq_true e).symm
  simp only [fU] at h
  split at h
  ·exact drop h
  ·rename_i hc
   split at h
   ·rename_i hs
    simp only [SF.get] at h
    split at h
    ·rename_i e
     cases h
     have:s=t:=Nat.eq_of_beq_eq_true e
     subst this
     simp only [Bool.or_eq_true,not_or] at hc
     refine ⟨fun hm=>hc.1 (vW.2 hm),fun hm=>hc.2 (vW.2 hm),?_⟩
     simp only [SF.get,e,if_true]
    ·rename_i e
     obtain ⟨h1,h2,h3⟩:=pC h
     rw [List.mem_cons,not_or] at h1
     refine ⟨h1.2,h2,?_⟩
     simp only [SF.get]
     rw [if_neg e]
     exact h3
   ·exact drop h
theorem vY {sf:SF} {t:Nat} {x:X}:∀ {kept:SF},jr sf kept=true->SF.get kept t=some x->sf.get t=some x
 | [],_,h=>by cases h
 | (s,y)::kept,hk,h=>by
  simp only [jr,Bool.and_eq_true] at hk
  simp only [SF.get] at h
  split at h
  ·rename_i e
   cases h
   have:s=t:=Nat.eq_of_beq_eq_true e
   subst this
   cases hs:sf.get s with
   | none=>rw [hs] at hk;cases hk.1
   | some z=>rw [hs] at hk;rw [X.same_eq hk.1]
  ·exact vY hk.2 h
theorem pD {sf:SF}:∀ {ts:List Nat} {xs:List X},eZ sf ts=some xs->xs.length=ts.length
 | [],xs,h=>by cases h;rfl
 | t::ts,xs,h=>by
  simp only [eZ] at h
  split at h
  ·cases h;rename_i h2;simp [pD h2]
  ·cases h
theorem vZ {σ σ':Sg} {sf:SF} {fr:Fr} (hf:FrRel σ' sf fr):∀ {ts:List Nat} {xs:List X} {nv:Nat},eZ sf ts=some xs->(∀ i,i < xs.length->look σ (nv+i)=(denL σ' xs).getD i undef)->nv+xs.length<=σ.length ->
  ∀ {t:Nat} {x:X},SF.get (gM nv ts) t=some x->x.good σ/\fr.tm.get t=some (x.den σ)
 | [],xs,nv,h,hl,hlen,t,x,hg=>by cases hg
 | s::ts,xs,nv,h,hl,hlen,t,x,hg=>by
  simp only [eZ] at h
  split at h
  ·rename_i y ys h1 h2
   cases h
   simp only [gM,SF.get] at hg
   split at hg
   ·rename_i e
    cases hg
    have:s=t:=Nat.eq_of_beq_eq_true e
    subst this
    have h0:=hl 0 (by simp)
    simp only [denL,List.map_cons,Nat.add_zero,List.getD_cons_zero] at h0
    refine ⟨mP (by simp at hlen;omega),?_⟩
    rw [(hf _ _ h1).2]
    show _=some (look σ nv)
    rw [h0]
   ·refine vZ hf h2 (nv:=nv+1) (fun i hi=>?_) (by simp at hlen;omega) hg
    have:=hl (i+1) (by simp;omega)
    simp only [denL,List.map_cons,List.getD_cons_succ] at this
    rw [show nv+1+i=nv+(i+1) by omega]
    exact this
  ·cases h
theorem TY {σ:Sg} {vs:List Value} {i:Nat}:look (σ++vs) (σ.length+i)=vs.getD i undef:=by
 rw [look_eq,List.getElem?_append_right (by omega)]
 simp [List.getD_eq_getElem?_getD]
end Go.AM.SX
namespace Go.AM.SX
open Go
section
variable {E:Env} {cfg:Cfg} {rec_:SRec} {Q:bd} {nt:Nat}
def LFr (σ:Sg) (V:List Nat) (kept:SF) (fr:Fr) (vs:List Value):Prop :=
 (∃ σ' sf' xs,FrRel σ' sf' fr/\eZ sf' V=some xs/\denL σ' xs=vs)/\FrRel σ kept fr
theorem LFr.frame {σ:Sg} {V:List Nat} {kept:SF} {fr:Fr} {vs:List Value} (h:LFr σ V kept fr vs) (u:List Value):FrRel (σ++(u++vs)) (gM (σ.length+u.length) V++kept) fr:=by
 obtain ⟨⟨σ',sf',xs,h1,h2,rfl⟩,hk⟩:=h
 have hlen:xs.length=V.length:=pD h2
 intro t x hx
 rw [SF.get_append] at hx
 split at hx
 ·rename_i y hy
  cases hx
  refine vZ h1 h2 (fun i hi=>?_) (by simp [denL,Nat.add_assoc]) hy
  rw [<- List.append_assoc]
  have:=TY (σ:=σ++u) (vs:=denL σ' xs) (i:=i)
  rw [List.length_append] at this
  exact this
 ·exact hk.append _ t x hx
theorem LFr.len {σ:Sg} {V:List Nat} {kept:SF} {fr:Fr} {vs:List Value} (h:LFr σ V kept fr vs):vs.length=V.length:=by
 obtain ⟨⟨σ',sf',xs,h1,h2,rfl⟩,hk⟩:=h
 simp [denL,pD h2]
theorem v7 {nv:Nat} {kf:Nat->Option N} {σ:Sg} {H:List St} {A:St}:∀ {os:List Nat} {T:N},swK nv kf os=some T->wp E T σ H A Q->∃ T',kf (c7 (look σ nv))=some T'/\wp E T' σ H A Q
 | [],T,h,hw=>by cases h;exact hw.elim
 | o::os,T,h,hw=>by
  simp only [swK] at h
  split at h
  ·rename_i a b h1 h2
   cases h
   by_cases hc:c7 (look σ nv)=o
   ·exact ⟨a,by rw [hc];exact h1,hw.1 hc⟩
   ·exact v7 h2 (hw.2 hc)
  ·cases h
theorem TZ {o:Nat}:outN (o+1)≠.norm:=by
 cases o with
 | zero=>exact fun h=>(by cases h)
 | succ o =>
  show (match Nat.blt o gotoB with
  | true=>Out.exit o
  | false=>.goto (o - gotoB))≠.norm
  split <;> exact fun h=>(by cases h)
theorem v8 {o:Nat} {fr:Fr} {A:St} {f:Fr->St->Option (Out×Fr×St)}:(match (some (outN (o+1),fr,A):Option (Out×Fr×St)) with
   | some (.norm,fr1,A1)=>f fr1 A1
   | r=>r)=some (outN (o+1),fr,A):=by
 have:=TZ (o:=o)
 generalize outN (o+1)=x at this ⊢
 cases x with
 | norm=>exact absurd rfl this
 | _=>rfl
theorem T0 {o:Nat} {fr:Fr} {A:St} {f:Fr->St->Option (Out×Fr×St)}:(match (some (outN (o+1),fr,A):Option (Out×Fr×St)) with
   | some (.norm,fr1,A1)=>f fr1 A1
   | r=>r)=some (outN (o+1),fr,A):=v8
theorem dV {n nt:Nat} {c:Code} {fr:Fr} {A:St}:(big E (n+1)).code nt c fr A=a7 E (big E n) nt c fr A:=rfl
theorem T4 (hR:RecOk E rec_) {f:Nat} {b:Code} {sf:SF} {fr:Fr} {σ:Sg} {H:List St} {A:St} {T:N} {k:KO} (hf:FrRel σ sf fr) (h:pt rec_ f nt b sf σ.length H.length k=some T) (hw:wp E T σ H A Q) :
  ∃ n o fr' A',(big E n).code nt (.loop b) fr A=some (outN o,fr',A')/\fr'.marks=fr.marks/\KGood E Q σ H (k o) fr' A':=by
 simp only [pt] at h
 split at h
 ·cases h
 rename_i ins hins
 split at h
 ·cases h
 rename_i body hbody
 split at h
 ·rename_i kk hkk
  cases h
  generalize hV:(dedup (dz b)).filter (fun t=>(SF.get sf t).isSome)=V at *
  generalize hkept:fU (dz b) sf []=kept at *
  have hk0:FrRel σ kept fr:=by
   intro t x hx
   rw [<- hkept] at hx
   exact hf t x (pC hx).2.2
  obtain ⟨n,hn⟩:=hw
  have key:∀ (n:Nat) (vs:List Value) (fr1:Fr) (A1:St),LFr σ V kept fr1 vs ->
    fQ (fun vs A Q'=>wp E body (σ++vs) H A Q') (fun o outs A'=>wp E kk (σ++goInt o::outs) H A' Q) n vs A1 ->
    ∃ m o fr' A',(big E m).code nt (.loop b) fr1 A1=some (outN o,fr',A')/\fr'.marks=fr1.marks/\∃ outs,LFr σ V kept fr' outs/\wp E kk (σ++goInt o::outs) H A' Q:=by
   intro n
   induction n with
   | zero=>intro vs fr1 A1 _ h;exact h.elim
   | succ n ih =>
    intro vs fr1 A1 hl h
    have hfr:=hl.frame []
    simp only [List.nil_append,List.length_nil,Nat.add_zero] at hfr
    have hb2:rec_.code f nt b (gM σ.length V++kept) (σ++vs).length H.length (fun o sf' _ _=>if jr sf' kept then match eZ sf' V with
      | some outs=>some (.fin o outs)
      | none=>none
      else none)=some body:=by
     rw [List.length_append,hl.len]
     exact hbody
    obtain ⟨m,o,fr2,A2,c1,c2,⟨σ1,H1,sf2,T2,g1,g2,g3⟩⟩:=hR.code hfr hb2 h
    simp only at g2
    split at g2
    ·rename_i hko
     split at g2
     ·rename_i outs houts
      cases g2
      have hkept2:FrRel σ kept fr2:=by
       intro t x hx
       have h0:=(hk0 t x hx).1
       refine ⟨h0,?_⟩
       have h2:=(g1 t x (vY hko hx)).2
       rw [h2,List.append_assoc,X.den_append _ h0.1]
      have hl2:LFr σ V kept fr2 (denL (σ++vs++σ1) outs):=⟨⟨_,sf2,outs,g1,houts,rfl⟩,hkept2⟩
      cases o with
      | zero =>
       obtain ⟨m2,o2,fr3,A3,d1,d2,d3⟩:=ih _ fr2 A2 hl2 g3
       refine ⟨max m m2+1,o2,fr3,A3,?_,d2.trans c2,d3⟩
       rw [dV]
       simp only [a7]
       rw [(cY E (Nat.le_max_left m m2)).code _ _ _ _ _ c1]
       exact (cY E (Nat.le_max_right m m2)).code _ _ _ _ _ d1
      | succ o =>
       refine ⟨m+1,o+1,fr2,A2,?_,c2,_,hl2,g3⟩
       rw [dV]
       simp only [a7]
       rw [c1]
       exact T0
     ·cases g2
    ·cases g2
  obtain ⟨m,o,fr',A',e1,e2,outs,e3,e4⟩:=key n _ fr A ⟨⟨σ,sf,ins,hf,hins,rfl⟩,hk0⟩ hn
  refine ⟨m,o,fr',A',e1,e2,?_⟩
  obtain ⟨T',t1,t2⟩:=v7 hkk e4
  have hlook:c7 (look (σ++goInt o::outs) σ.length)=o:=by rw [qE];rfl
  rw [hlook] at t1
  refine ⟨goInt o::outs,[],_,T',e3.frame [goInt o],?_,by simpa using t2⟩
  have hlen:=e3.len
  simp only [List.append_nil,List.length_append,List.length_cons]
  rw [show σ.length+(outs.length+1)=σ.length+1+V.length by omega]
  exact t1
 ·cases h
theorem vc (hR:RecOk E rec_) {f:Nat} {a b:Code} {sf:SF} {fr:Fr} {σ:Sg} {H:List St} {A:St} {T:N} {k:KO} (hf:FrRel σ sf fr)
  (h:rec_.code f nt a sf σ.length H.length (qA (fun sf nv nh=>rec_.code f nt b sf nv nh k) k)=some T) (hw:wp E T σ H A Q) :
  ∃ n o fr' A',(match (big E n).code nt a fr A with
   | some (.norm,fr1,A1)=>(big E n).code nt b fr1 A1
   | r=>r)=some (outN o,fr',A')/\fr'.marks=fr.marks/\KGood E Q σ H (k o) fr' A':=by
 obtain ⟨n,o,fr1,A1,c1,c2,⟨σ1,H1,sf1,T1,g1,g2,g3⟩⟩:=hR.code hf h hw
 cases o with
 | zero =>
  obtain ⟨m,o2,fr2,A2,d1,d2,d3⟩:=hR.code g1 g2 g3
  refine ⟨max n m,o2,fr2,A2,?_,d2.trans c2,d3.more⟩
  rw [(cY E (Nat.le_max_left n m)).code _ _ _ _ _ c1]
  exact (cY E (Nat.le_max_right n m)).code _ _ _ _ _ d1
 | succ o =>
  refine ⟨n,o+1,fr1,A1,?_,c2,⟨σ1,H1,sf1,T1,g1,g2,g3⟩⟩
  rw [c1]
  exact v8
theorem dW {o:Nat}:outN (o+2)=match Nat.blt o gotoB with
  | true=>.exit o
  | false=>.goto (o - gotoB):=rfl
theorem vd {b:Code} {go:Code->SF->Nat->Nat->Option N} {k:KO} {o:Nat} {sf:SF} {nv nh:Nat}:qB b go k (o+2) sf nv nh=match Nat.blt o gotoB with
  | true=>k (o+2) sf nv nh
  | false=>match labelIn b (o - gotoB) with
   | none=>k (o+2) sf nv nh
   | some rest=>go rest sf nv nh:=rfl
theorem pE {r:Rec} {nt:Nat} {b:Code} {j l:Nat} {fr:Fr} {A:St}:bp r nt b j (some (.goto l,fr,A))=match labelIn b l with
  | none=>some (.goto l,fr,A)
  | some rest=>match j with
   | 0=>none
   | j+1=>bp r nt b j (r.code nt rest fr A):=by
 cases j <;> simp only [bp] <;> cases labelIn b l <;> rfl
theorem iH {r:Rec} {nt:Nat} {b:Code} {j:Nat} {o:Out} {fr:Fr} {A:St} (h:∀ l,o≠.goto l):bp r nt b j (some (o,fr,A))=some (o,fr,A):=by
 cases o <;> first
  | (cases j <;> rfl)
  | exact absurd rfl (h _)
theorem T5 (hR:RecOk E rec_) {f:Nat} {b:Code} {k:KO}:∀ (j:Nat) {n o:Nat} {fr fr':Fr} {A A':St} {σ:Sg} {H:List St} {c:Code},(big E n).code nt c fr A=some (outN o,fr',A')->KGood E Q σ H (js rec_ f nt b j k o) fr' A' ->
  ∃ m o2 fr2 A2,bp (big E m) nt b j ((big E m).code nt c fr A)=some (outN o2,fr2,A2)/\fr2.marks=fr'.marks/\KGood E Q σ H (k o2) fr2 A2:=by
 intro j n o fr fr' A A' σ H c c1 c3
 have low:o < 2->∃ m o2 fr2 A2,bp (big E m) nt b j ((big E m).code nt c fr A)=some (outN o2,fr2,A2)/\fr2.marks=fr'.marks/\KGood E Q σ H (k o2) fr2 A2:=by
  intro ho
  match o,ho with
  | 0,_=>exact ⟨n,0,fr',A',by rw [c1];exact iH (fun l e=>by cases e),rfl,by cases j <;> exact c3⟩
  | 1,_=>exact ⟨n,1,fr',A',by rw [c1];exact iH (fun l e=>by cases e),rfl,by cases j <;> exact c3⟩
 induction j generalizing n o fr fr' A A' σ H c with
 | zero =>
  match o,c1,c3,low with
  | 0,c1,c3,low=>exact low (by omega)
  | 1,c1,c3,low=>exact low (by omega)
  | o+2,c1,c3,low =>
   obtain ⟨σ',H',sf',T',g1,g2,g3⟩:=c3
   rw [js,vd] at g2
   rw [dW] at c1
   cases hb:Nat.blt o gotoB with
   | true =>
    rw [hb] at g2 c1
    exact ⟨n,o+2,fr',A',by rw [c1,dW,hb];exact iH (fun l e=>by cases e),rfl,σ',H',sf',T',g1,g2,g3⟩
   | false =>
    rw [hb] at g2 c1
    cases hl:labelIn b (o - gotoB) with
    | none =>
     rw [hl] at g2
     exact ⟨n,o+2,fr',A',by rw [c1,dW,hb,pE,hl],rfl,σ',H',sf',T',g1,g2,g3⟩
    | some rest=>rw [hl] at g2;cases g2
 | succ j ih =>
  match o,c1,c3,low with
  | 0,c1,c3,low=>exact low (by omega)
  | 1,c1,c3,low=>exact low (by omega)
  | o + 2,c1,c3,low =>
   obtain ⟨σ',H',sf',T',g1,g2,g3⟩:=c3
   rw [js,vd] at g2
   rw [dW] at c1
   cases hb:Nat.blt o gotoB with
   | true =>
    rw [hb] at g2 c1
    exact ⟨n,o+2,fr',A',by rw [c1,dW,hb];exact iH (fun l e=>by cases e),rfl,σ',H',sf',T',g1,g2,g3⟩
   | false =>
    rw [hb] at g2 c1
    cases hl:labelIn b (o - gotoB) with
    | none =>
     rw [hl] at g2
     exact ⟨n,o+2,fr',A',by rw [c1,dW,hb,pE,hl],rfl,σ',H',sf',T',g1,g2,g3⟩
    | some rest =>
     rw [hl] at g2
     obtain ⟨n2,o2,fr2,A2,d1,d2,d3⟩:=hR.code g1 g2 g3
     obtain ⟨m,o3,fr3,A3,f1,f2,f3⟩:=ih d1 d3 (fun ho=>by
      match o2,ho,d1,d3 with
      | 0,_,d1,d3=>exact ⟨n2,0,fr2,A2,by rw [d1];exact iH (fun l e=>by cases e),rfl,by cases j <;> exact d3⟩
      | 1,_,d1,d3=>exact ⟨n2,1,fr2,A2,by rw [d1];exact iH (fun l e=>by cases e),rfl,by cases j <;> exact d3⟩)
     refine ⟨max n m,o3,fr3,A3,?_,f2.trans d2,f3.more⟩
     rw [(cY E (Nat.le_max_left n m)).code _ _ _ _ _ c1]
     rw [pE,hl]
     exact vM (cY E (Nat.le_max_right n m)) (fun q hq=>(cY E (Nat.le_max_right n m)).code _ _ _ _ _ hq) f1
theorem T6 (hE:SxEnv E) (hR:RecOk E rec_) {f:Nat} {c:Code} {sf:SF} {fr:Fr} {σ:Sg} {H:List St} {A:St} {T:N} {k:KO} (hf:FrRel σ sf fr) (h:qC E cfg rec_ f nt c sf σ.length H.length k=some T) (hw:wp E T σ H A Q) :
  ∃ n o fr' A',(big E n).code nt c fr A=some (outN o,fr',A')/\fr'.marks=fr.marks/\KGood E Q σ H (k o) fr' A':=by
 cases c <;> simp only [qC] at h <;> first
  | (exfalso;cases h;done)
  | skip
 case skip=>exact ⟨1,0,fr,A,rfl,rfl,.here hf h hw⟩
 case label l=>exact ⟨1,0,fr,A,rfl,rfl,.here hf h hw⟩
 case ret=>exact ⟨1,1,fr,A,rfl,rfl,.here hf h hw⟩
 case exit id =>
  split at h
  ·rename_i hb
   exact ⟨1,id+2,fr,A,by rw [dW,hb];rfl,rfl,.here hf h hw⟩
  ·cases h
 case goto l =>
  refine ⟨1,l+gotoB+2,fr,A,?_,rfl,.here hf h hw⟩
  have:Nat.blt (l+gotoB) gotoB=false:=by
   generalize gotoB=B
   cases hb:Nat.blt (l+B) B with
   | false=>rfl
   | true=>have:=Nat.le_of_ble_eq_true hb;omega
  rw [dW,this,Nat.add_sub_cancel]
  rfl
 case scope b =>
  obtain ⟨n,o,fr',A',c1,c2,c3⟩:=hR.code hf h hw
  obtain ⟨m,o2,fr2,A2,d1,d2,d3⟩:=T5 hR 4 c1 c3
  exact ⟨m+1,o2,fr2,A2,d1,d2.trans c2,d3⟩
 case seq a b =>
  obtain ⟨n,o,fr',A',c1,c2,c3⟩:=vc hR hf h hw
  exact ⟨n+1,o,fr',A',by rw [dV];simp only [a7];exact c1,c2,c3⟩
 case region i ops draw =>
  cases draw with
  | true =>
   simp only [if_true] at h
   obtain ⟨n,fr',A',c1,c2,c3⟩:=TX hE hR hf h hw
   exact ⟨n+1,0,fr',A',by rw [dV];simp only [a7,if_true];rw [c1];rfl,c2,c3⟩
  | false =>
   simp only [Bool.false_eq_true,if_false] at h
   obtain ⟨n,fr',A',c1,c2,c3⟩:=oq hE hR hf h hw
   exact ⟨n+1,0,fr',A',by rw [dV];simp only [a7,Bool.false_eq_true,if_false];exact c1,c2,c3⟩
 case cond c t e =>
  split at h
  ·rename_i hc
   obtain ⟨_,hv⟩:=aK hf hc
   obtain ⟨n,o,fr',A',c1,c2,c3⟩:=hR.code hf h hw
   exact ⟨n+1,o,fr',A',by rw [dV];simp only [a7,hv,X.den,At.den];exact c1,c2,c3⟩
  ·rename_i hc
   obtain ⟨_,hv⟩:=aK hf hc
   obtain ⟨n,o,fr',A',c1,c2,c3⟩:=hR.code hf h hw
   exact ⟨n+1,o,fr',A',by rw [dV];simp only [a7,hv,X.den,At.den];exact c1,c2,c3⟩
  ·rename_i j hc
   obtain ⟨_,hv⟩:=aK hf hc
   obtain ⟨ta,tb,h1,h2,rfl⟩:=gG h
   obtain ⟨tt,hj,hwt,hwf⟩:=hw
   have hj':look σ j=.bool tt:=hj
   have hv':aD fr c=.bool tt:=hv.trans hj'
   cases tt with
   | true =>
    obtain ⟨n,o,fr',A',c1,c2,c3⟩:=hR.code (hf.learn hj') h1 (hwt rfl)
    exact ⟨n+1,o,fr',A',by rw [dV];simp only [a7,hv'];exact c1,c2,c3⟩
   | false =>
    obtain ⟨n,o,fr',A',c1,c2,c3⟩:=hR.code (hf.learn hj') h2 (hwf rfl)
    exact ⟨n+1,o,fr',A',by rw [dV];simp only [a7,hv'];exact c1,c2,c3⟩
  ·cases h
 case block id b =>
  split at h
  case isFalse=>cases h
  rename_i hid
  obtain ⟨n,o,fr',A',c1,c2,c3⟩:=hR.code hf h hw
  refine ⟨n+1,if Nat.beq o (id+2) then 0 else o,fr',A',?_,c2,c3⟩
  rw [dV]
  simp only [a7]
  rw [c1]
  rcases o with _ | _ | o
  ·rfl
  ·rfl
  ·rw [dW]
   by_cases e:o=id
   ·subst e
    rw [hid]
    show some ((if o=o then Out.norm else Out.exit o),fr',A')=some (outN (if Nat.beq (o+2) (o+2)=true then 0 else o+2),fr',A')
    rw [if_pos rfl,Nat.beq_refl,if_pos rfl]
    rfl
   ·have:Nat.beq (o+2) (id+2)=false:=by
     cases hb:Nat.beq (o+2) (id+2) with
     | false=>rfl
     | true=>have:=Nat.eq_of_beq_eq_true hb;omega
    rw [this,if_neg (by decide)]
    cases hb:Nat.blt o gotoB with
    | true =>
     rw [dW,hb]
     show some ((if o=id then Out.norm else Out.exit o),fr',A')=some (Out.exit o,fr',A')
     rw [if_neg e]
    | false =>
     rw [dW,hb]
 case loop b =>
  split at h
  ·obtain ⟨n,o,fr',A',c1,c2,c3⟩:=vc hR hf h hw
   exact ⟨n+1,o,fr',A',by rw [dV];simp only [a7];exact c1,c2,c3⟩
  ·exact T4 hR hf h hw
theorem ve {σ:Sg}:∀ {args:List X} {i:Nat} {tm:T Value},(∀ x,x∈args->X.good σ x)->(∀ j,j < args.length->tm.get (i+j)=(denL σ args)[j]?) ->
  ∀ {t:Nat} {x:X},SF.get (jt i args) t=some x->x.good σ/\tm.get t=some (x.den σ)
 | [],i,tm,hg,ht,t,x,h=>by cases h
 | y::args,i,tm,hg,ht,t,x,h=>by
  simp only [jt,SF.get] at h
  split at h
  ·rename_i e
   cases h
   have:i=t:=Nat.eq_of_beq_eq_true e
   subst this
   have:=ht 0 (by simp)
   simp only [Nat.add_zero,denL,List.map_cons,List.getElem?_cons_zero] at this
   exact ⟨hg _ (List.mem_cons_self ..),this⟩
  ·refine ve (i:=i+1) (fun x hx=>hg x (List.mem_cons_of_mem _ hx)) (fun j hj=>?_) h
   have:=ht (j+1) (by simp;omega)
   rw [show i+1+j=i+(j+1) by omega,this]
   simp [denL]
theorem pF (hE:SxEnv E) {sf:SF} {fr:Fr} {A:St}:∀ {rs:List ResultVar} {σ:Sg} {H:List St} {T:N} {k:List X->Nat->Nat->Option N},FrRel σ sf fr->eA E sf rs σ.length H.length k=some T->wp E T σ H A Q ->
  ∃ vs τ xs T',rs.mapM (fun r=>match r with
   | .tmp t=>some ((fr.tm.get t).getD undef)
   | .cell a t=>match (fr.tm.get a).getD undef with
    | .pointer (some ad)=>dA E A t ad
    | _=>none)=some vs/\(∀ x,x∈xs->X.good (σ++τ) x)/\denL (σ++τ) xs=vs/\k xs (σ++τ).length H.length=some T'/\wp E T' (σ++τ) H A Q
 | [],σ,H,T,k,hf,h,hw=>⟨[],[],[],T,rfl,fun x hx=>by simp at hx,rfl,by simpa [eA] using h,by simpa using hw⟩
 | r :: rs,σ,H,T,k,hf,h,hw=>by
  cases r with
  | tmp t =>
   simp only [eA] at h
   split at h
   ·rename_i x hx
    obtain ⟨x1,x2⟩:=hf t x hx
    obtain ⟨vs,τ,xs,T',r1,r2,r3,r4,r5⟩:=pF hE hf h hw
    refine ⟨x.den σ::vs,τ,x::xs,T',?_,fun y hy=>?_,?_,r4,r5⟩
    ·simp only [List.mapM_cons,x2,Option.getD_some]
     rw [r1]
     rfl
    ·rcases List.mem_cons.1 hy with rfl | hy
     ·exact x1.append τ
     ·exact r2 y hy
    ·simp only [denL,List.map_cons] at r3 ⊢
     rw [r3,X.den_append τ x1.1]
   ·cases h
  | cell a t =>
   have go:∀ {r:R} {x:X},sf.get a=some x->nOp r [x] (eA E sf rs (σ.length+1) H.length fun xs nv' nh=>k (vn σ.length::xs) nv' nh)=some T ->
     (∀ v A',aB r [x.den σ] A=some (v,A')->A'=A/\∃ ad,x.den σ=.pointer (some ad)/\dA E A t ad=some v) ->
     ∃ vs τ xs T',(ResultVar.cell a t::rs).mapM (fun r=>match r with
      | .tmp t=>some ((fr.tm.get t).getD undef)
      | .cell a t=>match (fr.tm.get a).getD undef with
       | .pointer (some ad)=>dA E A t ad
       | _=>none)=some vs/\(∀ x,x∈xs->X.good (σ++τ) x)/\denL (σ++τ) xs=vs/\k xs (σ++τ).length H.length=some T'/\wp E T' (σ++τ) H A Q:=by
    intro r x hx h hsem
    obtain ⟨T1,h1,rfl⟩:=gF h
    obtain ⟨v,A',hs,hw'⟩:=hw
    obtain ⟨rfl,ad,hd,hld⟩:=hsem v A' hs
    obtain ⟨x1,x2⟩:=hf a x hx
    obtain ⟨vs,τ,xs,T',r1,r2,r3,r4,r5⟩:=pF hE (hf.append [v]) (by simpa using h1) hw'
    refine ⟨v::vs,v::τ,vn σ.length::xs,T',?_,fun y hy=>?_,?_,?_,?_⟩
    ·simp only [List.mapM_cons,x2,Option.getD_some,hd,hld]
     rw [r1]
     rfl
    ·rcases List.mem_cons.1 hy with rfl | hy
     ·exact mP (by simp)
     ·have:=r2 y hy
      rw [List.append_assoc] at this
      exact this
    ·rw [List.append_assoc] at r3
     simp only [denL,List.map_cons] at r3 ⊢
     have r3':List.map (fun x=>X.den (σ++v::τ) x) xs=vs:=r3
     rw [r3']
     show look (σ++v::τ) σ.length::vs=_
     rw [qE]
    ·rw [List.append_assoc] at r4;exact r4
    ·rw [List.append_assoc] at r5;exact r5
   simp only [eA] at h
   split at h
   ·rename_i x n hx ha hn
    refine go hx h fun v A' hs=>?_
    cases hd:x.den σ <;> rw [hd] at hs <;> first
     | (simp only [aB] at hs;cases hs;done)
     | skip
    rename_i p
    cases p with
    | none=>simp only [aB] at hs;cases hs
    | some ad =>
     simp only [aB] at hs
     split at hs
     ·rename_i vs hvs
      cases hs
      refine ⟨rfl,ad,rfl,?_⟩
      simp only [dA,ha,hn,hvs]
     ·cases hs
   ·rename_i x hx ha
    refine go hx h fun v A' hs=>?_
    cases hd:x.den σ <;> rw [hd] at hs <;> first
     | (simp only [aB] at hs;cases hs;done)
     | skip
    rename_i p
    cases p with
    | none=>simp only [aB] at hs;cases hs
    | some ad =>
     simp only [aB] at hs
     split at hs
     ·rename_i w hvs
      cases hs
      refine ⟨rfl,ad,rfl,?_⟩
      simp only [dA,ha,hvs]
     ·cases hs
   ·cases h
theorem T7 (hE:SxEnv E) (hR:RecOk E rec_) {f:Nat} {args:List X} {σ:Sg} {H:List St} {A:St} {T:N} {k:KX} (hg:∀ x,x∈args->X.good σ x) (h:qD E rec_ f args σ.length H.length k=some T) (hw:wp E T σ H A Q) :
  ∃ n v A',(big E n).call f (denL σ args) A=some (v,A')/\XGood E Q σ H k v A':=by
 unfold qD at h
 split at h
 ·cases h
 rename_i hkn
 split at h
 ·cases h
 rename_i fn hfn
 split at h
 ·cases h
 rename_i c hc
 split at h
 ·rename_i hlen
  have hf:FrRel σ (jt 0 args) { tm:=_root_.Go.AM.T.ofList (denL σ args),marks:=[] }:=by
   intro t x hx
   refine ve hg (fun j hj=>?_) hx
   rw [Nat.zero_add]
   exact _root_.Go.AM.T.get_ofList _ _
  obtain ⟨n,o,fr1,A1,c1,c2,⟨σ1,H1,sf1,T1,g1,g2,g3⟩⟩:=hR.code hf h hw
  have hm:fr1.marks=[]:=c2
  have fin:∀ {o:Out},(o=.norm\/o=.ret)->(big E n).code fn.ntmps c { tm:=_root_.Go.AM.T.ofList (denL σ args),marks:=[] } A=some (o,fr1,A1)->eA E sf1 fn.results.toList (σ++σ1).length (H++H1).length (w9 k)=some T1 ->
    ∃ n v A',(big E n).call f (denL σ args) A=some (v,A')/\XGood E Q σ H k v A':=by
   intro o ho c1 g2
   obtain ⟨vs,τ,xs,T2,r1,r2,r3,r4,r5⟩:=pF hE g1 g2 g3
   have hcall:∀ v,(match vs with | [v]=>some v | vs=>some (.tuple vs.toArray):Option Value)=some v->(big E (n+1)).call f (denL σ args) A=some (v,A1):=by
    intro v hv
    show Rec.call { code:=a7 E (big E n),callR:=callR E (big E n),callD:=callD E (big E n) } f (denL σ args) A=_
    rw [kV]
    unfold fj
    rw [TJ (Bool.eq_false_iff.2 hkn)]
    simp only
    rw [TI (Bool.eq_false_iff.2 hkn)]
    simp only
    have hres:ei E fn fr1 A1=some v:=by
     refine Eq.trans (b:=(fun z:Option (List Value)=>match z with
      | some [v]=>some v
      | some vs=>some (Value.tuple vs.toArray)
      | none=>none) (some vs)) (congrArg (fun z:Option (List Value)=>match z with
      | some [v]=>some v
      | some vs=>some (Value.tuple vs.toArray)
      | none=>none) r1) ?_
     match vs,hv with
     | [],hv=>exact hv
     | [_],hv=>exact hv
     | _::_::_,hv=>exact hv
    have hmo:kT o=some .ret:=by rcases ho with rfl | rfl <;> rfl
    have hl:cb E (big E n) f (denL σ args) A=some (fn,fr1,.ret,A1):=by
     unfold cb
     rw [hfn]
     simp only [hc]
     rw [if_pos (by simpa [denL] using hlen),c1]
     simp only [hmo,hm,leave]
    unfold jB
    rw [hl]
    simp only [hres]
   match xs,r2,r3,r4 with
   | [x],r2,r3,r4 =>
    have hv:vs=[x.den (σ++σ1++τ)]:=r3.symm
    refine ⟨n+1,x.den (σ++σ1++τ),A1,hcall _ (by rw [hv]),?_⟩
    refine ⟨σ1++τ,H1,x,T2,?_,?_,?_,?_⟩
    ·rw [<- List.append_assoc];exact r2 x (List.mem_singleton.2 rfl)
    ·rw [<- List.append_assoc]
    ·rw [<- List.append_assoc];exact r4
    ·rw [<- List.append_assoc];exact r5
   | [],r2,r3,r4 =>
    have hv:vs=[]:=r3.symm
    obtain ⟨T3,h3,rfl⟩:=gF r4
    obtain ⟨w,A2,hs,hw'⟩:=r5
    simp only [denL,List.map_nil,aB,Option.some.injEq,Prod.mk.injEq] at hs
    obtain ⟨rfl,rfl⟩:=hs
    refine ⟨n+1,_,A1,hcall _ (by rw [hv]),?_⟩
    have:=XGood.one (bZ (σ++σ1++τ) _).1 (bZ _ _).2 h3 hw'
    rw [List.append_assoc] at this
    exact XGood.more this
   | x::y::xs,r2,r3,r4 =>
    obtain ⟨T3,h3,rfl⟩:=gF r4
    obtain ⟨w,A2,hs,hw'⟩:=r5
    simp only [aB,Option.some.injEq,Prod.mk.injEq] at hs
    obtain ⟨rfl,rfl⟩:=hs
    rw [r3] at hw'
    refine ⟨n+1,.tuple vs.toArray,A1,hcall _ (by rw [<- r3];rfl),?_⟩
    have:=XGood.one (bZ (σ++σ1++τ) _).1 (bZ _ _).2 h3 hw'
    rw [List.append_assoc] at this
    exact XGood.more this
  match o,c1,g2 with
  | 0,c1,g2=>exact fin (.inl rfl) c1 g2
  | 1,c1,g2=>exact fin (.inr rfl) c1 g2
  | _+2,c1,g2=>cases g2
 ·cases h
theorem pG (hE:SxEnv E) (cfg:Cfg):∀ n,RecOk E (sx E cfg n)
 | 0=>{ code:=fun _ h _=>(by cases h),call:=fun _ h _=>(by cases h) }
 | n+1=>{ code:=fun hf h hw=>T6 hE (pG hE cfg n) hf h hw,call:=fun hg h hw=>T7 hE (pG hE cfg n) hg h hw }
theorem vf {x:X}:∀ {i n:Nat},x∈gN i n->∃ k,k < i+n/\x=vn k
 | i,0,h=>by simp [gN] at h
 | i,n+1,h=>by
  simp only [gN,List.mem_cons] at h
  rcases h with rfl | h
  ·exact ⟨i,by omega,rfl⟩
  ·obtain ⟨k,h1,h2⟩:=vf h
   exact ⟨k,by omega,h2⟩
theorem vg {σ:Sg}:∀ {τ:Sg} {i:Nat},(∀ j,j < τ.length->look σ (i+j)=look τ j)->denL σ (gN i τ.length)=τ
 | [],i,h=>rfl
 | v::τ,i,h=>by
  simp only [List.length_cons,gN,denL,List.map_cons]
  have h0:=h 0 (by simp)
  have ih:=vg (σ:=σ) (τ:=τ) (i:=i+1) (fun j hj=>by
   have:=h (j+1) (by simp;omega)
   rw [show i+1+j=i+(j+1) by omega,this]
   rfl)
  simp only [denL] at ih
  rw [ih]
  show look σ i::τ=_
  rw [show look σ i=v from h0]
theorem gH (hE:SxEnv E) {cfg:Cfg} {fuel f:Nat} {vs:List Value} {T:N} (h:aC E cfg fuel f vs.length=some T) {A:St} {Q:Value->St->Prop} (hw:wp E T vs [] A fun _ outs A'=>∀ v,outs=[v]->Q v A') :
  ∃ v A',cP E f vs A v A'/\Q v A':=by
 obtain ⟨n,v,A',h1,⟨σ',H',x,T',h2,h3,h4,h5⟩⟩:=(pG hE cfg fuel).call (σ:=vs) (H:=[]) (fun x hx=>by
  obtain ⟨k,hk,rfl⟩:=vf hx
  exact mP (by simpa using hk)) h hw
 cases h4
 have hv:=vg (σ:=vs) (τ:=vs) (i:=0) (fun j _=>by rw [Nat.zero_add])
 rw [hv] at h1
 exact ⟨v,A',⟨n,h1⟩,h5 v (by rw [<- h3];rfl)⟩
end
end Go.AM.SX
namespace Go.AM.SX
open Go
theorem SxEnv.of {E:Env} {P:Program} {nm:Nm} (ok:EnvOk E P nm) (hsl:E.sl=[]):SxEnv E where
 sl:=hsl
 und:=fun t d h=>by rw [ok.prog];exact ok.und h
theorem b6 {W:List Value->St->bd->Prop} {Q:bd} {n:Nat} {vs:List Value} {A:St}:fQ W Q (n+1) vs A=W vs A fun o outs A'=>match o with
  | 0=>fQ W Q n outs A'
  | o+1=>Q (o+1) outs A':=rfl
theorem pH {n:Int} (h0:0<=n) (h1:n<=9223372036854775807):aV .i64 n=n:=by
 unfold aV
 rw [if_pos ⟨by simp only [lo];omega,by simp only [hi];omega⟩]
theorem vj {W:List Value->St->bd->Prop} (hW:∀ vs A P R,(∀ o outs B,P o outs B->R o outs B)->W vs A P->W vs A R) {Q Q':bd} (hQ:∀ o outs B,Q o outs B->Q' o outs B):∀ (n:Nat) (vs:List Value) (A:St),fQ W Q n vs A->fQ W Q' n vs A
 | 0,_,_,h=>h
 | n+1,vs,A,h=>hW vs A _ _ (fun o outs B hp=>by
   cases o with
   | zero=>exact vj hW hQ n outs B hp
   | succ o=>exact hQ _ _ _ hp) h
theorem wp_mono {E:Env}:∀ (T:N) {σ:Sg} {H:List St} {A:St} {Q Q':bd},(∀ o outs B,Q o outs B->Q' o outs B)->wp E T σ H A Q->wp E T σ H A Q'
 | .bad,_,_,_,_,_,_,h=>h
 | .fin o xs,_,_,_,_,_,hq,h=>hq _ _ _ h
 | .op r xs k,_,_,_,_,_,hq,h=>let ⟨v,A',h1,h2⟩:=h;⟨v,A',h1,wp_mono k hq h2⟩
 | .opAt b off r xs k,_,_,_,_,_,hq,h=>let ⟨v,A',h1,h2⟩:=h;⟨v,A',h1,wp_mono k hq h2⟩
 | .br x a b,_,_,_,_,_,hq,h=>let ⟨t,h1,h2,h3⟩:=h;⟨t,h1,fun e=>wp_mono a hq (h2 e),fun e=>wp_mono b hq (h3 e)⟩
 | .call f xs k,_,_,_,_,_,hq,h=>let ⟨v,A',h1,h2⟩:=h;⟨v,A',h1,wp_mono k hq h2⟩
 | .callv f xs k,_,_,_,_,_,hq,h=>let ⟨g,fs,cs,v,A',h1,h2,h3,h4⟩:=h;⟨g,fs,cs,v,A',h1,h2,h3,wp_mono k hq h4⟩
 | .callm x name xs k,_,_,_,_,_,hq,h=>let ⟨g,as,v,A',h1,h2,h3⟩:=h;⟨g,as,v,A',h1,h2,wp_mono k hq h3⟩
 | .loop xs body k,σ,H,_,Q,Q',hq,h=>by
  obtain ⟨n,h1⟩:=h
  exact ⟨n,vj (W:=fun vs A Q'=>wp E body (σ++vs) H A Q') (Q:=fun o outs A'=>wp E k (σ++goInt o::outs) H A' Q) (Q':=fun o outs A'=>wp E k (σ++goInt o::outs) H A' Q')
   (fun _ _ _ _ hp hw=>wp_mono body hp hw) (fun _ _ _ hp=>wp_mono k hq hp) n _ _ h1⟩
 | .sw x c a b,_,_,_,_,_,hq,h=>⟨fun e=>wp_mono a hq (h.1 e),fun e=>wp_mono b hq (h.2 e)⟩
 | .bump n k,_,_,_,_,_,hq,h=>wp_mono k hq h
 | .save k,_,_,_,_,_,hq,h=>wp_mono k hq h
 | .self x k,_,_,_,_,_,hq,h=>⟨h.1,wp_mono k hq h.2⟩
 | .chk i r xs x k,_,_,_,_,_,hq,h=>⟨h.1,wp_mono k hq h.2⟩
def vk (A B:St):Prop:=A.next<=B.next/\(∀ b,b < A.next->B.h.get b=A.h.get b)/\B.g=A.g
theorem gI {α:Type} {t:T α}:∀ {l:List α} {off:Nat},(∀ i,i < l.length->t.get (off+i)=l[i]?)->t.range off l.length=some l
 | [],_,_=>rfl
 | x::l,off,h=>by
  have h0:=h 0 (by simp)
  simp only [Nat.add_zero,List.getElem?_cons_zero] at h0
  have ih:=gI (t:=t) (l:=l) (off:=off+1) (fun i hi=>by
   have:=h (i+1) (by simp;omega)
   rw [show off+1+i=off+(i+1) by omega,this]
   simp)
  simp only [List.length_cons,T.range,h0,ih]
theorem T8 {s:Nat}:∀ (n m:Nat) (v:Value),aU n v=true->aw s m v=v:=by
 intro n
 induction n with
 | zero =>
  intro m v h
  cases v <;> first
   | (cases m <;> rfl)
   | (rename_i p;cases p <;> first
     | (cases m <;> rfl)
     | (cases h;done))
   | (rename_i p _ _;cases p <;> first
     | (cases m <;> rfl)
     | (cases h;done))
   | (cases h;done)
 | succ n ih =>
  have arr:∀ (m:Nat) (a:Array Value),a.toList.all (aU n)=true->a.map (aw s m)=a:=by
   intro m a ha
   apply Array.ext'
   rw [Array.toList_map]
   conv=>rhs;rw [<- List.map_id a.toList]
   exact List.map_congr_left fun x hx=>ih m x (List.all_eq_true.1 ha x hx)
  intro m v h
  cases m with
  | zero=>cases v <;> first
   | rfl
   | (rename_i p;cases p <;> first
     | rfl
     | (cases h;done))
   | (rename_i p _ _;cases p <;> first
     | rfl
     | (cases h;done))
  | succ m =>
   cases v with
   | iface t v=>show Value.iface t (aw s m v)=_;rw [ih m v h]
   | agg a=>show Value.agg (a.map (aw s m))=_;rw [arr m a h]
   | tuple a=>show Value.tuple (a.map (aw s m))=_;rw [arr m a h]
   | func f a c =>
    simp only [aU,Bool.and_eq_true] at h
    show Value.func (qh s f) (a.map (aw s m)) (c.map (aw s m))=_
    rw [arr m a h.1.2,arr m c h.2]
    cases f <;> first
     | rfl
     | (simp at h)
   | pointer p=>cases p <;> first
     | rfl
     | (cases h;done)
   | slice p _ _=>cases p <;> first
     | rfl
     | (cases h;done)
   | map p=>cases p <;> first
     | rfl
     | (cases h;done)
   | _=>rfl
theorem T9 (A:St) (k:Known):vk A { A with next:=A.next+k.cnt,h:=dQ A.next A.h k.objs } :=
 ⟨Nat.le_add_right _ _,fun _ hb=>mD hb,rfl⟩
theorem Ta {E:Env} {f:FuncId} {as:List Value} {A:St} {k:Known} (hk:knw E f as=some k) (hl:(k.looks.all fun r=>Nat.blt r.g E.ng&&bX A r)=true) (hp:aH k.v=true) :
  ∃ B,cP E f as A k.v B/\vk A B:=by
 refine ⟨_,?_,T9 A k⟩
 have:=TL hk hl
 rw [T8 40 8 k.v hp] at this
 exact this
section
variable {E:Env} {σ:Sg} {H:List St} {A:St} {Q:bd} {k a b:N} {xs:List X}
theorem aE {r:R} {v:Value} {A':St} (h:aB r (denL σ xs) A=some (v,A')) (hk:wp E k (σ++[v]) H A' Q):wp E (.op r xs k) σ H A Q:=⟨v,A',h,hk⟩
theorem cN {x:X} (h:x.den σ=.bool true) (hk:wp E a σ H A Q):wp E (.br x a b) σ H A Q:=⟨true,h,fun _=>hk,fun e=>(by cases e)⟩
theorem bx {x:X} (h:x.den σ=.bool false) (hk:wp E b σ H A Q):wp E (.br x a b) σ H A Q:=⟨false,h,fun e=>(by cases e),fun _=>hk⟩
theorem aj {o:Nat} (h:Q o (denL σ xs) A):wp E (.fin o xs) σ H A Q:=h
end
end Go.AM.SX
namespace Go.AM.PV
open Go Go.AM Go.AM.SX
inductive P where
 | c (x:Value)
 | ifc (t:TypeId) (p:P)
 | agg (l:List P)
 | tup (l:List P)
 | sl (sz n:Nat) (l:List P)
 | fx (sz n:Nat) (l:List P)
 | ow (e:TypeId) (sz n:Nat) (l:List P)
 | ip (l:List P) (off:Nat)
 | lit (l:List P)
 | lp (i off:Nat)
 | ms (i off n c:Nat)
 | fn (f:FuncId) (cs:List P)
 | any
 deriving Inhabited
inductive Ob where
 | cells (l:List P)
 | sit (s:ByteArray) (pos:Nat)
abbrev Mu:=List Ob
def Rdc (h:T AObj) (sz:Nat) (a:Addr) (vs:List Value):Prop :=
 a.spot=none/\∃ r,h.get a.block=some (.row r)/\(r.opn=true->r.esz=sz)/\a.off+vs.length<=r.size/\vs.all one=true/\∀ i,i < vs.length->r.cells.get (a.off+i)=vs[i]?
def Rdx (h:T AObj) (a:Addr) (vs:List Value):Prop :=
 a.spot=none/\∃ r,h.get a.block=some (.row r)/\r.opn=false/\a.off+vs.length<=r.size/\vs.all one=true/\∀ i,i < vs.length->r.cells.get (a.off+i)=vs[i]?
mutual
inductive Rep (β:List Nat) (S:Nat->Prop) (h:T AObj):Value->P->Prop where
 | c (x:Value):Rep β S h x (.c x)
 | ifc (t:TypeId) (v:Value) (p:P):Rep β S h v p->Rep β S h (.iface t v) (.ifc t p)
 | agg (vs:List Value) (ps:List P):RepL β S h vs ps->Rep β S h (.agg vs.toArray) (.agg ps)
 | tup (vs:List Value) (ps:List P):RepL β S h vs ps->Rep β S h (.tuple vs.toArray) (.tup ps)
 | nil (sz:Nat):Rep β S h (.slice none 0 0) (.sl sz 0 [])
 | sl (a:Addr) (sz n c:Nat) (vs:List Value) (ps:List P):S a.block->Rdc h sz a vs->vs.length=n * sz->n<=c->RepL β S h vs ps->Rep β S h (.slice (some a) n c) (.sl sz n ps)
 | fx (a:Addr) (sz n:Nat) (vs:List Value) (ps:List P):S a.block->Rdx h a vs->vs.length=n * sz->RepL β S h vs ps->Rep β S h (.slice (some a) n n) (.fx sz n ps)
 | ip (a:Addr) (sz off:Nat) (vs:List Value) (ps:List P):S a.block->Rdc h sz a vs->RepL β S h vs ps->Rep β S h (.pointer (some (aJ a off))) (.ip ps off)
 | lit (a:Addr) (vs:List Value) (ps:List P):S a.block->Rdx h a vs->RepL β S h vs ps->Rep β S h (.pointer (some a)) (.lit ps)
 | lp (i b off:Nat):β[i]? = some b->Rep β S h (.pointer (some ⟨b,off,none⟩)) (.lp i off)
 | ms (i b off n c:Nat):β[i]? = some b->Rep β S h (.slice (some ⟨b,off,none⟩) n c) (.ms i off n c)
 | fn (f:FuncId) (vs:List Value) (ps:List P):RepL β S h vs ps->Rep β S h (.func (.func f) #[] vs.toArray) (.fn f ps)
 | any (v:Value):one v=true->Rep β S h v .any
inductive RepL (β:List Nat) (S:Nat->Prop) (h:T AObj):List Value->List P->Prop where
 | nil:RepL β S h [] []
 | cons (v:Value) (p:P) (vs:List Value) (ps:List P):Rep β S h v p->RepL β S h vs ps->RepL β S h (v::vs) (p::ps)
end
inductive OwnR (β:List Nat) (S:Nat->Prop) (A:St):Value->TypeId->Nat->Nat->List P->List Nat->Prop where
 | nil (e:TypeId) (sz:Nat):OwnR β S A (.slice none 0 0) e sz 0 [] []
 | fx (a:Addr) (e:TypeId) (sz n:Nat) (vs:List Value) (ps:List P):S a.block->Rdx A.h a vs->vs.length=n * sz->RepL β S A.h vs ps->OwnR β S A (.slice (some a) n n) e sz n ps []
 | ow (b:Nat) (r:Row) (e:TypeId) (sz n:Nat) (vs:List Value) (ps:List P):r.elem=e->r.esz=sz->S b->A.h.get b=some (.row r)->r.own=true->r.opn=true->r.size=vs.length->r.frz<=r.size->vs.all one=true->(∀ i,i < vs.length->r.cells.get i=vs[i]?) ->
   vs.length=n * sz->RepL β S A.h vs ps->r.grp < A.next->(A.g.get r.grp=none\/∃ ms,A.g.get r.grp=some (b::ms))->OwnR β S A (.slice (some ⟨b,0,none⟩) n n) e sz n ps [r.grp]
def RepT (β:List Nat) (S:Nat->Prop) (A:St) (v:Value) (p:P) (g:List Nat):Prop :=
 match p with
 | .ow e sz n l=>OwnR β S A v e sz n l g
 | p=>Rep β S A.h v p/\g=[]
inductive RepO (β:List Nat) (S:Nat->Prop) (A:St):List Value->List P->List Nat->Prop where
 | nil:RepO β S A [] [] []
 | cons (v:Value) (p:P) (g:List Nat) (vs:List Value) (ps:List P) (gs:List Nat):RepT β S A v p g->RepO β S A vs ps gs->RepO β S A (v::vs) (p::ps) (g++gs)
structure Cel (A:St) (b:Nat) (vs:List Value) (r:Row):Prop where
 at_:A.h.get b=some (.row r)
 own:r.own=true
 opn:r.opn=true->r.esz=1
 size:r.size=vs.length
 frz:r.frz=0
 ones:vs.all one=true
 cells:∀ i,i < vs.length->r.cells.get i=vs[i]?
 gnone:A.g.get r.grp=none
 glt:r.grp < A.next
inductive MemR (β:List Nat) (S:Nat->Prop) (A:St):List Nat->Mu->List Nat->Prop where
 | nil:MemR β S A [] [] []
 | cons (b:Nat) (r:Row) (vs:List Value) (l:List P) (g:List Nat) (bs:List Nat) (ls:Mu) (gs:List Nat):Cel A b vs r->RepO β S A vs l g->MemR β S A bs ls gs->MemR β S A (b::bs) (.cells l::ls) ((r.grp::g)++gs)
 | sit (b:Nat) (s:ByteArray) (pos:Nat) (bs:List Nat) (ls:Mu) (gs:List Nat):A.h.get b=some (.siter s pos)->MemR β S A bs ls gs->MemR β S A (b::bs) (.sit s pos::ls) gs
abbrev Rv:=Option (Nat×Nat×List Nat)
def ak (σ:Sg) (rv:Rv) (b:Nat):Prop :=
 match rv with
 | none=>False
 | some (k,n,us)=>∃ j,j < n/\j ∉ us/\b=c7 (SX.look σ k)+j
structure RS (gl:List GRow) (A:St) (β:List Nat) (S F:Nat->Prop) (σ:Sg) (ps:List P) (gs:List Nat) (μ:Mu) (gm:List Nat):Prop where
 S_lt:∀ b,S b->b < A.next
 β_lt:∀ b,b∈β->b < A.next
 F_lt:∀ b,F b->b < A.next
 β_S:∀ b,b∈β->¬ S b
 F_S:∀ b,F b->¬ S b
 F_β:∀ b,F b->b ∉ β
 F_g:∀ b,F b->A.g.get b=none/\b ∉ gs++gm
 β_nd:β.Nodup
 ginv:∀ k,A.next<=k->A.g.get k=none
 glob:∀ r,r∈gl->S r.g/\bX A r=true
 vars:RepO β S A σ ps gs
 objs:MemR β S A β μ gm
 nd:(gs++gm).Nodup
def noF:Nat->Prop:=fun _=>False
structure KeepX (M G:Nat->Prop) (A B:St):Prop where
 next:A.next<=B.next
 heap:∀ b,b < A.next->¬ M b->B.h.get b=A.h.get b
 grps:∀ k,k < A.next->¬ G k->B.g.get k=A.g.get k
structure Ext (m:Nat) (A:St) (β:List Nat) (S F:Nat->Prop) (gs gm:List Nat) (B:St) (β':List Nat) (S':Nat->Prop) (gs' gm':List Nat):Prop where
 keep:KeepX (fun b=>b∈β\/F b) (fun k=>k∈gs++gm\/F k) A B
 objs:∀ i,i < m->β'[i]? = β[i]?
 newβ:∀ b,b∈β'->b∈β\/A.next<=b\/F b
 oldS:∀ b,S b->S' b
 newS:∀ b,S' b->S b\/A.next<=b\/F b
 newg:∀ k,k∈gs'++gm'->k∈gs++gm\/A.next<=k\/F k
def PR (E:Env) (gl:List GRow) (f:FuncId) (ps:List P) (μ:Mu) (r:P) (μ':Mu):Prop :=
 ∀ (A:St) (β:List Nat) (S:Nat->Prop) (vs:List Value) (gs gm:List Nat),RS gl A β S noF vs ps gs μ gm ->
  ∃ v B β' S' gs' gm',cP E f vs A v B/\Ext μ.length A β S noF gs gm B β' S' gs' gm'/\RS gl B β' S' noF [v] [r] gs' μ' gm'
def fz:P->P
 | .ow _ sz n l=>.sl sz n l
 | p=>p
def fJ:List P->Option (List UInt8)
 | []=>some []
 | .c (.int .u8 b)::l=>match fJ l with
  | some bs=>some (UInt8.ofNat b.toNat::bs)
  | none=>none
 | _::_=>none
def st0:St:={ next:=0,h:=.nil,g:=.nil }
def iI:R->Bool
 | .idStr | .bin _ | .eqn _ _ | .beq _ | .not | .neg | .conv _ | .runeStr | .nilc | .fld _ | .field _ _ | .idxA _ | .idxP _ _ | .idxS | .lenL | .lenS | .subS _ _ | .ext _ | .ta _ _ _ | .mm _=>true
 | _=>false
def unc:List P->Option (List Value)
 | []=>some []
 | .c x::l=>match unc l with
  | some xs=>some (x::xs)
  | none=>none
 | _::_=>none
def bc (r:R) (ps:List P):Option P :=
 if iI r then match unc ps with
  | some vs=>match aB r vs st0 with
   | some (v,_)=>some (.c v)
   | none=>none
  | none=>none
 else none
def du:Value->List Value
 | .agg cs=>cs.toList
 | v=>[v]
def aX:P->List P
 | .agg l=>l
 | .c v=>(du v).map .c
 | p=>[p]
def cZ:List P->Nat->List P->List P
 | l,_,[]=>l
 | l,off,c::cs=>cZ (l.set off c) (off+1) cs
def dK:List (Nat×Nat)->List P->List P->Option (List P)
 | [],[],l=>some l
 | (off,size)::pl,p::ps,l=>if (aX p).length=size/\off+size<=l.length then dK pl ps (cZ l off (aX p)) else none
 | _,_,_=>none
def eS (p:Option P) (hi dflt:Nat):Option Nat :=
 match p with
 | none=>some dflt
 | some (.c v)=>bound v hi
 | some _=>none
def eT (sz:Nat) (lo hi:Bool) (vs:List P) (sz' n:Nat) (l:List P):Option P :=
 let lo':=if lo then vs.head? else none
 let vs1:=if lo then vs.tail else vs
 let hi':=if hi then vs1.head? else none
 if sz'=sz then match eS hi' n n with
  | some h=>match eS lo' h 0 with
   | some k=>some (.sl sz (h - k) ((l.drop (k * sz)).take ((h - k) * sz)))
   | none=>none
  | none=>none
 else none
def notNil:P->Bool
 | .ifc _ _ | .fx _ _ _ | .ip _ _ | .lit _ | .lp _ _ | .ms _ _ _ _ | .fn _ _=>true
 | .sl _ n _=>Nat.blt 0 n
 | _=>false
def pI:TypeDesc->P->P->Bool
 | .pointer _,.ip _ _,.c (.pointer none) | .pointer _,.lit _,.c (.pointer none) | .pointer _,.lp _ _,.c (.pointer none)=>true
 | .slice _,.fx _ _ _,.c (.slice none _ _) | .slice _,.ms _ _ _ _,.c (.slice none _ _)=>true
 | .slice _,.sl _ n _,.c (.slice none _ _)=>Nat.blt 0 n
 | .interface _,.ifc _ _,.c .nilIface=>true
 | .func _ _ _,.fn _ _,.c .nilFunc=>true
 | _,_,_=>false
def aS (r:R) (ps:List P):Option P :=
 match bc r ps with
 | some p=>some p
 | none=>match r,ps with
  | .ext i,[.tup l]=>l[i]?
  | .field off none,[.agg l]=>l[off]?
  | .field off (some n),[.agg l]=>some (.agg ((l.drop off).take n))
  | .build z pl,ps=>match dK pl ps (z.map .c) with
   | some l=>some (.agg l)
   | none=>none
  | .tup,ps=>some (.tup ps)
  | .ta t z ok,[.ifc ty p]=>if ty=t then some (if ok then .tup [p,.c (.bool true)] else p) else if ok then some (.tup [.c z,.c (.bool false)]) else none
  | .nilc,[p]=>if notNil p then some p else none
  | .eqn d neg,[p,q]=>if pI d p q then some (.c (.bool neg)) else none
  | .lenL,[.sl _ n _] | .lenL,[.fx _ n _] | .lenL,[.ms _ _ n _]=>some (.c (goInt n))
  | .idxA s,[.sl sz n l,.c (.int _ i)]=>if sz=s/\0<=i/\i < (n:Int) then some (.ip l (i.toNat * s)) else none
  | .idxA s,[.fx sz n l,.c (.int _ i)]=>if sz=s/\0<=i/\i < (n:Int) then some (.ip l (i.toNat * s)) else none
  | .idxA s,[.ms k off n _,.c (.int _ i)]=>if 0<=i/\i < (n:Int) then some (.lp k (off+i.toNat * s)) else none
  | .idxP len s,[.lp k off,.c (.int _ i)]=>if 0<=i/\i < (len:Int) then some (.lp k (off+i.toNat * s)) else none
  | .idxP len s,[.ip l off,.c (.int _ i)]=>if 0<=i/\i < (len:Int) then some (.ip l (off+i.toNat * s)) else none
  | .fld off,[.ip l o]=>some (.ip l (o+off))
  | .fld off,[.lit l]=>some (.ip l off)
  | .fld off,[.lp i o]=>some (.lp i (o+off))
  | .load none,[.ip l off]=>l[off]?
  | .load (some n),[.ip l off]=>if off+n<=l.length then some (.agg ((l.drop off).take n)) else none
  | .load none,[.lit l]=>l[0]?
  | .load (some n),[.lit l]=>if n<=l.length then some (.agg (l.take n)) else none
  | .subL sz lo hi false,.sl sz' n l::vs=>eT sz lo hi vs sz' n l
  | .subL sz lo hi false,.fx sz' n l::vs=>eT sz lo hi vs sz' n l
  | .toStr,[.sl 1 n l]=>if l.length=n then match fJ l with
   | some bs=>some (.c (mkStr bs))
   | none=>none
   else none
  | _,_=>none
def bG (ps:List P):At->P
 | .v x=>.c x
 | .n k=>ps.getD k (.c undef)
def bT (ps:List P):X->Option P
 | .at a=>some (bG ps a)
 | .ifc t a=>some (.ifc t (fz (bG ps a)))
 | .fn f cs=>some (.fn f (cs.map fun a=>fz (bG ps a)))
 | .sl a len=>match bG ps a with
  | .lit l=>if l.length=len * (if len=0 then 1 else l.length / len) then some (.fx (if len=0 then 1 else l.length / len) len l) else none
  | _=>none
def denF (ps:List P):List X->Option (List P)
 | []=>some []
 | x::xs=>match bT ps x,denF ps xs with
  | some p,some l=>some (fz p::l)
  | _,_=>none
def iJ (ps:List P):X->Option (P×List P)
 | .at (.n k)=>some (ps.getD k (.c undef),ps.set k (fz (ps.getD k (.c undef))))
 | x=>match bT ps x with
  | some p=>some (fz p,ps)
  | none=>none
def takeL (ps:List P):List X->Option (List P×List P)
 | []=>some ([],ps)
 | x::xs=>match iJ ps x with
  | some (p,ps1)=>match takeL ps1 xs with
   | some (l,ps2)=>some (p::l,ps2)
   | none=>none
  | none=>none
def bz:P->Bool
 | .agg _ | .tup _=>false
 | .c x=>one x
 | _=>true
structure Lg where
 vp:List (Nat×P)
 mu:Mu
 dy:Bool
 en:List (R×List X×Nat)
def lkV:List (Nat×P)->Nat->Option P
 | [],_=>none
 | (j,p)::l,k=>if Nat.beq j k then some p else lkV l k
def lgA (lg:Lg):At->Option P
 | .v x=>some (.c x)
 | .n k=>lkV lg.vp k
def lgX (lg:Lg):X->Option P
 | .at a=>lgA lg a
 | _=>none
def lgL (lg:Lg):List X->Option (List P)
 | []=>some []
 | x::xs=>match lgX lg x,lgL lg xs with
  | some p,some l=>some (p::l)
  | _,_=>none
def cA (μ:Mu) (n:Option Nat) (i off:Nat):Option P :=
 match μ[i]? with
 | some (.cells l)=>match n with
  | none=>l[off]?
  | some n=>if off+n<=l.length then some (.agg (((l.drop off).take n).map fz)) else none
 | _=>none
def Tb (lg:Lg) (r:R) (ps:List P):Option P :=
 match r,ps with
 | .load n,[.lp i off]=>if lg.dy then none else cA lg.mu n i off
 | r,ps=>aS r ps
def Tc (r:R) (xs:List X) (k:Nat) (lg:Lg):Lg :=
 match lgL lg xs with
 | some ps=>match Tb lg r ps with
  | some p=>{ lg with vp:=(k,fz p)::lg.vp,en:=(r,xs,k)::lg.en }
  | none=>lg
 | none=>lg
def note (r:R) (xs:List X) (k:Nat) (L:List Lg):List Lg:=L.map (Tc r xs k)
def dirty (L:List Lg):List Lg:=L.map fun lg=>{ lg with dy:=true }
def Ob.fz:Ob->Ob
 | .cells l=>.cells (l.map PV.fz)
 | o=>o
def Td (ps:List P) (μ:Mu):Lg:={ vp:=(ps.zipIdx).map fun (p,k)=>(k,fz p),mu:=μ.map Ob.fz,dy:=false,en:=[] }
def vo (L:List Lg):List Lg:=L.map fun _=>{ vp:=[],mu:=[],dy:=true,en:=[] }
def shal:Nat->P->Bool
 | _,.c (.int _ _) | _,.c (.bool _) | _,.c (.string _) | _,.c (.pointer _) | _,.c (.slice _ _ _) | _,.c .nilIface | _,.c .nilFunc=>true
 | _,.sl _ _ _ | _,.fx _ _ _ | _,.ow _ _ _ _ | _,.ip _ _ | _,.lit _ | _,.lp _ _ | _,.ms _ _ _ _=>true
 | n+1,.ifc _ p=>shal n p
 | n+1,.agg l=>l.all (shal n)
 | n+1,.tup l=>l.all (shal n)
 | n+1,.fn _ l=>l.all (shal n)
 | n+1,.c x=>aH x&&aU (n+1) x
 | _,_=>false
def okm (m:Nat):P->Bool
 | .lp i _ | .ms i _ _ _=>Nat.blt i m
 | .ifc _ p=>okm m p
 | .agg l | .tup l | .sl _ _ l | .fx _ _ l | .ow _ _ _ l | .ip l _ | .lit l | .fn _ l=>okL m l
 | .c _ | .any=>true
where okL (m:Nat):List P->Bool
 | []=>true
 | p::l=>okm m p&&okL m l
def Ob.ok (m:Nat):Ob->Bool
 | .cells l=>okm.okL m l
 | .sit _ _=>true
def okM (m:Nat) (μ:Mu):Bool:=μ.all (Ob.ok m)
mutual
inductive Wk:P->P->Prop where
 | refl (p:P):Wk p p
 | nil (sz:Nat):Wk (.c (.slice none 0 0)) (.sl sz 0 [])
 | fx (sz n:Nat) (l:List P):Wk (.fx sz n l) (.sl sz n l)
 | agg (l m:List P):WkL l m->Wk (.agg l) (.agg m)
 | tup (l m:List P):WkL l m->Wk (.tup l) (.tup m)
 | ifc (t:TypeId) (p q:P):Wk p q->Wk (.ifc t p) (.ifc t q)
 | any (v:Value):one v=true->Wk (.c v) .any
inductive WkL:List P->List P->Prop where
 | nil:WkL [] []
 | cons (p q:P) (l m:List P):Wk p q->WkL l m->WkL (p::l) (q::m)
end
inductive Le:P->P->Prop where
 | refl (p:P):Le p p
 | nilow (e:TypeId) (sz:Nat):Le (.c (.slice none 0 0)) (.ow e sz 0 [])
 | fxow (e:TypeId) (sz n:Nat) (l:List P):Le (.fx sz n l) (.ow e sz n l)
 | nilsl (sz:Nat):Le (.c (.slice none 0 0)) (.sl sz 0 [])
 | fxsl (sz n:Nat) (l:List P):Le (.fx sz n l) (.sl sz n l)
 | owsl (e:TypeId) (sz n:Nat) (l:List P):Le (.ow e sz n l) (.sl sz n l)
 | wk (p q:P):Wk p q->Le p q
inductive LeL:List P->List P->Prop where
 | nil:LeL [] []
 | cons (p q:P) (ps qs:List P):Le p q->LeL ps qs->LeL (p::ps) (q::qs)
def iK (sz:Nat):P->Option (Nat×List P)
 | .sl s n l=>if s=sz then some (n,l) else none
 | .fx s n l=>if s=sz then some (n,l) else none
 | .c (.slice none 0 _)=>some (0,[])
 | .c (.string s)=>if sz=1 then some (s.size,s.data.toList.map fun b=>.c (.int .u8 b.toNat)) else none
 | _=>none
def pJ (e:TypeId) (sz:Nat):P->Option (Nat×List P)
 | .c (.slice none 0 0)=>some (0,[])
 | .ow e' s n l=>if e'=e/\s=sz then some (n,l) else none
 | .fx s n l=>if s=sz then some (n,l) else none
 | _=>none
def iL (e:TypeId) (i:TypeInfo) (z:Value) (p q:P):Option P :=
 match pJ e i.size p,iK i.size q with
 | some (n,l),some (n',l') =>
  if i.size≠0/\z.cells.size=i.size/\(n+n') * i.bytes<=140737488355328/\n+n'<=4611686018427387904 then some (.ow e i.size (n+n') (l++l')) else none
 | _,_=>none
abbrev aW:=Nat->List P->Mu->Prop
def aQ (W:List P->Mu->aW->Prop) (Q:aW):Nat->List P->Mu->Prop
 | 0,_,_=>False
 | n+1,vs,μ=>W vs μ fun o outs μ'=>match o with
  | 0=>aQ W Q n outs μ'
  | o+1=>Q (o+1) outs μ'
def bH (r:R) (ps:List P) (μ:Mu):Option (P×Mu) :=
 match r,ps with
 | .alloc _ z,[]=>if z.all one then some (.lp μ.length 0,μ++[.cells (z.map .c)]) else none
 | .box _,[p]=>if (aX p).all bz then some (.lp μ.length 0,μ++[.cells (aX p)]) else none
 | .newSl _ z pl,ps=>match dK pl ps (z.map .c) with
  | some l=>if l.all bz then some (.lit l,μ) else none
  | none=>none
 | .mkSl _ z bytes,[.c (.int _ ln),.c (.int _ cp)] =>
  if 0<=ln/\ln<=cp/\cp * bytes<=140737488355328/\cp<=4294967296/\z.all one=true then some (.ms μ.length 0 ln.toNat cp.toNat,μ++[.cells ((zeros z cp.toNat).map .c)]) else none
 | _,_=>none
def lY:P->Option Nat
 | .c v=>some (c7 v)
 | _=>none
section
variable (E:Env) (gl:List GRow)
def pw:N->Nat->Rv->List P->Mu->List Lg->aW->Prop
 | .bad,_,_,_,_,_,_=>False
 | .fin o xs,m,_,ps,μ,_,Q=>∃ as ps' outs,takeL ps xs=some (as,ps')/\LeL as outs/\(Q o outs μ\/∃ k,m<=k/\okm.okL k outs=true/\okM k (μ.take k)=true/\Q o outs (μ.take k))
 | .op r xs k,m,rv,ps,μ,L,Q =>
  match r with
  | .store n=>∃ i off p ps' l,takeL ps xs=some ([.lp i off,p],ps')/\μ[i]? = some (.cells l)/\(aX p).length=n/\(aX p).all bz=true/\off+n<=l.length/\pw k m rv (ps'++[.c undef]) (μ.set i (.cells (cZ l off (aX p)))) (dirty L) Q
  | .app e i z=>∃ p q ps' a,takeL ps xs=some ([p,q],ps')/\iL e i z p (fz q)=some a/\pw k m rv (ps'++[a]) μ L Q
  | .load n=>(∃ as p,denF ps xs=some as/\aS (.load n) as=some p/\pw k m rv (ps++[p]) μ (note (.load n) xs ps.length L) Q) \/
    (∃ i off p,denF ps xs=some [.lp i off]/\cA μ n i off=some p/\pw k m rv (ps++[fz p]) μ (note (.load n) xs ps.length L) Q) \/
    (∃ i off l p,n=none/\denF ps xs=some [.lp i off]/\μ[i]? = some (.cells l)/\l[off]? = some p/\pw k m rv (ps++[p]) (μ.set i (.cells (l.set off (fz p)))) (note (.load n) xs ps.length L) Q)
  | .alloc t z=>∃ as p μ',denF ps xs=some as/\bH (.alloc t z) as μ=some (p,μ')/\pw k m rv (ps++[p]) μ' L Q
  | .box t=>∃ as p μ',denF ps xs=some as/\bH (.box t) as μ=some (p,μ')/\pw k m rv (ps++[p]) μ' L Q
  | .newSl t z pl=>∃ as p μ',denF ps xs=some as/\bH (.newSl t z pl) as μ=some (p,μ')/\pw k m rv (ps++[p]) μ' L Q
  | .mkSl t z b=>∃ as p μ',denF ps xs=some as/\bH (.mkSl t z b) as μ=some (p,μ')/\pw k m rv (ps++[p]) μ' L Q
  | .toBytes _=>∃ s,denF ps xs=some [.c (.string s)]/\pw k m rv (ps++[.sl 1 s.size (s.data.toList.map fun b=>.c (.int .u8 b.toNat))]) μ L Q
  | .range str=>∃ s,str=true/\denF ps xs=some [.c (.string s)]/\pw k m rv (ps++[.lp μ.length 0]) (μ++[.sit s 0]) L Q
  | .next str=>∃ i s pos,str=true/\denF ps xs=some [.lp i 0]/\μ[i]? = some (.sit s pos) /\
    (pos < s.size->pw k m rv (ps++[.tup [.c (.bool true),.c (goInt pos),.c (.int .i32 (Utf8.decode s pos).1)]]) (μ.set i (.sit s (pos+(Utf8.decode s pos).2))) (dirty L) Q) /\
    (s.size<=pos->pw k m rv (ps++[.tup [.c (.bool false)]]) μ (dirty L) Q)
  | r=>∃ as p,denF ps xs=some as/\aS r as=some p/\pw k m rv (ps++[p]) μ (note r xs ps.length L) Q
 | .opAt b off r xs k,m,rv,ps,μ,L,Q=>∃ n us as p μ',rv=some (b,n,us)/\off < n/\off ∉ us/\denF ps xs=some as/\bH r as μ=some (p,μ')/\pw k m (some (b,n,off::us)) (ps++[p]) μ' L Q
 | .br x a b,m,rv,ps,μ,L,Q=>∃ t,denF ps [x]=some [.c (.bool t)]/\(t=true->pw a m rv ps μ L Q)/\(t=false->pw b m rv ps μ L Q)
 | .call f xs k,m,rv,ps,μ,L,Q =>
  (∃ as r μ',denF ps xs=some as/\PR E gl f as μ r μ'/\μ.length<=μ'.length/\pw k m rv (ps++[r]) μ' (dirty L) Q) \/
  (∃ as ps' r μ',takeL ps xs=some (as,ps')/\PR E gl f as μ r μ'/\μ.length<=μ'.length/\pw k m rv (ps'++[r]) μ' (dirty L) Q)
 | .callv f xs k,m,rv,ps,μ,L,Q=>∃ g cs as r μ',denF ps [f]=some [.fn g cs]/\(∃ fn,E.fn.get g=some fn/\fn.body.isSome=true)/\denF ps xs=some as/\PR E gl g (as++cs) μ r μ'/\μ.length<=μ'.length/\pw k m rv (ps++[r]) μ' (dirty L) Q
 | .callm x name xs k,m,rv,ps,μ,L,Q=>∃ t p g as r μ',denF ps [x]=some [.ifc t p]/\(∀ A v ws,fe E A (.iface t v) name ws=some (.enter g (v::ws),A))/\denF ps xs=some as/\PR E gl g (p::as) μ r μ'/\μ.length<=μ'.length/\pw k m rv (ps++[r]) μ' (dirty L) Q
 | .loop xs body k,m,_,ps,μ,L,Q=>∃ as ps' n vs,takeL ps xs=some (as,ps')/\LeL as vs /\
   aQ (fun vs μ' Q'=>pw body μ.length none (ps'.map fz++vs) μ' (vo L) Q') (fun o outs μ'=>pw k m none (ps'.map fz++.c (goInt o)::outs) μ' (vo L) Q) n vs μ
 | .sw x c a b,m,rv,ps,μ,L,Q=>∃ n,lY (ps.getD x .any)=some n/\(n=c->pw a m rv ps μ L Q)/\(n≠c->pw b m rv ps μ L Q)
 | .bump n k,m,_,ps,μ,L,Q=>pw k m (some (ps.length,n,[])) (ps++[.any]) μ L Q
 | .save k,m,rv,ps,μ,L,Q=>pw k m rv ps μ (L++[Td ps μ]) Q
 | .self x k,m,rv,ps,μ,L,Q=>(∃ p,denF ps [x]=some [p]/\shal 40 p=true)/\pw k m rv ps μ L Q
 | .chk i r xs x k,m,rv,ps,μ,L,Q=>(∃ lg j p,L[i]? = some lg/\(r,xs,j)∈lg.en/\x=vn j/\denF ps [x]=some [p]/\shal 40 p=true)/\pw k m rv ps μ L Q
end
end Go.AM.PV
namespace Go.AM.PV
open Go Go.AM Go.AM.SX
section
variable {β β':List Nat} {S S':Nat->Prop} {h h':T AObj}
theorem Rdc.mono {a:Addr} (hh:h'.get a.block=h.get a.block) {sz:Nat} {vs:List Value} (x:Rdc h sz a vs):Rdc h' sz a vs:=by
 obtain ⟨h0,r,h1,h2⟩:=x
 exact ⟨h0,r,hh.trans h1,h2⟩
theorem Rdx.mono {a:Addr} (hh:h'.get a.block=h.get a.block) {vs:List Value} (x:Rdx h a vs):Rdx h' a vs:=by
 obtain ⟨h0,r,h1,h2⟩:=x
 exact ⟨h0,r,hh.trans h1,h2⟩
theorem Rdx.rdc {a:Addr} {vs:List Value} (x:Rdx h a vs) (sz:Nat):Rdc h sz a vs:=by
 obtain ⟨h0,r,h1,h2,h3⟩:=x
 exact ⟨h0,r,h1,(fun e=>by rw [h2] at e;cases e),h3⟩
mutual
theorem Rep.mono (hS:∀ b,S b->S' b) (hh:∀ b,S b->h'.get b=h.get b) (hβ:∀ (i b:Nat),β[i]? = some b->β'[i]? = some b):∀ {v:Value} {p:P},Rep β S h v p->Rep β' S' h' v p
 | _,_,.c x=>.c x
 | _,_,.ifc t v p r=>.ifc t v p (r.mono hS hh hβ)
 | _,_,.agg vs ps r=>.agg vs ps (r.mono hS hh hβ)
 | _,_,.tup vs ps r=>.tup vs ps (r.mono hS hh hβ)
 | _,_,.nil sz=>.nil sz
 | _,_,.sl a sz n c vs ps h1 h2 h3 h4 r=>.sl a sz n c vs ps (hS _ h1) (h2.mono (hh _ h1)) h3 h4 (r.mono hS hh hβ)
 | _,_,.fx a sz n vs ps h1 h2 h3 r=>.fx a sz n vs ps (hS _ h1) (h2.mono (hh _ h1)) h3 (r.mono hS hh hβ)
 | _,_,.ip a sz off vs ps h1 h2 r=>.ip a sz off vs ps (hS _ h1) (h2.mono (hh _ h1)) (r.mono hS hh hβ)
 | _,_,.lit a vs ps h1 h2 r=>.lit a vs ps (hS _ h1) (h2.mono (hh _ h1)) (r.mono hS hh hβ)
 | _,_,.lp i b off h1=>.lp i b off (hβ _ _ h1)
 | _,_,.ms i b off n c h1=>.ms i b off n c (hβ _ _ h1)
 | _,_,.fn f vs ps r=>.fn f vs ps (r.mono hS hh hβ)
 | _,_,.any v h1=>.any v h1
theorem RepL.mono (hS:∀ b,S b->S' b) (hh:∀ b,S b->h'.get b=h.get b) (hβ:∀ (i b:Nat),β[i]? = some b->β'[i]? = some b):∀ {vs:List Value} {ps:List P},RepL β S h vs ps->RepL β' S' h' vs ps
 | _,_,.nil=>.nil
 | _,_,.cons v p vs ps r rs=>.cons v p vs ps (r.mono hS hh hβ) (rs.mono hS hh hβ)
end
theorem vq {β:List Nat} {k i b:Nat} (hi:i < k) (h:β[i]? = some b):(β.take k)[i]? = some b:=by
 rw [List.getElem?_take,if_pos hi];exact h
theorem vr {i k:Nat} (h:Nat.blt i k=true):i < k:=Nat.le_of_ble_eq_true h
mutual
theorem Rep.trunc {k:Nat}:∀ {v:Value} {p:P},Rep β S h v p->okm k p=true->Rep (β.take k) S h v p
 | _,_,.c x,_=>.c x
 | _,_,.ifc t v p r,hk=>.ifc t v p (r.trunc (by simpa only [okm] using hk))
 | _,_,.agg vs ps r,hk=>.agg vs ps (r.trunc (by simpa only [okm] using hk))
 | _,_,.tup vs ps r,hk=>.tup vs ps (r.trunc (by simpa only [okm] using hk))
 | _,_,.nil sz,_=>.nil sz
 | _,_,.sl a sz n c vs ps h1 h2 h3 h4 r,hk=>.sl a sz n c vs ps h1 h2 h3 h4 (r.trunc (by simpa only [okm] using hk))
 | _,_,.fx a sz n vs ps h1 h2 h3 r,hk=>.fx a sz n vs ps h1 h2 h3 (r.trunc (by simpa only [okm] using hk))
 | _,_,.ip a sz off vs ps h1 h2 r,hk=>.ip a sz off vs ps h1 h2 (r.trunc (by simpa only [okm] using hk))
 | _,_,.lit a vs ps h1 h2 r,hk=>.lit a vs ps h1 h2 (r.trunc (by simpa only [okm] using hk))
 | _,_,.lp i b off h1,hk=>.lp i b off (vq (vr (by simpa only [okm] using hk)) h1)
 | _,_,.ms i b off n c h1,hk=>.ms i b off n c (vq (vr (by simpa only [okm] using hk)) h1)
 | _,_,.fn f vs ps r,hk=>.fn f vs ps (r.trunc (by simpa only [okm] using hk))
 | _,_,.any v h1,_=>.any v h1
theorem RepL.trunc {k:Nat}:∀ {vs:List Value} {ps:List P},RepL β S h vs ps->okm.okL k ps=true->RepL (β.take k) S h vs ps
 | _,_,.nil,_=>.nil
 | _,_,.cons v p vs ps r rs,hk=>by
  simp only [okm.okL,Bool.and_eq_true] at hk
  exact .cons v p vs ps (r.trunc hk.1) (rs.trunc hk.2)
end
theorem RepL.length:∀ {vs:List Value} {ps:List P},RepL β S h vs ps->vs.length=ps.length
 | _,_,.nil=>rfl
 | _,_,.cons v p vs ps _ rs=>by simp [rs.length]
theorem RepL.get:∀ {vs:List Value} {ps:List P} {i:Nat} {p:P},RepL β S h vs ps->ps[i]? = some p->∃ v,vs[i]? = some v/\Rep β S h v p
 | _,_,i,_,.nil,hi=>by simp at hi
 | _,_,0,_,.cons v p vs ps r _,hi=>by
  simp only [List.getElem?_cons_zero,Option.some.injEq] at hi;subst hi;exact ⟨v,by simp,r⟩
 | _,_,i+1,_,.cons v p vs ps _ rs,hi=>by
  simp only [List.getElem?_cons_succ] at hi ⊢;exact rs.get hi
theorem RepL.of_get:∀ {vs:List Value} {ps:List P},vs.length=ps.length->(∀ (i:Nat) (v:Value) (p:P),vs[i]? = some v->ps[i]? = some p->Rep β S h v p)->RepL β S h vs ps
 | [],[],_,_=>.nil
 | v::vs,p::ps,hl,hg=>.cons v p vs ps (hg 0 v p rfl rfl) (RepL.of_get (by simpa using hl) fun i v p h1 h2=>hg (i+1) v p (by simpa using h1) (by simpa using h2))
 | [],_::_,hl,_=>by simp at hl
 | _::_,[],hl,_=>by simp at hl
theorem RepL.get2 {vs:List Value} {ps:List P} (r:RepL β S h vs ps) {i:Nat} {v:Value} {p:P} (hv:vs[i]? = some v) (hp:ps[i]? = some p):Rep β S h v p:=by
 obtain ⟨w,h1,h2⟩:=r.get hp
 rw [hv] at h1;cases h1;exact h2
theorem RepL.append {vs ws:List Value} {ps qs:List P} (r:RepL β S h vs ps) (s:RepL β S h ws qs):RepL β S h (vs++ws) (ps++qs):=by
 have hl:=r.length
 refine .of_get (by simp [hl,s.length]) fun i v p h1 h2=>?_
 rcases Nat.lt_or_ge i vs.length with g | g
 ·rw [List.getElem?_append_left g] at h1
  rw [List.getElem?_append_left (hl ▸ g)] at h2
  exact r.get2 h1 h2
 ·rw [List.getElem?_append_right g] at h1
  rw [List.getElem?_append_right (hl ▸ g),<- hl] at h2
  exact s.get2 h1 h2
theorem RepL.take {vs:List Value} {ps:List P} (r:RepL β S h vs ps) (n:Nat):RepL β S h (vs.take n) (ps.take n):=by
 refine .of_get (by simp [r.length]) fun i v p h1 h2=>?_
 rw [List.getElem?_take] at h1 h2
 split at h1
 ·rename_i g;rw [if_pos g] at h2;exact r.get2 h1 h2
 ·cases h1
theorem RepL.drop {vs:List Value} {ps:List P} (r:RepL β S h vs ps) (n:Nat):RepL β S h (vs.drop n) (ps.drop n):=by
 refine .of_get (by simp [r.length]) fun i v p h1 h2=>?_
 rw [List.getElem?_drop] at h1 h2
 exact r.get2 h1 h2
theorem RepL.consts:∀ (vs:List Value),RepL β S h vs (vs.map .c)
 | []=>.nil
 | v::vs=>.cons v _ vs _ (.c v) (RepL.consts vs)
theorem RepL.one {v:Value} {p:P} (r:Rep β S h v p):RepL β S h [v] [p]:=.cons v p [] [] r .nil
theorem RepL.set {vs:List Value} {ps:List P} (r:RepL β S h vs ps) (i:Nat) {v:Value} {p:P} (hr:Rep β S h v p):RepL β S h (vs.set i v) (ps.set i p):=by
 refine .of_get (by simp [r.length]) fun j w q h1 h2=>?_
 rw [List.getElem?_set] at h1 h2
 split at h1
 ·rename_i g
  subst g
  rw [if_pos rfl] at h2
  split at h1 <;> first
   | (cases h1;done)
   | skip
  split at h2 <;> first
   | (cases h2;done)
   | skip
  cases h1;cases h2;exact hr
 ·rename_i g;rw [if_neg g] at h2;exact r.get2 h1 h2
theorem RepL.setFrom:∀ {cs:List Value} {qs:List P} {vs:List Value} {ps:List P} {off:Nat},RepL β S h vs ps->RepL β S h cs qs->RepL β S h (setFrom vs off cs) (cZ ps off qs)
 | _,_,_,_,_,r,.nil=>r
 | _,_,_,_,off,r,.cons c q cs qs hc hcs=>by
  simp only [SX.setFrom,cZ]
  exact RepL.setFrom (r.set off hc) hcs
theorem Rep.fz {v:Value} {p:P} (r:Rep β S h v p):Rep β S h v (fz p):=by
 cases p with
 | ow e sz n l=>cases r
 | _=>exact r
theorem vu:∀ (ps:List P) (xs vs:List Value),unc ps=some xs->RepL β S h vs ps->vs=xs
 | [],_,_,hu,r=>by
  cases r
  simp only [unc,Option.some.injEq] at hu;exact hu
 | p::ps,_,_,hu,r=>by
  cases r with
  | cons v _ vs _ r rs =>
  cases p with
  | c x =>
   simp only [unc] at hu
   split at hu
   ·rename_i ys hy
    cases hu
    cases r
    rw [vu ps _ _ hy rs]
   ·cases hu
  | _=>simp only [unc] at hu;cases hu
theorem RepL.cells {v:Value} {p:P} (r:Rep β S h v p):RepL β S h v.cells.toList (aX p):=by
 cases r with
 | c x =>
  have:v.cells.toList=du v:=by cases v <;> rfl
  rw [this]
  exact .consts _
 | agg vs ps r=>simpa [Value.cells,aX] using r
 | ifc t v p r=>exact .one (.ifc t v p r)
 | tup vs ps r=>exact .one (.tup vs ps r)
 | nil sz=>exact .one (.nil sz)
 | sl a sz n c vs ps h1 h2 h3 h4 h5=>exact .one (.sl a sz n c vs ps h1 h2 h3 h4 h5)
 | fx a sz n vs ps h1 h2 h3 h4=>exact .one (.fx a sz n vs ps h1 h2 h3 h4)
 | ip a sz off vs ps h1 h2 h3=>exact .one (.ip a sz off vs ps h1 h2 h3)
 | lit a vs ps h1 h2 h3=>exact .one (.lit a vs ps h1 h2 h3)
 | lp i b off h1=>exact .one (.lp i b off h1)
 | ms i b off n c h1=>exact .one (.ms i b off n c h1)
 | fn f vs ps r=>exact .one (.fn f vs ps r)
 | any v h1 =>
  have:v.cells=#[v]:=by cases v <;> first | rfl | (cases h1;done)
  rw [this]
  exact .one (.any v h1)
theorem pK:∀ {pl:List (Nat×Nat)} {vs:List Value} {ps:List P} {zs:List Value} {zp l:List P},RepL β S h vs ps->RepL β S h zs zp->dK pl ps zp=some l->∃ cs,dx pl vs zs=some cs/\RepL β S h cs l
 | [],_,_,zs,_,_,.nil,hz,hf=>by simp only [dK,Option.some.injEq] at hf;subst hf;exact ⟨zs,rfl,hz⟩
 | [],_,_,_,_,_,.cons ..,_,hf=>by simp only [dK] at hf;cases hf
 | _::_,_,_,_,_,_,.nil,_,hf=>by simp only [dK] at hf;cases hf
 | (off,size)::pl,_,_,zs,zp,l,.cons v p vs ps r rs,hz,hf=>by
  simp only [dK] at hf
  have hc:=RepL.cells r
  have hl:=hc.length
  have hzl:=hz.length
  split at hf
  ·rename_i hg
   simp only [dx]
   have e1:v.cells.size=size:=by
    have:v.cells.size=v.cells.toList.length:=by simp
    omega
   rw [if_pos ⟨e1,by omega⟩]
   exact pK rs (hz.setFrom hc) hf
  ·cases hf
mutual
theorem Rep.wk:∀ {v:Value} {p q:P},Wk p q->Rep β S h v p->Rep β S h v q
 | _,_,_,.refl _,r=>r
 | _,_,_,.nil sz,r=>by cases r;exact .nil sz
 | _,_,_,.fx sz n l,r=>by
  cases r with
  | fx a _ _ vs _ h1 h2 h3 h4=>exact .sl a sz n n vs l h1 (h2.rdc sz) h3 (Nat.le_refl _) h4
 | _,_,_,.agg l m w,r=>by
  cases r with
  | agg vs _ hr=>exact .agg vs m (RepL.wk w hr)
 | _,_,_,.tup l m w,r=>by
  cases r with
  | tup vs _ hr=>exact .tup vs m (RepL.wk w hr)
 | _,_,_,.ifc t p q w,r=>by
  cases r with
  | ifc _ v _ hr=>exact .ifc t v q (Rep.wk w hr)
 | _,_,_,.any _ hv,r=>by
  cases r
  exact .any _ hv
theorem RepL.wk:∀ {vs:List Value} {ps qs:List P},WkL ps qs->RepL β S h vs ps->RepL β S h vs qs
 | _,_,_,.nil,r=>r
 | _,_,_,.cons p q l m w ws,r=>by
  cases r with
  | cons v _ vs _ hr hrs=>exact .cons v q vs m (Rep.wk w hr) (RepL.wk ws hrs)
end
theorem Rdc.at {a:Addr} {sz:Nat} {vs:List Value} (x:Rdc h sz a vs) {A:St} (hA:A.h.get a.block=h.get a.block) {i:Nat} {v:Value} (hi:vs[i]? = some v):A.loadN (aJ a i) 1=some [v]:=by
 obtain ⟨h0,r,h1,h2,h3,h4,h5⟩:=x
 have hlt:=(List.getElem?_eq_some_iff.1 hi).1
 unfold St.loadN aJ St.row?
 simp only [hA,h1]
 rw [if_pos (by omega)]
 simp only [T.range]
 rw [h5 i hlt,hi]
theorem Rdc.range {a:Addr} {sz:Nat} {vs:List Value} (x:Rdc h sz a vs) {A:St} (hA:A.h.get a.block=h.get a.block) {i n:Nat} (hn:i+n<=vs.length):A.loadN (aJ a i) n=some ((vs.drop i).take n):=by
 obtain ⟨h0,r,h1,h2,h3,h4,h5⟩:=x
 unfold St.loadN aJ St.row?
 simp only [hA,h1]
 rw [if_pos (by omega)]
 have:=gI (t:=r.cells) (l:=(vs.drop i).take n) (off:=a.off+i) (fun j hj=>by
  simp only [List.length_take,List.length_drop] at hj
  rw [show a.off+i+j=a.off+(i+j) by omega,h5 (i+j) (by omega),List.getElem?_take,if_pos (by omega),List.getElem?_drop])
 rw [show ((vs.drop i).take n).length=n by simp;omega] at this
 exact this
theorem jc {a:Addr} (h:a.spot=none):aJ a 0=a:=by
 cases a;simp only at h;subst h;rfl
theorem vw (a:Addr) (i j:Nat):aJ (aJ a i) j=aJ a (i+j):=by
 simp only [aJ,Nat.add_assoc]
end
end Go.AM.PV
namespace Go.AM.PV
open Go Go.AM Go.AM.SX
def iM (a:Option Nat) (f:Nat->Option Nat) (g:Nat->Nat->Value) (A:St):Option (Value×St) :=
 match a with | some h=>(match f h with | some l=>some (g l h,A) | none=>none) | none=>none
theorem Te {a:Option Nat} {f:Nat->Option Nat} {g:Nat->Nat->Value} {v:Value} {B A:St} (hq:iM a f g st0=some (v,B)):iM a f g A=some (v,A):=by
 unfold iM at hq ⊢
 cases a with
 | none=>cases hq
 | some x =>
  simp only at hq ⊢
  cases hf:f x with
  | none=>rw [hf] at hq;cases hq
  | some y=>rw [hf] at hq;cases hq;rfl
theorem Tf {lo hi:Bool} {vs:List Value} {v:Value} {B:St} (h:aB (.subS lo hi) vs st0=some (v,B)) (A:St):aB (.subS lo hi) vs A=some (v,A):=by
 cases vs with
 | nil=>cases h
 | cons x vs =>
  cases x <;> first
   | (cases h;done)
   | skip
  rename_i s
  exact Te (a:=aL (if hi then (if lo then vs.tail.head? else vs.head?) else none) s.size s.size) (f:=fun h=>aL (if lo then vs.head? else none) h 0) (g:=fun l h=>.string (s.extract l h)) (B:=B) h
set_option maxHeartbeats 1000000 in
theorem Tg {r:R} (hm:iI r=true) {vs:List Value} {v:Value} {B:St} (h:aB r vs st0=some (v,B)) (A:St):aB r vs A=some (v,A):=by
 cases r <;> first
  | (cases hm;done)
  | exact Tf h A
  | skip
 all_goals
  unfold aB at h ⊢
  first
  | (split at h <;> first
    | (cases h;done)
    | (rename_i heq;cases heq;done)
    | (cases h;rfl)
    | skip)
 all_goals first
  | (exfalso;rename_i hx _ _ _ _ _ _ _ _ _ _ _ _ _ _ _ _ _ _ _ _ _ _ _ _ _ _ _ _ _ _ _ _ _ _ _ _ _ _ _ _ _ _ _ _ _ _ _ _ _ _ _;exact hx _ _ rfl)
  | (exfalso;simp_all;done)
  | (repeat' (first
    | (cases h;done)
    | split at h)
     all_goals (first
       | (cases h;rfl)
       | (cases h;simp_all;done)))
end Go.AM.PV
