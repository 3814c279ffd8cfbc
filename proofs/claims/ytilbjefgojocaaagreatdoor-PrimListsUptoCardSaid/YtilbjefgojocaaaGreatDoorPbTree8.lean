/- Trees of the law PrimTexts, of term.Text and lex.Number. -/
import Derived.Test.YtilbjefgojocaaaGreatDoorSxOk1
import Derived.OpenShut
import Derived.MakeChecks
import Derived.Test.YtilbjefgojocaaaGreatDoorPvRead
import Derived.Test.YtilbjefgojocaaaGreatDoorPbMeas
import Derived.Lib.ItoaNum
import Derived.Lib.ItoaLen
import Derived.Laws.RangeString
namespace Go.AM
open Go
section
variable {H:Type} {enc:TypeId×Value->H} {Pg:Program} {w:World} {base:Nat} {spare:Nat->Bool} {held:Bool}
def fC {α β:Type} (f:α->Option β):List α->Option (List β)
 | []=>some []
 | x::l=>match f x,fC f l with
  | some y,some ys=>some (y::ys)
  | _,_=>none
theorem nU {α β:Type} {f:α->Option β}:∀ {l:List α} {r:List β},fC f l=some r->r.length=l.length
 | [],r,h=>by simp only [fC,Option.some.injEq] at h;subst h;rfl
 | x::l,r,h=>by
  simp only [fC] at h
  split at h
  ·rename_i y ys h1 h2
   simp only [Option.some.injEq] at h
   subst h
   simp only [List.length_cons,nU h2]
  ·cases h
theorem nV {α β:Type} {f:α->Option β}:∀ {l:List α} {r:List β},fC f l=some r->∀ (i:Nat) (x:α),l[i]? = some x->∃ y,r[i]? = some y/\f x=some y
 | [],r,h,i,x,hi=>by simp at hi
 | x::l,r,h,i,z,hi=>by
  simp only [fC] at h
  split at h
  ·rename_i y ys h1 h2
   simp only [Option.some.injEq] at h
   subst h
   cases i with
   | zero=>simp only [List.getElem?_cons_zero,Option.some.injEq] at hi;subst hi;exact ⟨y,rfl,h1⟩
   | succ i=>rw [List.getElem?_cons_succ] at hi ⊢;exact nV h2 i z hi
  ·cases h
def eK (Pg:Program):Nat->TypeId->DataW H->Option (List Value)
 | 0,_,_=>none
 | n+1,t,d=>match Pg.underlying t,d with
  | some .bool,.lit (.bool b)=>some [.bool b]
  | some (.int _),.lit (.int k z)=>some [.int k z]
  | some (.array m e),.agg ds=>match fC (eK Pg n e) ds with
   | some ls=>if ls.all (fun l=>Nat.beq l.length (Pg.cellsOf e))&&Nat.beq ds.length m&&Nat.beq (Pg.cellsOf t) (m * Pg.cellsOf e) then some ls.flatten else none
   | none=>none
  | some (.struct fs),.agg ds=>match fC (fun x:Field×DataW H=>match eK Pg n x.1.type x.2 with
    | some l=>if Nat.beq l.length 1&&Nat.beq (Pg.cellsOf x.1.type) 1 then some l else none
    | none=>none) (fs.toList.zip ds) with
   | some ls=>if Nat.beq ds.length fs.size&&Nat.beq (Pg.cellsOf t) fs.size&&(fs.toList.zipIdx.all fun x=>Nat.beq x.1.offset x.2) then some ls.flatten else none
   | none=>none
  | _,_=>none
theorem chunks {sz:Nat}:∀ {ls:List (List Value)} {cs:List Value},(∀ (i:Nat) (l:List Value),ls[i]? = some l->(cs.drop (i * sz)).take sz=l)->(∀ (i:Nat) (l:List Value),ls[i]? = some l->l.length=sz)->cs.length=ls.length * sz->cs=ls.flatten
 | [],cs,_,_,hl=>by
  have:cs.length=0:=by simpa using hl
  rw [List.eq_nil_of_length_eq_zero this];rfl
 | l::ls,cs,h,hs,hl=>by
  have h0:=h 0 l rfl
  rw [Nat.zero_mul,List.drop_zero] at h0
  have h1:cs.drop sz=ls.flatten:=by
   refine chunks (sz:=sz) (fun i m hi=>?_) (fun i m hi=>hs (i+1) m (by rw [List.getElem?_cons_succ];exact hi)) ?_
   ·have:=h (i+1) m (by rw [List.getElem?_cons_succ];exact hi)
    rw [List.drop_drop,<- this,Nat.add_mul,Nat.one_mul,Nat.add_comm]
   ·rw [List.length_drop,hl,List.length_cons,Nat.add_mul,Nat.one_mul];omega
  rw [List.flatten_cons,<- h1,<- h0,List.take_append_drop]
theorem nW:∀ (n fuel:Nat) (t:TypeId) (cs:List Value) (d:DataW H) (p:List MemPlace) (l:List Value),DataW.trod enc Pg w base spare held fuel t cs=some (d,p)->eK Pg n t d=some l->cs=l
 | 0,_,_,_,_,_,_,_,h=>by simp [eK] at h
 | n + 1,fuel,t,cs,d,p,l,ht,h=>by
  simp only [eK] at h
  split at h
  ·rename_i b hu
   obtain ⟨b',rfl,e⟩:=DataW.trod_bool hu ht
   simp only [Prod.mk.injEq,DataW.lit.injEq,Lit.bool.injEq] at e
   rw [<- e.1];simpa using h
  ·rename_i k' k z hu
   obtain ⟨z',rfl,e,_⟩:=DataW.trod_int hu ht
   simp only [Prod.mk.injEq,DataW.lit.injEq,Lit.int.injEq] at e
   obtain ⟨⟨rfl,rfl⟩,_⟩:=e
   simpa using h
  ·rename_i m e ds hu
   split at h
   ·rename_i ls hls
    split at h
    ·rename_i hc
     simp only [Bool.and_eq_true] at hc
     obtain ⟨⟨c1,c2⟩,c3⟩:=hc
     cases h
     obtain ⟨xs,f',_,hx,hlen,hxl,hel⟩:=DataW.trod_array hu ht
     simp only [Prod.mk.injEq,DataW.agg.injEq] at hx
     have hds:ds=xs.map (·.1):=hx.1
     have hll:=nU hls
     have hmd:ds.length=m:=Nat.eq_of_beq_eq_true c2
     refine chunks (sz:=Pg.cellsOf e) (fun i r hi=>?_) (fun i r hi=>Nat.eq_of_beq_eq_true (List.all_eq_true.1 c1 r (List.mem_of_getElem? hi))) (by rw [hlen,Nat.eq_of_beq_eq_true c3,hll,hmd])
     have hi':i < ls.length:=(List.getElem?_eq_some_iff.1 hi).1
     have hix:i < xs.length:=by omega
     have h1:=hel i (by omega)
     rw [List.getElem?_eq_getElem hix] at h1
     obtain ⟨y,hy1,hy2⟩:=nV hls i xs[i].1 (by rw [hds,List.getElem?_map,List.getElem?_eq_getElem hix];rfl)
     rw [hi] at hy1
     cases hy1
     exact nW n _ e _ xs[i].1 xs[i].2 r h1 hy2
    ·cases h
   ·cases h
  ·rename_i fs ds hu
   split at h
   ·rename_i ls hls
    split at h
    ·rename_i hc
     simp only [Bool.and_eq_true] at hc
     obtain ⟨⟨c1,c2⟩,c3⟩:=hc
     cases h
     obtain ⟨xs,f',_,hx,hlen,hxl,hel⟩:=DataW.trod_struct hu ht
     simp only [Prod.mk.injEq,DataW.agg.injEq] at hx
     have hds:ds=xs.map (·.1):=hx.1
     have hll:=nU hls
     have hmd:ds.length=fs.size:=Nat.eq_of_beq_eq_true c1
     have hzl:(fs.toList.zip ds).length=fs.size:=by rw [List.length_zip,hmd];simp
     have key:∀ (i:Nat) (r:List Value),ls[i]? = some r->(cs.drop (i * 1)).take 1=r/\r.length=1:=by
      intro i r hi
      have hi':i < ls.length:=(List.getElem?_eq_some_iff.1 hi).1
      have hix:i < xs.length:=by omega
      have hif:i < fs.size:=by omega
      have hz:(fs.toList.zip ds)[i]? = some (fs[i],xs[i].1):=by
       rw [List.getElem?_zip_eq_some]
       refine ⟨by simp [hif],?_⟩
       show ds[i]? = some xs[i].1
       rw [hds,List.getElem?_map,List.getElem?_eq_getElem hix];rfl
      obtain ⟨y,hy1,hy2⟩:=nV hls i _ hz
      rw [hi] at hy1
      cases hy1
      dsimp only at hy2
      split at hy2
      ·rename_i l' hl'
       split at hy2
       ·rename_i hc'
        simp only [Bool.and_eq_true] at hc'
        cases hy2
        have h1:=hel i fs[i] (by simp [hif])
        rw [List.getElem?_eq_getElem hix,Nat.eq_of_beq_eq_true hc'.2] at h1
        have ho:fs[i].offset=i:=Nat.eq_of_beq_eq_true (List.all_eq_true.1 c3 (fs[i],i) (by
         rw [List.mem_zipIdx_iff_getElem?]
         simp [hif]))
        rw [ho] at h1
        rw [Nat.mul_one]
        exact ⟨nW n _ _ _ xs[i].1 xs[i].2 r h1 hl',Nat.eq_of_beq_eq_true hc'.1⟩
       ·cases hy2
      ·cases hy2
     exact chunks (sz:=1) (fun i r hi=>(key i r hi).1) (fun i r hi=>(key i r hi).2) (by rw [hlen,Nat.eq_of_beq_eq_true c2,hll,hzl,Nat.mul_one])
    ·cases h
   ·cases h
  ·cases h
end
theorem nX {Pg:Program} {w:World} {x:String} {d:DataW Unit} {g n:Nat} {t:TypeId} {l:List Value}:∀ {laid:List (String×DataW Unit)},laidMet Pg laid w->(x,d)∈laid->Pg.globalNamed x=some g->(Pg.globals[g]?).map (·.type)=some t->eK Pg n t d=some l ->
  ∃ t' fz,w.heap[g]? = some (.cells l.toArray t' fz):=by
 intro laid hm hx hg ht hl
 obtain ⟨ps,hv,h2⟩:=hm
 clear h2
 induction laid generalizing ps with
 | nil=>cases hx
 | cons y laid ih =>
  obtain ⟨y1,y2⟩:=y
  obtain ⟨g',t',cs,fuel,p,q,e1,e2,e3,e4,e5,_⟩:=hv
  rcases List.mem_cons.1 hx with e | hx
  ·cases e
   rw [hg] at e1;cases e1
   rw [ht] at e2;cases e2
   have hcs:=nW n fuel t cs.toList d p l e4 hl
   have hcs2:cs=l.toArray:=Array.ext' (by simpa using hcs)
   simp only [World.var?,hg,Option.bind_some] at e3
   split at e3
   ·rename_i c2 t2 fz hh
    cases e3
    rw [hcs2] at hh
    exact ⟨t2,fz,hh⟩
   ·cases e3
  ·exact ih hx q e5
end Go.AM
namespace Go.AM.PV
open Go Go.AM Go.AM.SX
inductive RdV (Pg:Program) {H:Type}:TypeId->DataW H->P->Prop where
 | one (t:TypeId) (d:DataW H) (p:P):(∀ fs,Pg.underlying t≠some (.struct fs))->Rd Pg t d [p]->RdV Pg t d p
 | agg (t:TypeId) (fs:Array Field) (d:DataW H) (ps:List P):Pg.underlying t=some (.struct fs)->Rd Pg t d ps->RdV Pg t d (.agg ps)
inductive RdA (Pg:Program) {H:Type}:List TypeId->List (DataW H)->List P->Prop where
 | nil:RdA Pg [] [] []
 | cons (t:TypeId) (ts:List TypeId) (d:DataW H) (ds:List (DataW H)) (p:P) (ps:List P):RdV Pg t d p->RdA Pg ts ds ps->RdA Pg (t::ts) (d::ds) (p::ps)
section
variable {nm:Nm} {H:Type} {enc:TypeId×Value->H} {Pg:Program} {w:World} {ts:List TypeId}
theorem Dh (hts:j8 Pg ts=true) {t:TypeId} {v:Value} {d:DataW H} {p:List MemPlace} (ht:t∈ts) (h:DataW.Trod enc Pg w 0 (fun _=>true) true t v d p) {base:Nat} (hv:Value.okWide Pg w .any base t v) {R:List SRow} (hR:GoodR nm w R) (hC:CloR R) :
  ∃ X v0 q,RdV Pg t d q/\GoodR nm w (R++X)/\Rep [] (cq (R++X).length) (aq (R++X)).h v0 q/\VR nm (av (R++X)) v0 v:=by
 obtain ⟨n,hn⟩:=h
 obtain ⟨X,vs,ps,k1,k2⟩:=o8 (nm:=nm) hts n t _ _ ht hn R hR hC
 have hsc:(∀ fs,Pg.underlying t≠some (.struct fs))->v.cells.toList=[v]->∃ X v0 q,RdV Pg t d q/\GoodR nm w (R++X)/\Rep [] (cq (R++X).length) (aq (R++X)).h v0 q/\VR nm (av (R++X)) v0 v:=by
  intro hns hc
  have hrel:=k2.rel
  rw [hc] at hrel
  have hl:vs.length=1:=hrel.length
  obtain ⟨v0,rfl⟩:∃ v0,vs=[v0]:=by
   match vs,hl with
   | [v0],_=>exact ⟨v0,rfl⟩
  have hrep:=k2.rep
  cases hrep with
  | cons _ q _ qs h1 h2 =>
   cases h2
   exact ⟨X,v0,q,.one t d q hns k1,k2.good,h1,hrel.head⟩
 have hok:=List.all_eq_true.1 hts t ht
 unfold o7 at hok
 split at hok
 ·rename_i hu
  obtain ⟨b,rfl⟩:=Go.WideShapes.okWide_bool hu hv
  exact hsc (fun fs=>by rw [hu];exact fun e=>by cases e) rfl
 ·rename_i hu
  obtain ⟨b,rfl⟩:=Go.WideShapes.okWide_string hu hv
  exact hsc (fun fs=>by rw [hu];exact fun e=>by cases e) rfl
 ·rename_i k hu
  obtain ⟨b,rfl⟩:=Go.WideShapes.okWide_int hu hv
  exact hsc (fun fs=>by rw [hu];exact fun e=>by cases e) rfl
 ·rename_i e hu
  obtain ⟨a,l,c,rfl⟩:=Go.WideShapes.okWide_slice hu hv
  exact hsc (fun fs=>by rw [hu];exact fun e=>by cases e) rfl
 ·rename_i fs hu
  obtain ⟨cs,rfl,_⟩:=Go.WideShapes.okWide_struct hu hv
  refine ⟨X,.agg vs.toArray,.agg ps,.agg t fs d ps hu k1,k2.good,.agg vs ps k2.rep,VR.agg' ?_⟩
  have hrel:=k2.rel
  exact hrel
 ·cases hok
theorem sc (hts:j8 Pg ts=true) {base:Nat}:∀ (tl:List TypeId) (vals:List Value) (ds:List (DataW H)) (p:List MemPlace),(∀ t,t∈tl->t∈ts)->DataW.TrodAll enc Pg w 0 (fun _=>true) true tl vals ds p ->
  (∀ (j:Nat) t v,tl[j]? = some t->vals[j]? = some v->Value.okWide Pg w .any base t v)->∀ R,GoodR nm w R->CloR R ->
  ∃ X vs ps,RdA Pg tl ds ps/\GoodR nm w (R++X)/\RepL [] (cq (R++X).length) (aq (R++X)).h vs ps/\LR nm (av (R++X)) vs vals
 | [],vals,ds,p,_,h,_,R,hR,_=>by
  obtain ⟨rfl,rfl,_⟩:=Go.ChangeShapes.trodAll_nil h
  exact ⟨[],[],[],.nil,by rw [List.append_nil];exact hR,.nil,.nil⟩
 | t::tl,vals,ds,p,ht,h,hv,R,hR,hC=>by
  obtain ⟨v,vals',d,ds',p1,q1,rfl,rfl,_,h1,h2⟩:=Go.ChangeShapes.trodAll_cons h
  obtain ⟨X,v0,q,k1,k2,k3,k4⟩:=Dh hts (ht t (by simp)) h1 (hv 0 t v rfl rfl) hR hC
  obtain ⟨Y,vs,ps,m1,m2,m3,m4⟩:=sc hts tl vals' ds' q1 (fun t' h'=>ht t' (by simp [h'])) h2 (fun j t' v' e1 e2=>hv (j+1) t' v' (by simpa using e1) (by simpa using e2)) (R++X) k2 (hC.ext X)
  refine ⟨X++Y,v0::vs,q::ps,.cons t tl d ds' q ps k1 m1,?_,?_,?_⟩
  ·rw [<- List.append_assoc];exact m2
  ·rw [<- List.append_assoc]
   refine .cons _ _ _ _ ?_ m3
   have:=(RepL.one k3).ext Y
   cases this with
   | cons _ _ _ _ h _=>exact h
  ·rw [<- List.append_assoc]
   exact .cons (k4.mono (j9 _ _)) m4
end
def dr (f:Nat->TypeId) (gl:List GRow):List SRow:=gl.map fun r=>{ row:={ own:=false,size:=r.cells.length,cells:=T.ofList r.cells,elem:=f r.g,esz:=0,opn:=false,grp:=r.g,frz:=0,sb:=false },pl:={ blk:=r.g,off:=0,csz:=r.cells.length,esz:=0,opn:=false } }
theorem Di {nm:Nm} {w:World} {f:Nat->TypeId} {gl:List GRow} (hrows:∀ r,r∈gl->∃ fz,w.heap[r.g]? = some (.cells r.cells.toArray (f r.g) fz)) (hpl:gl.all (fun r=>r.cells.all aH)=true):GoodR nm w (dr f gl):=by
 intro s hs
 obtain ⟨r,hr,rfl⟩:=List.mem_map.1 hs
 obtain ⟨fz,h1⟩:=hrows r hr
 refine ⟨rfl,r.cells.toArray,fz,{ blk:=h1,csz:=by simp,opn:=rfl,esz:=fun h=>(by cases h),fit:=by simp,cell:=fun i hi=>?_,frz:=fun h=>(by cases h),sb:=fun h=>(by cases h),exact:=fun _=>⟨rfl,by simp⟩ }⟩
 have hi':i < r.cells.length:=hi
 refine ⟨r.cells[i],(T.get_ofList _ _).trans (List.getElem?_eq_getElem hi'),?_⟩
 have:r.cells.toArray.getD (0+i) undef=r.cells[i]:=by
  rw [Nat.zero_add,Array.getD_eq_getD_getElem?]
  simp [hi']
 rw [this]
 exact .of_plainV (List.all_eq_true.1 (List.all_eq_true.1 hpl r hr) _ (List.getElem_mem hi'))
def lA (gl:List GRow):Bool:=gl.zipIdx.all fun x=>Nat.beq x.1.g x.2
theorem Dj {gl:List GRow} (h:lA gl=true) {r:GRow} (hr:r∈gl):gl[r.g]? = some r:=by
 obtain ⟨i,hi⟩:=List.getElem?_of_mem hr
 have:=List.all_eq_true.1 h (r,i) (by rw [List.mem_zipIdx_iff_getElem?];exact hi)
 have e:r.g=i:=Nat.eq_of_beq_eq_true this
 rw [e]
 exact hi
section
variable {nm:Nm} {H:Type} {enc:TypeId×Value->H} {Pg:Program} {w:World} {ts:List TypeId} {E:Env}
theorem Dk (ok:EnvOk E Pg nm) {f:FuncId} {gl:List GRow} {x:Value} (hx:aH x=true) (hts:j8 Pg ts=true) (hng:E.ng<=gl.length) (h0:0 < gl.length) (hnum:lA gl=true) (hpl:gl.all (fun r=>r.cells.all aH)=true)
  (hlook:∀ g:Nat->TypeId,gl.all (fun r=>bX (aq (dr g gl)) r)=true) (hrows:∀ r,r∈gl->∃ t fz,w.heap[r.g]? = some (.cells r.cells.toArray t fz))
  {tl:List TypeId} {args:Array Value} {ds:List (DataW H)} {p:List MemPlace} {base:Nat} (htl:∀ t,t∈tl->t∈ts) (hA:DataW.TrodAll enc Pg w 0 (fun _=>true) true tl args.toList ds p)
  (hv:∀ (j:Nat) t v,tl[j]? = some t->args.toList[j]? = some v->Value.okWide Pg w .any base t v) (hPR:∀ ps,RdA Pg tl ds ps->∃ μ,PR E gl f ps [] (.c x) μ) :
  Calls Pg f args w fun e w'=>e=.returned x/\w.keptBut w' (fun _=>False):=by
 let g:Nat->TypeId:=fun g=>match w.heap[g]? with
  | some (.cells _ t _)=>t
  | _=>0
 have hr2:∀ r,r∈gl->∃ fz,w.heap[r.g]? = some (.cells r.cells.toArray (g r.g) fz):=by
  intro r hr
  obtain ⟨t,fz,h1⟩:=hrows r hr
  refine ⟨fz,?_⟩
  have:g r.g=t:=by simp only [g,h1]
  rw [this]
  exact h1
 have hgood:GoodR nm w (dr g gl):=Di hr2 hpl
 have hlen:(dr g gl).length=gl.length:=by simp [dr]
 have hclo:CloR (dr g gl):=by
  cases hg:gl with
  | nil=>rw [hg] at h0;simp at h0
  | cons r l=>exact ⟨_,rfl,rfl⟩
 obtain ⟨X,vs,ps,k1,k2,k3,k4⟩:=sc (nm:=nm) hts tl args.toList ds p htl hA hv (dr g gl) hgood hclo
 obtain ⟨μ,hP⟩:=hPR ps k1
 obtain ⟨B,n,hrun⟩:=hP.start (rows:=dr g gl++X) (fun r hr=>by
  have h1:=Dj hnum hr
  have h2:r.g < gl.length:=(List.getElem?_eq_some_iff.1 h1).1
  refine ⟨by rw [List.length_append,hlen];omega,?_⟩
  have h3:=List.all_eq_true.1 (hlook g) r hr
  unfold bX at h3 ⊢
  rw [vD _ _ (by rw [hlen];exact h2)]
  exact h3) k3
 refine (Se ok hrun hx k2 ?_ k4).mono ?_
 ·intro b hb
  have hb2:b < gl.length:=Nat.lt_of_lt_of_le hb hng
  have h1:gl[b]? = some gl[b]:=List.getElem?_eq_getElem hb2
  have h2:lA gl=true:=hnum
  have h3:gl[b].g=b:=Nat.eq_of_beq_eq_true (List.all_eq_true.1 h2 (gl[b],b) (by rw [List.mem_zipIdx_iff_getElem?];exact h1))
  refine ⟨{ blk:=gl[b].g,off:=0,csz:=gl[b].cells.length,esz:=0,opn:=false },j9 _ _ _ _ ?_,h3,rfl⟩
  unfold av dr
  rw [List.getElem?_map,h1]
  rfl
 ·rintro e w' ⟨h1,h2,_⟩
  exact ⟨h1,h2⟩
theorem Dl {w':World} {tl:List TypeId} {vs:List Value} {ds:List (DataW H)} {p:List MemPlace} (hl:Go.laidOutB Pg=true) (hm:Go.mapsRowed Pg=true) (hz:((List.range Pg.types.size).all fun t=>match Pg.underlying t with | some (.slice e)=>decide (0 < Pg.cellsOf e) | _=>true)=true)
  (htl:tl.all (fun t=>Nat.blt t Pg.types.size)=true) (h:DataW.TrodAll enc Pg w 0 (fun _=>true) true tl vs ds p) (hp:∀ x,x∈p->x.block < w.heap.size) (hk:w.keptBut w' (fun _=>False)) :
  DataW.TrodAll enc Pg w' 0 (fun b=>decide (b < w.heap.size)) true tl vs ds p:=by
 have hsame:∀ x,x∈p->w.sameAt w' x:=by
  intro x hx
  have hb:=hp x hx
  have h2:=hk.2.2 x.block hb
  cases x with
  | cell b off =>
   show w'.cell? ⟨b,off,none⟩=w.cell? ⟨b,off,none⟩
   have h2:(match w.heap[b]?,w'.heap[b]? with
    | some (.cells c t fr),some (.cells c' t' fr')=>t'=t/\fr'=fr/\c'.size=c.size/\∀ j:Nat,¬ False->c'[j]? = c[j]?
    | some (.map es clock),some (.map es' clock')=>False\/(es'=es/\clock'=clock)
    | o,o'=>o'=o):=h2
   unfold World.cell?
   split at h2
   ·rename_i c t fr c' t' fr' e1 e2
    dsimp only
    rw [e1,e2]
    dsimp only
    rw [h2.2.2.2 off (fun h=>h)]
   ·rename_i e1 e2
    dsimp only
    rw [e1,e2]
   ·dsimp only
    rw [h2]
  | map b =>
   show w'.heap[b]? = w.heap[b]?
   have h2:(match w.heap[b]?,w'.heap[b]? with
    | some (.cells c t fr),some (.cells c' t' fr')=>t'=t/\fr'=fr/\c'.size=c.size/\∀ j:Nat,¬ False->c'[j]? = c[j]?
    | some (.map es clock),some (.map es' clock')=>False\/(es'=es/\clock'=clock)
    | o,o'=>o'=o):=h2
   split at h2
   ·rename_i c t fr c' t' fr' e1 e2
    obtain ⟨rfl,rfl,h3,h4⟩:=h2
    rw [e1,e2]
    have:c'=c:=Array.ext_getElem? fun i=>h4 i (fun h=>h)
    rw [this]
   ·rename_i e1 e2
    rw [e1,e2,(h2.resolve_left id).1,(h2.resolve_left id).2]
   ·exact h2
 have hcar:∀ (tl:List TypeId) (vs:List Value) (ds:List (DataW H)) (p:List MemPlace),DataW.TrodAll enc Pg w 0 (fun _=>true) true tl vs ds p->(∀ x,x∈p->w.sameAt w' x)->DataW.TrodAll enc Pg w' 0 (fun _=>true) true tl vs ds p:=by
  intro tl
  induction tl with
  | nil =>
   intro vs ds p h _
   obtain ⟨rfl,rfl,rfl⟩:=Go.ChangeShapes.trodAll_nil h
   exact Go.ChangeShapes.trodAll_mk0
  | cons t tl ih =>
   intro vs ds p h hs
   obtain ⟨v,vs',d,ds',p1,q1,rfl,rfl,rfl,⟨n,h1⟩,h2⟩:=Go.ChangeShapes.trodAll_cons h
   exact ⟨p1,q1,⟨n,DataW.trod_carry n t _ _ h1 fun x hx=>hs x (List.mem_append_left _ hx)⟩,ih vs' ds' q1 h2 fun x hx=>hs x (List.mem_append_right _ hx),rfl⟩
 have h2:=hcar tl vs ds p h hsame
 exact DataW.TrodAll.respare (kids_rows hl hm) (fun t e ht hu=>slices_full_of Pg hz t e ht hu) (fun t ht=>Nat.le_of_ble_eq_true (List.all_eq_true.1 htl t ht)) h2 fun x hx=>decide_eq_true (hp x hx)
end
section
variable {H:Type} {Pg:Program} {t:TypeId} {d:DataW H} {ps:List P}
theorem nY {k:IntKind} (hu:Pg.underlying t=some (.int k)) (h:Rd Pg t d ps):∃ n,d=.lit (.int k n)/\ps=[.c (.int k n)]/\(Lit.int k n).wf=true:=by
 cases h with
 | bool _ b h=>rw [hu] at h;cases h
 | int _ k' n h hw=>rw [hu] at h;cases h;exact ⟨n,rfl,rfl,hw⟩
 | str _ s h _=>rw [hu] at h;cases h
 | nils _ e h=>rw [hu] at h;cases h
 | slice _ e ds rest ps h _=>rw [hu] at h;cases h
 | struct _ fs ds ps h _=>rw [hu] at h;cases h
theorem Dm (hu:Pg.underlying t=some .string) (h:Rd Pg t d ps):∃ s:ByteArray,d=.lit (.string s.data.toList)/\ps=[.c (.string s)]/\s.size<=maxLen:=by
 cases h with
 | bool _ b h=>rw [hu] at h;cases h
 | int _ k' n h hw=>rw [hu] at h;cases h
 | str _ s h hs=>exact ⟨s,rfl,rfl,hs⟩
 | nils _ e h=>rw [hu] at h;cases h
 | slice _ e ds rest ps h _=>rw [hu] at h;cases h
 | struct _ fs ds ps h _=>rw [hu] at h;cases h
theorem Dn {e:TypeId} (hu:Pg.underlying t=some (.slice e)) (h:Rd Pg t d ps):(d=.nil/\ps=[.sl (Pg.cellsOf e) 0 []])\/∃ ds rest qs,d=.slice ds rest/\ps=[.sl (Pg.cellsOf e) ds.length qs]/\RdL Pg e ds qs:=by
 cases h with
 | bool _ b h=>rw [hu] at h;cases h
 | int _ k' n h hw=>rw [hu] at h;cases h
 | str _ s h hs=>rw [hu] at h;cases h
 | nils _ e h=>rw [hu] at h;cases h;exact .inl ⟨rfl,rfl⟩
 | slice _ e ds rest ps h hl=>rw [hu] at h;cases h;exact .inr ⟨ds,rest,ps,rfl,rfl,hl⟩
 | struct _ fs ds ps h _=>rw [hu] at h;cases h
theorem Do {fs:Array Field} (hu:Pg.underlying t=some (.struct fs)) (h:Rd Pg t d ps):∃ ds,d=.agg ds/\RdF Pg fs.toList ds ps:=by
 cases h with
 | bool _ b h=>rw [hu] at h;cases h
 | int _ k' n h hw=>rw [hu] at h;cases h
 | str _ s h hs=>rw [hu] at h;cases h
 | nils _ e h=>rw [hu] at h;cases h
 | slice _ e ds rest ps h _=>rw [hu] at h;cases h
 | struct _ fs' ds ps h hF=>rw [hu] at h;cases h;exact ⟨ds,rfl,hF⟩
theorem lB {f:Field} {fs:List Field} {ds:List (DataW H)} (h:RdF Pg (f::fs) ds ps):∃ d ds' p ps',ds=d::ds'/\ps=p++ps'/\Rd Pg f.type d p/\RdF Pg fs ds' ps':=by
 cases h with
 | cons _ _ d ds p ps h1 h2=>exact ⟨d,ds,p,ps,rfl,rfl,h1,h2⟩
theorem Dp {ds:List (DataW H)} (h:RdF Pg [] ds ps):ds=[]/\ps=[]:=by
 cases h;exact ⟨rfl,rfl⟩
theorem nZ {t:TypeId} {ts:List TypeId} {ds:List (DataW H)} (h:RdA Pg (t::ts) ds ps):∃ d ds' p ps',ds=d::ds'/\ps=p::ps'/\RdV Pg t d p/\RdA Pg ts ds' ps':=by
 cases h with
 | cons _ _ d ds p ps h1 h2=>exact ⟨d,ds,p,ps,rfl,rfl,h1,h2⟩
theorem Dq {ds:List (DataW H)} (h:RdA Pg [] ds ps):ds=[]/\ps=[]:=by
 cases h;exact ⟨rfl,rfl⟩
theorem Dr {fs:Array Field} {p:P} (hu:Pg.underlying t=some (.struct fs)) (h:RdV Pg t d p):∃ ps,p=.agg ps/\Rd Pg t d ps:=by
 cases h with
 | one _ _ hn _=>exact (hn fs hu).elim
 | agg _ fs' ps h1 h2=>exact ⟨ps,rfl,h2⟩
theorem Ds {p:P} (hu:∀ fs,Pg.underlying t≠some (.struct fs)) (h:RdV Pg t d p):Rd Pg t d [p]:=by
 cases h with
 | one _ _ _ h=>exact h
 | agg _ _ ps h1 h2=>exact (hu _ h1).elim
end
end Go.AM.PV
namespace Go.AM.PV
open Go Go.AM Go.AM.SX
def Dt:N:=.op (.fld 0) [vn 4] (ld 6 (.call 113 [vn 7] (.call 114 [vn 8] (.call 112 [vn 8,vv (bs [])] (.op (.build [(bs [])] [(0,1)]) [vn 10] (.fin 1 [.ifc 72 (.n 11)]))))))
def Du:N:=.op (.ta 52 (.agg #[(.slice none 0 0)]) false) [vn 0] (.op (.field 0 none) [vn 6] (.call 115 [vn 7] (.call 116 [vn 8] (.op (.build [(.slice none 0 0)] [(0,1)]) [vn 8] (.fin 1 [.ifc 52 (.n 10)])))))
def t81:N:=.op (.ta 72 (.agg #[(bs [])]) true) [vn 0] (.op (.ext 0) [vn 1] (.op (.ext 1) [vn 1] (.op (.alloc 72 [(bs [])]) [] (.op (.store 1) [vn 4,vn 2] (.br (vn 3) Dt Du)))))
def sd:N:=.op (.idxA 1) [vn 0,vn 3] (.op (.store 1) [vn 11,vn 8] (.save (.op (.idxA 1) [vn 0,vn 4] (.op (.store 1) [vn 13,vn 10] (.save (.self (vn 0) (.self (vn 3) (.self (vn 0) (.self (vn 0) (.self (vn 4) (.self (vn 4) (.self (vn 0) (.self (vn 4) (.chk 0 (.idxA 1) [vn 0,vn 4] (vn 7) (.chk 0 (.load none) [vn 7] (vn 8) (.self (vn 0) (.self (vn 3) (.chk 0 (.idxA 1) [vn 0,vn 3] (vn 9) (.chk 0 (.load none) [vn 9] (vn 10) (.chk 0 (.idxA 1) [vn 0,vn 3] (vn 11) (.chk 1 (.idxA 1) [vn 0,vn 4] (vn 13) (bo .add [vn 3,vi 1] (bo .sub [vn 4,vi 1] (.fin 0 [vn 15,vn 16]))))))))))))))))))))))))
def sg:N:=.bump 16 (.save (.op (.idxA 1) [vn 0,vn 4] (ld 7 (.op (.idxA 1) [vn 0,vn 3] (ld 9 sd)))))
def Dv:N:=bo .lss [vn 3,vn 4] (.br (vn 5) sg (.fin 2 [vn 3,vn 4]))
def Dw:N:=.op .tup [] (.fin 1 [vn 6])
def Dx:N:=.sw 3 2 Dw .bad
def t114:N:=.op .lenL [vn 0] (bo .sub [vn 1,vi 1] (.loop [vi 0,vn 2] Dv Dx))
end Go.AM.PV
namespace Go.AM.PV
open Go Go.AM Go.AM.SX
def Dy:N:=bo .add [vn 5,vi 1] (.fin 0 [vn 2,vn 3,vn 11,vn 14])
def Dz:N:=.op (.idxA 1) [vn 1,vn 5] (ld 8 (.call 13 [vn 9,vn 4] (.op (.ext 0) [vn 10] (.op (.ext 1) [vn 10] (bo .neq [vn 12,vi 0] (.br (vn 13) (.fin 1 [vv (.slice none 0 0),vn 12,vn 4,vn 5]) Dy))))))
def EA:N:=.op .lenL [vn 1] (bo .lss [vn 5,vn 6] (.br (vn 7) Dz (.fin 2 [vn 2,vn 3,vn 4,vn 5])))
def EB:N:=.op .tup [vn 3,vn 4] (.fin 1 [vn 7])
def EC:N:=.op .tup [vn 5,vi 0] (.fin 1 [vn 7])
def ED:N:=.sw 2 2 EC .bad
def EE:N:=.sw 2 1 EB ED
def t17:N:=.loop [vv (.slice none 0 0),vi 0,vn 0,vi 0] EA EE
def EF:N:=.op (.newSl 9 [(bs [])] [(0,1)]) [vv (bs [114,111,116])] (.call 17 [vn 12,.sl (.n 18) 1] (.op (.ext 0) [vn 19] (.op (.ext 1) [vn 19] (bo .eql [vn 21,vi 1] (.fin 1 [vn 22])))))
def EG:N:=.op (.newSl 9 [(bs [])] [(0,1)]) [vv (bs [114,111,116])] (.call 17 [vn 12,.sl (.n 22) 1] (.op (.ext 0) [vn 23] (.op (.ext 1) [vn 23] (bo .eql [vn 25,vi 1] (.fin 1 [vn 26])))))
def EH:N:=.op (.newSl 9 [(bs [])] [(0,1)]) [vv (bs [114,111,116])] (.call 17 [vn 12,.sl (.n 26) 1] (.op (.ext 0) [vn 27] (.op (.ext 1) [vn 27] (bo .eql [vn 29,vi 1] (.fin 1 [vn 30])))))
def EI:N:=bo .eql [vn 57,vi 11] (.fin 1 [vn 59])
def EJ:N:=.call 18 [vn 56,vn 13] (.fin 1 [vn 59])
def EL:N:=.op (.newSl 9 [(bs []),(bs [])] [(0,1),(1,1)]) [vv (bs [112,97,105,114]),vv (bs [117,110,112,97,105,114])] (.call 17 [vn 12,.sl (.n 54) 2] (.op (.ext 0) [vn 55] (.op (.ext 1) [vn 55] (bo .neq [vn 57,vi 0] (.br (vn 58) EI EJ)))))
def EM:N:=.op .lenL [vn 40] (bo .neq [vn 52,vi 3] (.br (vn 53) (.fin 1 [vv (.bool false)]) EL))
def EN:N:=.call 18 [vn 36,vn 13] (.op .not [vn 50] (.br (vn 51) (.fin 1 [vv (.bool false)]) EM))
def EO:N:=.call 18 [vn 32,vn 13] (.op .not [vn 48] (.br (vn 49) (.fin 1 [vv (.bool false)]) EN))
def EP:N:=.call 18 [vn 28,vn 13] (.op .not [vn 46] (.br (vn 47) (.fin 1 [vv (.bool false)]) EO))
def ER:N:=bo .neq [vn 41,vi 0] (.br (vn 45) (.fin 1 [vv (.bool false)]) EP)
def ES:N:=bo .neq [vn 37,vi 0] (.br (vn 44) (.fin 1 [vv (.bool false)]) ER)
def ET:N:=bo .neq [vn 33,vi 0] (.br (vn 43) (.fin 1 [vv (.bool false)]) ES)
def EU:N:=.op (.newSl 9 [(bs []),(bs [])] [(0,1),(1,1)]) [vv (bs [115,119,97,112]),vv (bs [115,119,97,112])] (.call 17 [vn 12,.sl (.n 26) 2] (.op (.ext 0) [vn 27] (.op (.ext 1) [vn 27] (.op (.newSl 9 [(bs []),(bs []),(bs [])] [(0,1),(1,1),(2,1)]) [vv (bs [114,111,116]),vv (bs [114,111,116]),vv (bs [114,111,116])] (.call 17 [vn 12,.sl (.n 30) 3] (.op (.ext 0) [vn 31] (.op (.ext 1) [vn 31] (.op (.newSl 9 [(bs []),(bs [])] [(0,1),(1,1)]) [vv (bs [100,117,112]),vv (bs [100,114,111,112])] (.call 17 [vn 12,.sl (.n 34) 2] (.op (.ext 0) [vn 35] (.op (.ext 1) [vn 35] (.op (.newSl 9 [(bs []),(bs []),(bs []),(bs []),(bs [])] [(0,1),(1,1),(2,1),(3,1),(4,1)]) [vv (bs [111,118,101,114]),vv (bs [110,105,112]),vv (bs [115,119,97,112]),vv (bs [100,114,111,112]),vv (bs [111,118,101,114])] (.call 17 [vn 12,.sl (.n 38) 5] (.op (.ext 0) [vn 39] (.op (.ext 1) [vn 39] (bo .neq [vn 29,vi 0] (.br (vn 42) (.fin 1 [vv (.bool false)]) ET)))))))))))))))))
def EV:N:=.op (.idxA 4) [vn 13,vi 2] (.op (.load (some 4)) [vn 22] (.call 16 [vn 23] (.op .not [vn 24] (.br (vn 25) EH EU))))
def EW:N:=.op (.idxA 4) [vn 13,vi 1] (.op (.load (some 4)) [vn 18] (.call 16 [vn 19] (.op .not [vn 20] (.br (vn 21) EG EV))))
def EX:N:=.op (.load (some 4)) [vn 3] (.op (.load (some 4)) [vn 4] (.op (.load (some 4)) [vn 5] (.op (.newSl 35 [(.int .i64 0),(.int .i64 0),(bs []),(.slice none 0 0),(.int .i64 0),(.int .i64 0),(bs []),(.slice none 0 0),(.int .i64 0),(.int .i64 0),(bs []),(.slice none 0 0)] [(0,4),(4,4),(8,4)]) [vn 8,vn 9,vn 10] (.call 12 [.sl (.n 11) 3] (.call 11 [vn 12] (.op (.idxA 4) [vn 13,vi 0] (.op (.load (some 4)) [vn 14] (.call 16 [vn 15] (.op .not [vn 16] (.br (vn 17) EF EW))))))))))
def t4:N:=.op (.box 35) [vn 0] (.op (.box 35) [vn 1] (.op (.box 35) [vn 2] (.call 10 [] (.op .not [vn 6] (.br (vn 7) (.fin 1 [vv (.bool false)]) EX)))))
def EY:N:=.op (.ext 1) [vn 10] (.call 73 [vn 11,vn 12] (.save (.op (.ext 0) [vn 13] (.op (.ext 1) [vn 13] (.self (vn 0) (.self (vn 0) (.self (vn 0) (.self (vn 1) (.chk 0 (.idxA 1) [vn 1,vi 0] (vn 4) (.chk 0 (.load none) [vn 4] (vn 5) (.self (vn 1) (.self (vn 1) (.chk 1 (.idxA 1) [vn 1,vi 1] (vn 7) (.chk 0 (.idxA 1) [vn 1,vi 1] (vn 7) (.chk 1 (.load none) [vn 7] (vn 8) (.chk 0 (.load none) [vn 7] (vn 8) (.chk 3 (.ext 0) [vn 10] (vn 11) (.chk 3 (.ext 1) [vn 10] (vn 12) (.chk 4 (.ext 0) [vn 13] (vn 14) (.chk 4 (.ext 1) [vn 13] (vn 15) (.self (vn 14) (.self (vn 15) (.op .tup [vn 14,vn 15] (.fin 1 [vn 16]))))))))))))))))))))))))
def EZ:N:=.bump 17 (.save (.op (.idxA 1) [vn 1,vi 0] (ld 4 (.call 75 [vn 5] (.save (.op (.idxA 1) [vn 1,vi 1] (ld 7 (.call 75 [vn 8] (.save (.call 74 [vn 0,vn 6,vn 9] (.save (.op (.ext 0) [vn 10] EY))))))))))))
def E3:N:=.op (.ext 1) [vn 11] (.call 73 [vn 12,vn 13] (.save (.op (.ext 0) [vn 14] (.op (.ext 1) [vn 14] (.self (vn 0) (.self (vn 0) (.self (vn 0) (.self (vn 1) (.chk 0 (.idxA 1) [vn 1,vi 0] (vn 5) (.chk 0 (.load none) [vn 5] (vn 6) (.self (vn 1) (.self (vn 1) (.chk 1 (.idxA 1) [vn 1,vi 1] (vn 8) (.chk 0 (.idxA 1) [vn 1,vi 1] (vn 8) (.chk 1 (.load none) [vn 8] (vn 9) (.chk 0 (.load none) [vn 8] (vn 9) (.chk 3 (.ext 0) [vn 11] (vn 12) (.chk 3 (.ext 1) [vn 11] (vn 13) (.chk 4 (.ext 0) [vn 14] (vn 15) (.chk 4 (.ext 1) [vn 14] (vn 16) (.self (vn 15) (.self (vn 16) (.op .tup [vn 15,vn 16] (.fin 1 [vn 17]))))))))))))))))))))))))
def E4:N:=.bump 17 (.save (.op (.idxA 1) [vn 1,vi 0] (ld 5 (.call 75 [vn 6] (.save (.op (.idxA 1) [vn 1,vi 1] (ld 8 (.call 75 [vn 9] (.save (.call 74 [vn 0,vn 7,vn 10] (.save (.op (.ext 0) [vn 11] E3))))))))))))
def E5:N:=.op (.ext 1) [vn 12] (.call 73 [vn 13,vn 14] (.save (.op (.ext 0) [vn 15] (.op (.ext 1) [vn 15] (.self (vn 0) (.self (vn 0) (.self (vn 0) (.self (vn 1) (.chk 0 (.idxA 1) [vn 1,vi 0] (vn 6) (.chk 0 (.load none) [vn 6] (vn 7) (.self (vn 1) (.self (vn 1) (.chk 1 (.idxA 1) [vn 1,vi 1] (vn 9) (.chk 0 (.idxA 1) [vn 1,vi 1] (vn 9) (.chk 1 (.load none) [vn 9] (vn 10) (.chk 0 (.load none) [vn 9] (vn 10) (.chk 3 (.ext 0) [vn 12] (vn 13) (.chk 3 (.ext 1) [vn 12] (vn 14) (.chk 4 (.ext 0) [vn 15] (vn 16) (.chk 4 (.ext 1) [vn 15] (vn 17) (.self (vn 16) (.self (vn 17) (.op .tup [vn 16,vn 17] (.fin 1 [vn 18]))))))))))))))))))))))))
def E6:N:=.bump 17 (.save (.op (.idxA 1) [vn 1,vi 0] (ld 6 (.call 75 [vn 7] (.save (.op (.idxA 1) [vn 1,vi 1] (ld 9 (.call 75 [vn 10] (.save (.call 74 [vn 0,vn 8,vn 11] (.save (.op (.ext 0) [vn 12] E5))))))))))))
def E7:N:=.op (.ext 1) [vn 13] (.call 73 [vn 14,vn 15] (.save (.op (.ext 0) [vn 16] (.op (.ext 1) [vn 16] (.self (vn 0) (.self (vn 0) (.self (vn 0) (.self (vn 1) (.chk 0 (.idxA 1) [vn 1,vi 0] (vn 7) (.chk 0 (.load none) [vn 7] (vn 8) (.self (vn 1) (.self (vn 1) (.chk 1 (.idxA 1) [vn 1,vi 1] (vn 10) (.chk 0 (.idxA 1) [vn 1,vi 1] (vn 10) (.chk 1 (.load none) [vn 10] (vn 11) (.chk 0 (.load none) [vn 10] (vn 11) (.chk 3 (.ext 0) [vn 13] (vn 14) (.chk 3 (.ext 1) [vn 13] (vn 15) (.chk 4 (.ext 0) [vn 16] (vn 17) (.chk 4 (.ext 1) [vn 16] (vn 18) (.self (vn 17) (.self (vn 18) (.op .tup [vn 17,vn 18] (.fin 1 [vn 19]))))))))))))))))))))))))
def E8:N:=.bump 17 (.save (.op (.idxA 1) [vn 1,vi 0] (ld 7 (.call 75 [vn 8] (.save (.op (.idxA 1) [vn 1,vi 1] (ld 10 (.call 75 [vn 11] (.save (.call 74 [vn 0,vn 9,vn 12] (.save (.op (.ext 0) [vn 13] E7))))))))))))
def E9:N:=.op (.ext 1) [vn 14] (.call 73 [vn 15,vn 16] (.save (.op (.ext 0) [vn 17] (.op (.ext 1) [vn 17] (.self (vn 0) (.self (vn 0) (.self (vn 0) (.self (vn 1) (.chk 0 (.idxA 1) [vn 1,vi 0] (vn 8) (.chk 0 (.load none) [vn 8] (vn 9) (.self (vn 1) (.self (vn 1) (.chk 1 (.idxA 1) [vn 1,vi 1] (vn 11) (.chk 0 (.idxA 1) [vn 1,vi 1] (vn 11) (.chk 1 (.load none) [vn 11] (vn 12) (.chk 0 (.load none) [vn 11] (vn 12) (.chk 3 (.ext 0) [vn 14] (vn 15) (.chk 3 (.ext 1) [vn 14] (vn 16) (.chk 4 (.ext 0) [vn 17] (vn 18) (.chk 4 (.ext 1) [vn 17] (vn 19) (.self (vn 18) (.self (vn 19) (.op .tup [vn 18,vn 19] (.fin 1 [vn 20]))))))))))))))))))))))))
def Ea:N:=.bump 17 (.save (.op (.idxA 1) [vn 1,vi 0] (ld 8 (.call 75 [vn 9] (.save (.op (.idxA 1) [vn 1,vi 1] (ld 11 (.call 75 [vn 12] (.save (.call 74 [vn 0,vn 10,vn 13] (.save (.op (.ext 0) [vn 14] E9))))))))))))
def Eb:N:=.op (.idxA 1) [vn 1,vi 0] (ld 8 (.call 75 [vn 9] (.call 76 [vn 0,vn 10] (.op (.ext 0) [vn 11] (.op (.ext 1) [vn 11] (.call 73 [vn 12,vn 13] (.op (.ext 0) [vn 14] (.op (.ext 1) [vn 14] (.op .tup [vn 15,vn 16] (.fin 1 [vn 17]))))))))))
def Ec:N:=.op (.idxA 1) [vn 1,vi 0] (ld 9 (.call 75 [vn 10] (.call 76 [vn 0,vn 11] (.op (.ext 0) [vn 12] (.op (.ext 1) [vn 12] (.call 73 [vn 13,vn 14] (.op (.ext 0) [vn 15] (.op (.ext 1) [vn 15] (.op .tup [vn 16,vn 17] (.fin 1 [vn 18]))))))))))
def Ed:N:=.call 75 [vn 12] (.save (.op (.idxA 1) [vn 1,vi 1] (ld 14 (.call 75 [vn 15] (.save (.op (.mm false) [vn 13,vn 16] (.op (.build [(.int .i64 0)] [(0,1)]) [vn 17] (.opAt 10 11 (.newSl 41 [.nilIface] [(0,1)]) [.ifc 45 (.n 18)] (.self (vn 1) (.chk 0 (.idxA 1) [vn 1,vi 0] (vn 11) (.chk 0 (.load none) [vn 11] (vn 12) (.self (vn 1) (.self (vn 1) (.chk 1 (.idxA 1) [vn 1,vi 1] (vn 14) (.chk 0 (.idxA 1) [vn 1,vi 1] (vn 14) (.chk 1 (.load none) [vn 14] (vn 15) (.chk 0 (.load none) [vn 14] (vn 15) (.chk 2 (.mm false) [vn 13,vn 16] (vn 17) (.chk 2 (.build [(.int .i64 0)] [(0,1)]) [vn 17] (vn 18) (.self (.ifc 45 (.n 18)) (.self (.sl (.n 19) 1) (.self (vi 0) (.op .tup [.sl (.n 19) 1,vi 0] (.fin 1 [vn 20]))))))))))))))))))))))))
def Ee:N:=.bump 14 (.save (.op (.idxA 1) [vn 1,vi 0] (ld 11 Ed)))
def Ef:N:=.call 75 [vn 13] (.save (.op (.idxA 1) [vn 1,vi 1] (ld 15 (.call 75 [vn 16] (.save (.op (.mm true) [vn 14,vn 17] (.op (.build [(.int .i64 0)] [(0,1)]) [vn 18] (.opAt 11 11 (.newSl 41 [.nilIface] [(0,1)]) [.ifc 45 (.n 19)] (.self (vn 1) (.chk 0 (.idxA 1) [vn 1,vi 0] (vn 12) (.chk 0 (.load none) [vn 12] (vn 13) (.self (vn 1) (.self (vn 1) (.chk 1 (.idxA 1) [vn 1,vi 1] (vn 15) (.chk 0 (.idxA 1) [vn 1,vi 1] (vn 15) (.chk 1 (.load none) [vn 15] (vn 16) (.chk 0 (.load none) [vn 15] (vn 16) (.chk 2 (.mm true) [vn 14,vn 17] (vn 18) (.chk 2 (.build [(.int .i64 0)] [(0,1)]) [vn 18] (vn 19) (.self (.ifc 45 (.n 19)) (.self (.sl (.n 20) 1) (.self (vi 0) (.op .tup [.sl (.n 20) 1,vi 0] (.fin 1 [vn 21]))))))))))))))))))))))))
def Eg:N:=.bump 14 (.save (.op (.idxA 1) [vn 1,vi 0] (ld 12 Ef)))
def Eh:N:=.op (.idxA 1) [vn 1,vi 0] (ld 13 (.call 75 [vn 14] (.save (.op (.idxA 1) [vn 1,vi 1] (ld 16 (.call 75 [vn 17] (.save (bo .lss [vn 15,vn 18] (.call 72 [vn 19] (.save (.self (vn 1) (.chk 0 (.idxA 1) [vn 1,vi 0] (vn 13) (.chk 0 (.load none) [vn 13] (vn 14) (.self (vn 1) (.self (vn 1) (.chk 1 (.idxA 1) [vn 1,vi 1] (vn 16) (.chk 0 (.idxA 1) [vn 1,vi 1] (vn 16) (.chk 1 (.load none) [vn 16] (vn 17) (.chk 0 (.load none) [vn 16] (vn 17) (.chk 2 (.bin .lss) [vn 15,vn 18] (vn 19) (.self (vn 20) (.self (vi 0) (.op .tup [vn 20,vi 0] (.fin 1 [vn 21]))))))))))))))))))))))))
def Ei:N:=.bump 12 (.save Eh)
def Ej:N:=.op (.idxA 1) [vn 1,vi 0] (ld 14 (.call 75 [vn 15] (.save (.op (.idxA 1) [vn 1,vi 1] (ld 17 (.call 75 [vn 18] (.save (bo .gtr [vn 16,vn 19] (.call 72 [vn 20] (.save (.self (vn 1) (.chk 0 (.idxA 1) [vn 1,vi 0] (vn 14) (.chk 0 (.load none) [vn 14] (vn 15) (.self (vn 1) (.self (vn 1) (.chk 1 (.idxA 1) [vn 1,vi 1] (vn 17) (.chk 0 (.idxA 1) [vn 1,vi 1] (vn 17) (.chk 1 (.load none) [vn 17] (vn 18) (.chk 0 (.load none) [vn 17] (vn 18) (.chk 2 (.bin .gtr) [vn 16,vn 19] (vn 20) (.self (vn 21) (.self (vi 0) (.op .tup [vn 21,vi 0] (.fin 1 [vn 22]))))))))))))))))))))))))
def Ek:N:=.bump 12 (.save Ej)
def El:N:=.bump 10 (.save (.op (.idxA 1) [vn 1,vi 0] (ld 15 (.op (.idxA 1) [vn 1,vi 1] (ld 17 (.call 77 [vn 16,vn 18] (.save (.call 72 [vn 19] (.save (.self (vn 1) (.chk 0 (.idxA 1) [vn 1,vi 0] (vn 15) (.chk 0 (.load none) [vn 15] (vn 16) (.self (vn 1) (.chk 0 (.idxA 1) [vn 1,vi 1] (vn 17) (.chk 0 (.load none) [vn 17] (vn 18) (.self (vn 20) (.self (vi 0) (.op .tup [vn 20,vi 0] (.fin 1 [vn 21])))))))))))))))))))
def Em:N:=.op (.idxA 1) [vn 1,vi 1] (ld 19 (.op (.ta 49 (.agg #[(.bool false)]) false) [vn 20] (.op (.field 0 none) [vn 21] (.call 72 [vn 22] (.op .tup [vn 23,vi 0] (.fin 1 [vn 24]))))))
def Eo:N:=.call 72 [vv (.bool false)] (.op .tup [vn 19,vi 0] (.fin 1 [vn 20]))
def Ep:N:=.op (.idxA 1) [vn 1,vi 0] (ld 15 (.op (.ta 49 (.agg #[(.bool false)]) false) [vn 16] (.op (.field 0 none) [vn 17] (.br (vn 18) Em Eo))))
def Er:N:=.call 72 [vv (.bool true)] (.op .tup [vn 20,vi 0] (.fin 1 [vn 21]))
def Es:N:=.op (.idxA 1) [vn 1,vi 1] (ld 20 (.op (.ta 49 (.agg #[(.bool false)]) false) [vn 21] (.op (.field 0 none) [vn 22] (.call 72 [vn 23] (.op .tup [vn 24,vi 0] (.fin 1 [vn 25]))))))
def Et:N:=.op (.idxA 1) [vn 1,vi 0] (ld 16 (.op (.ta 49 (.agg #[(.bool false)]) false) [vn 17] (.op (.field 0 none) [vn 18] (.br (vn 19) Er Es))))
def Eu:N:=.op (.idxA 1) [vn 1,vi 0] (ld 17 (.op (.ta 49 (.agg #[(.bool false)]) false) [vn 18] (.op (.field 0 none) [vn 19] (.op .not [vn 20] (.call 72 [vn 21] (.op .tup [vn 22,vi 0] (.fin 1 [vn 23])))))))
def Ev:N:=.op .tup [vv (.slice none 0 0),vi 0] (.fin 1 [vn 17])
def Ew:N:=bo .eql [vn 0,vv (bs [110,111,116])] (.br (vn 16) Eu Ev)
def Ex:N:=bo .eql [vn 0,vv (bs [111,114])] (.br (vn 15) Et Ew)
def Ey:N:=bo .eql [vn 0,vv (bs [97,110,100])] (.br (vn 14) Ep Ex)
def Ez:N:=bo .eql [vn 0,vv (bs [61])] (.br (vn 13) El Ey)
def FA:N:=bo .eql [vn 0,vv (bs [62])] (.br (vn 12) Ek Ez)
def FB:N:=bo .eql [vn 0,vv (bs [60])] (.br (vn 11) Ei FA)
def FC:N:=bo .eql [vn 0,vv (bs [109,97,120])] (.br (vn 10) Eg FB)
def FD:N:=bo .eql [vn 0,vv (bs [109,105,110])] (.br (vn 9) Ee FC)
def FE:N:=bo .eql [vn 0,vv (bs [97,98,115])] (.br (vn 8) Ec FD)
def FF:N:=bo .eql [vn 0,vv (bs [110,101,103])] (.br (vn 7) Eb FE)
def FG:N:=bo .eql [vn 0,vv (bs [109,111,100])] (.br (vn 6) Ea FF)
def FH:N:=bo .eql [vn 0,vv (bs [47])] (.br (vn 5) E8 FG)
def FI:N:=bo .eql [vn 0,vv (bs [42])] (.br (vn 4) E6 FH)
def FJ:N:=bo .eql [vn 0,vv (bs [45])] (.br (vn 3) E4 FI)
def t44:N:=bo .eql [vn 0,vv (bs [43])] (.br (vn 2) EZ FJ)
def FK:N:=.op (.idxA 1) [vn 1,vi 0] (ld 3 (.call 78 [vn 4] (.op (.build [(.int .i64 0)] [(0,1)]) [vn 5] (.op (.newSl 41 [.nilIface] [(0,1)]) [.ifc 45 (.n 6)] (.op .tup [.sl (.n 7) 1,vi 0] (.fin 1 [vn 8]))))))
def FL:N:=ld 5 (.op (.idxA 1) [vn 1,vi 1] (ld 7 (.call 79 [vn 6,vn 8] (.save (.op (.ext 0) [vn 9] (.op (.ext 1) [vn 9] (.call 73 [vn 10,vn 11] (.save (.op (.ext 0) [vn 12] (.op (.ext 1) [vn 12] (.self (vn 1) (.chk 0 (.idxA 1) [vn 1,vi 0] (vn 5) (.chk 0 (.load none) [vn 5] (vn 6) (.self (vn 1) (.chk 0 (.idxA 1) [vn 1,vi 1] (vn 7) (.chk 0 (.load none) [vn 7] (vn 8) (.chk 1 (.ext 0) [vn 9] (vn 10) (.chk 1 (.ext 1) [vn 9] (vn 11) (.chk 2 (.ext 0) [vn 12] (vn 13) (.chk 2 (.ext 1) [vn 12] (vn 14) (.self (vn 13) (.self (vn 14) (.op .tup [vn 13,vn 14] (.fin 1 [vn 15]))))))))))))))))))))))))
def FM:N:=.bump 14 (.save (.op (.idxA 1) [vn 1,vi 0] FL))
def FN:N:=ld 6 (.op (.idxA 1) [vn 1,vi 1] (ld 8 (.call 79 [vn 7,vn 9] (.save (.op (.ext 0) [vn 10] (.op (.ext 1) [vn 10] (.call 73 [vn 11,vn 12] (.save (.op (.ext 0) [vn 13] (.op (.ext 1) [vn 13] (.self (vn 1) (.chk 0 (.idxA 1) [vn 1,vi 0] (vn 6) (.chk 0 (.load none) [vn 6] (vn 7) (.self (vn 1) (.chk 0 (.idxA 1) [vn 1,vi 1] (vn 8) (.chk 0 (.load none) [vn 8] (vn 9) (.chk 1 (.ext 0) [vn 10] (vn 11) (.chk 1 (.ext 1) [vn 10] (vn 12) (.chk 2 (.ext 0) [vn 13] (vn 14) (.chk 2 (.ext 1) [vn 13] (vn 15) (.self (vn 14) (.self (vn 15) (.op .tup [vn 14,vn 15] (.fin 1 [vn 16]))))))))))))))))))))))))
def FO:N:=.bump 14 (.save (.op (.idxA 1) [vn 1,vi 0] FN))
def FP:N:=.op (.fld 0) [vn 18] (ld 20 (.op (.idxA 1) [vn 21,vi 0] (ld 22 (.call 73 [vn 23,vn 14] (.op (.ext 0) [vn 24] (.op (.ext 1) [vn 24] (.op .tup [vn 25,vn 26] (.fin 1 [vn 27]))))))))
def FQ:N:=.call 73 [vn 13,vn 14] (.op (.ext 0) [vn 20] (.op (.ext 1) [vn 20] (.op .tup [vn 21,vn 22] (.fin 1 [vn 23]))))
def FR:N:=.op (.idxA 1) [vn 1,vi 0] (ld 6 (.call 75 [vn 7] (bo .add [vn 8,vi 1] (.op (.idxA 1) [vn 1,vi 1] (ld 10 (.call 80 [vn 8,vn 9,vn 11] (.op (.ext 0) [vn 12] (.op (.ext 1) [vn 12] (.op (.ta 52 (.agg #[(.slice none 0 0)]) true) [vn 13] (.op (.ext 0) [vn 15] (.op (.ext 1) [vn 15] (.op (.alloc 52 [(.slice none 0 0)]) [] (.op (.store 1) [vn 18,vn 16] (.br (vn 17) FP FQ))))))))))))))
def FS:N:=.chk 0 (.idxA 1) [vn 1,vi 0] (vn 8) (.chk 0 (.load none) [vn 8] (vn 9) (.self (vn 1) (.self (vn 1) (.chk 1 (.idxA 1) [vn 1,vi 1] (vn 11) (.chk 0 (.idxA 1) [vn 1,vi 1] (vn 11) (.chk 1 (.load none) [vn 11] (vn 12) (.chk 0 (.load none) [vn 11] (vn 12) (.self (vn 1) (.self (vn 1) (.self (vn 1) (.chk 2 (.idxA 1) [vn 1,vi 2] (vn 14) (.chk 1 (.idxA 1) [vn 1,vi 2] (vn 14) (.chk 0 (.idxA 1) [vn 1,vi 2] (vn 14) (.chk 2 (.load none) [vn 14] (vn 15) (.chk 1 (.load none) [vn 14] (vn 15) (.chk 0 (.load none) [vn 14] (vn 15) (.chk 3 (.ext 0) [vn 16] (vn 17) (.chk 3 (.ext 1) [vn 16] (vn 18) (.chk 4 (.ext 0) [vn 19] (vn 20) (.chk 4 (.ext 1) [vn 19] (vn 21) (.self (vn 20) (.self (vn 21) (.op .tup [vn 20,vn 21] (.fin 1 [vn 22]))))))))))))))))))))))))
def FT:N:=.bump 19 (.save (.op (.idxA 1) [vn 1,vi 0] (ld 8 (.call 75 [vn 9] (.save (.op (.idxA 1) [vn 1,vi 1] (ld 11 (.call 75 [vn 12] (.save (.op (.idxA 1) [vn 1,vi 2] (ld 14 (.call 80 [vn 10,vn 13,vn 15] (.save (.op (.ext 0) [vn 16] (.op (.ext 1) [vn 16] (.call 73 [vn 17,vn 18] (.save (.op (.ext 0) [vn 19] (.op (.ext 1) [vn 19] (.self (vn 1) FS))))))))))))))))))))
def FU:N:=.op (.build [(.slice none 0 0)] [(0,1)]) [vn 1] (.op (.newSl 41 [.nilIface] [(0,1)]) [.ifc 52 (.n 8)] (.op .tup [.sl (.n 9) 1,vi 0] (.fin 1 [vn 10])))
def FV:N:=.op (.build [(.slice none 0 0)] [(0,1)]) [vn 1] (.op (.newSl 41 [.nilIface] [(0,1)]) [.ifc 52 (.n 9)] (.op .tup [.sl (.n 10) 1,vi 0] (.fin 1 [vn 11])))
def FW:N:=.op .tup [vv (.slice none 0 0),vi 4] (.fin 1 [vn 16])
def FX:N:=.op .tup [vn 13,vi 0] (.fin 1 [vn 16])
def FY:N:=.op (.idxA 1) [vn 1,vi 0] (ld 10 (.op (.ta 52 (.agg #[(.slice none 0 0)]) false) [vn 11] (.op (.field 0 none) [vn 12] (.op .lenL [vn 13] (bo .neq [vn 14,vi 2] (.br (vn 15) FW FX))))))
def FZ:N:=.op (.idxA 1) [vn 1,vi 0] (ld 11 (.call 81 [vn 12] (.op (.newSl 41 [.nilIface] [(0,1)]) [vn 13] (.op .tup [.sl (.n 14) 1,vi 0] (.fin 1 [vn 15])))))
def F0:N:=.op (.idxA 1) [vn 1,vi 1] (ld 17 (.op (.ta 76 (.agg #[(.slice none 0 0)]) false) [vn 18] (.op (.field 0 none) [vn 19] (.opAt 12 11 (.newSl 73 [(.slice none 0 0),(.slice none 0 0)] [(0,1),(1,1)]) [.sl (.n 16) 1,vn 20] (.call 82 [.sl (.n 21) 2] (.save (.op (.build [(.slice none 0 0)] [(0,1)]) [vn 22] (.opAt 12 15 (.newSl 41 [.nilIface] [(0,1)]) [.ifc 76 (.n 23)] (.self (vn 1) (.chk 0 (.idxA 1) [vn 1,vi 0] (vn 13) (.chk 0 (.load none) [vn 13] (vn 14) (.chk 0 (.build [.nilIface] [(0,1)]) [vn 14] (vn 15) (.self (.ifc 134 (.n 15)) (.self (vn 1) (.chk 0 (.idxA 1) [vn 1,vi 1] (vn 17) (.chk 0 (.load none) [vn 17] (vn 18) (.chk 0 (.ta 76 (.agg #[(.slice none 0 0)]) false) [vn 18] (vn 19) (.chk 0 (.field 0 none) [vn 19] (vn 20) (.chk 1 (.build [(.slice none 0 0)] [(0,1)]) [vn 22] (vn 23) (.self (.ifc 76 (.n 23)) (.self (.sl (.n 24) 1) (.self (vi 0) (.op .tup [.sl (.n 24) 1,vi 0] (.fin 1 [vn 25]))))))))))))))))))))))))
def F3:N:=.bump 18 (.save (.op (.idxA 1) [vn 1,vi 0] (ld 13 (.op (.build [.nilIface] [(0,1)]) [vn 14] (.opAt 12 5 (.newSl 100 [.nilIface] [(0,1)]) [.ifc 134 (.n 15)] F0)))))
def F4:N:=.op (.idxA 1) [vn 1,vi 0] (ld 13 (.call 83 [vn 14] (.op (.build [(bs [])] [(0,1)]) [vn 15] (.op (.newSl 41 [.nilIface] [(0,1)]) [.ifc 72 (.n 16)] (.op .tup [.sl (.n 17) 1,vi 0] (.fin 1 [vn 18]))))))
def F5:N:=.op (.idxA 1) [vn 1,vi 0] (ld 13 (.op (.ta 72 (.agg #[(bs [])]) false) [vn 14] (.op (.field 0 none) [vn 15] (.call 84 [vn 16] (.op (.ext 0) [vn 17] (.op (.ext 1) [vn 17] (.op (.build [(.int .i64 0)] [(0,1)]) [vn 18] (.op (.newSl 41 [.nilIface] [(0,1)]) [.ifc 45 (.n 20)] (.op .tup [.sl (.n 21) 1,vn 19] (.fin 1 [vn 22]))))))))))
def F6:N:=bo .eql [vn 0,vv (bs [62,115,116,114])] (.br (vn 12) F4 F5)
def F7:N:=bo .eql [vn 0,vv (bs [99,117,114,114,121])] (.br (vn 11) F3 F6)
def F8:N:=bo .eql [vn 0,vv (bs [114,101,118,101,114,115,101])] (.br (vn 10) FZ F7)
def F9:N:=bo .eql [vn 0,vv (bs [117,110,112,97,105,114])] (.br (vn 9) FY F8)
def Fa:N:=bo .eql [vn 0,vv (bs [112,97,105,114])] (.br (vn 8) FV F9)
def Fb:N:=bo .eql [vn 0,vv (bs [119,114,97,112])] (.br (vn 7) FU Fa)
def Fc:N:=bo .eql [vn 0,vv (bs [115,108,105,99,101])] (.br (vn 6) FT Fb)
def Fe:N:=bo .eql [vn 0,vv (bs [110,116,104])] (.br (vn 5) FR Fc)
def Ff:N:=bo .eql [vn 0,vv (bs [99,111,109,112,111,115,101])] (.br (vn 4) FO Fe)
def Fg:N:=bo .eql [vn 0,vv (bs [97,112,112,101,110,100])] (.br (vn 3) FM Ff)
def t45:N:=bo .eql [vn 0,vv (bs [108,101,110,103,116,104])] (.br (vn 2) FK Fg)
def t73:N:=.op (.newSl 41 [.nilIface] [(0,1)]) [vn 0] (.op .tup [.sl (.n 2) 1,vn 1] (.fin 1 [vn 3]))
def t75:N:=.op (.ta 45 (.agg #[(.int .i64 0)]) false) [vn 0] (.op (.field 0 none) [vn 1] (.fin 1 [vn 2]))
end Go.AM.PV
namespace Go.AM.PV
open Go Go.AM Go.AM.SX
section
variable (inf:Nat->TypeInfo)
def n0:N:=.op (.newSl 41 [] []) [] (.op (.app 41 (inf 41) .nilIface) [.sl (.n 2) 0,vn 0] (.fin 1 [vn 3]))
def t115:N:=.op (.eqn (.slice 41) false) [vn 0,vv (.slice none 0 0)] (.br (vn 1) (.fin 1 [vv (.slice none 0 0)]) (n0 inf))
end
end Go.AM.PV
namespace Go.AM.PV
open Go Go.AM Go.AM.SX
section
variable {E:Env} {gl:List GRow} {cfg:Cfg} {fuel:Nat}
theorem Fh {A:Go.AM.St} {i:TypeInfo} {w:Value} {n:Nat} {new:List Value} (h1:i.size=1) (h2:i.bytes=16) (h0:0 < n) (hn:n<=1048576) (hw:cz (A.newRow 41 []).2 1 w=some (n,new)) (hl:new.length=n) (ho:new.all one=true) :
  aB (.app 41 i .nilIface) [.slice (some ⟨A.next,0,none⟩) 0 0,w] (A.newRow 41 []).2=some (.slice (some ⟨A.next+1,0,none⟩) n n,(ay (A.newRow 41 []).2 41 1 n new).2):=by
 simp only [aB]
 rw [h1,hw]
 show (if (1:Nat)≠0/\new.length=n * 1/\(0+n) * i.bytes<=140737488355328/\0+n<=4611686018427387904/\_/\new.all one=true then if 0+n<=0 then b8 _ _ 1 0 n 0 new else bI (A.newRow 41 []).2 41 i (some ⟨A.next,0,none⟩) 0 n new else none)=_
 rw [if_pos ⟨by omega,by omega,by rw [h2];omega,by omega,rfl,ho⟩,if_neg (by omega)]
 have hr:(A.newRow 41 []).2.row? A.next=some { own:=true,size:=0,cells:=T.ofList [],elem:=41,esz:=0,opn:=false,grp:=A.next,frz:=0,sb:=false }:=by
  unfold Go.AM.St.row?
  show (match (A.h.set A.next _).get A.next with | some (.row r)=>some r | _=>none)=_
  rw [T.get_set_same]
  rfl
 unfold bI
 simp only [hr,h1]
 rw [if_pos (by omega)]
 show some (ay (A.newRow 41 []).2 41 1 (0+n) ([]++new))=_
 rw [Nat.zero_add]
 rfl
theorem Fi (hE:SxEnv E) {inf:Nat->TypeInfo} (h115:aC E cfg fuel 115 1=some (t115 inf)) (hi1:(inf 41).size=1) (hi2:(inf 41).bytes=16) {l:List P} {n:Nat} (h0:0 < n) (hn:n<=1048576):PR E gl 115 [.sl 1 n l] [] (.ms 0 0 n n) [.cells l]:=by
 intro A β S vs gs gm R
 obtain rfl:β=[]:=by have:=R.objs;cases this;rfl
 obtain rfl:gm=[]:=by have:=R.objs;cases this;rfl
 obtain ⟨v,rfl,hr,rfl⟩:∃ v,vs=[v]/\Rep [] S A.h v (.sl 1 n l)/\gs=[]:=by
  have r:=R.vars
  cases r with
  | cons v p g vs ps gs hr hn =>
   cases hn
   obtain ⟨h1,rfl⟩:=hr
   exact ⟨v,rfl,h1,rfl⟩
 have R0:RS gl A [] S noF [] [] [] [] []:=R.setVars .nil ⟨[],List.Perm.refl _⟩
 obtain ⟨a,c,rfl⟩:∃ a c,v=.slice (some a) n c:=by
  cases hr with
  | nil=>omega
  | sl a _ _ c=>exact ⟨a,c,rfl⟩
 obtain ⟨R1,X1⟩:=R0.newRow (m:=0) (b:=A.next) (B:=(A.newRow 41 []).2) (F':=noF) (v:=.bool true) (p:=.c (.bool true)) (.inl (Nat.le_refl _)) rfl rfl (Nat.le_succ _) (Nat.lt_succ_self _) (fun _ h=>h.elim) (.c _)
 have hr1:Rep [] (orB S A.next) (A.newRow 41 []).2.h (.slice (some a) n c) (.sl 1 n l):=hr.mono (fun _ h=>.inl h) (fun b hb=>T.get_set_other _ _ (fun e=>absurd (R.S_lt b hb) (by omega))) (fun _ _ h=>h)
 obtain ⟨new,e1,k1,s1,a1⟩:=dX (A:=(A.newRow 41 []).2) rfl hr1 (sz:=1) rfl
 have R2:RS gl (A.newRow 41 []).2 [] (orB S A.next) noF [] [] [] [] []:=R1.setVars .nil ⟨[],List.Perm.refl _⟩
 obtain ⟨R3,X3⟩:=R2.newObj (m:=0) (b:=A.next+1) (B:=(ay (A.newRow 41 []).2 41 1 n new).2) (w:=dB (T.ofList new) new.length 41 1 (A.next+1) 0 false) (vs:=new) (l:=l) (F':=noF) (v:=.slice (some ⟨A.next+1,0,none⟩) n n) (p:=.ms 0 0 n n)
  (.inl (Nat.le_refl _)) rfl rfl (Nat.le_succ _) (Nat.lt_succ_self _) ⟨rfl,fun _=>rfl,rfl,rfl,rfl,fun i _=>T.get_ofList _ _⟩ a1 k1 (fun _ h=>h.elim) (fun h=>.ms 0 (A.next+1) 0 n n rfl) (Nat.le_refl _)
 obtain ⟨v,B,hrun,rfl,rfl⟩:=gH hE (vs:=[.slice (some a) n c]) h115 (A:=A) (Q:=fun v B=>v=.slice (some ⟨A.next+1,0,none⟩) n n/\B=(ay (A.newRow 41 []).2 41 1 n new).2) (by
  unfold t115
  refine aE (v:=.bool false) (A':=A) rfl ?_
  refine bx rfl ?_
  unfold n0
  refine aE (v:=.pointer (some ⟨A.next,0,none⟩)) (A':=(A.newRow 41 []).2) rfl ?_
  refine aE (Fh hi1 hi2 h0 hn e1 (by omega) a1) ?_
  refine aj ?_
  intro v hv
  cases hv
  exact ⟨rfl,rfl⟩)
 exact ⟨_,_,_,_,_,_,hrun,X1.trans X3 (Nat.le_refl _) (fun _ h=>h.elim),R3⟩
theorem Fj (hE:SxEnv E) {inf:Nat->TypeInfo} (h115:aC E cfg fuel 115 1=some (t115 inf)) (hi1:(inf 41).size=1) (hi2:(inf 41).bytes=16):PR E gl 115 [.sl 1 0 []] [] (.sl 1 0 []) []:=by
 intro A β S vs gs gm R
 obtain rfl:β=[]:=by have:=R.objs;cases this;rfl
 obtain rfl:gm=[]:=by have:=R.objs;cases this;rfl
 obtain ⟨v,rfl,hr,rfl⟩:∃ v,vs=[v]/\Rep [] S A.h v (.sl 1 0 [])/\gs=[]:=by
  have r:=R.vars
  cases r with
  | cons v p g vs ps gs hr hn =>
   cases hn
   obtain ⟨h1,rfl⟩:=hr
   exact ⟨v,rfl,h1,rfl⟩
 have R0:RS gl A [] S noF [] [] [] [] []:=R.setVars .nil ⟨[],List.Perm.refl _⟩
 obtain rfl | ⟨a,c,rfl⟩:v=.slice none 0 0\/∃ a c,v=.slice (some a) 0 c:=by
  cases hr with
  | nil=>exact .inl rfl
  | sl a _ _ c=>exact .inr ⟨a,c,rfl⟩
 ·obtain ⟨v,B,hrun,rfl,rfl⟩:=gH hE (vs:=[.slice none 0 0]) h115 (A:=A) (Q:=fun v B=>v=.slice none 0 0/\B=A) (by
   unfold t115
   refine aE (v:=.bool true) (A':=A) rfl ?_
   refine cN rfl ?_
   refine aj ?_
   intro v hv
   cases hv
   exact ⟨rfl,rfl⟩)
  exact ⟨_,_,_,_,_,_,hrun,Ext.refl 0 _ [] S noF [] [] (fun k hk=>hk),R⟩
 ·obtain ⟨R1,X1⟩:=R0.newRow (m:=0) (b:=A.next) (B:=(A.newRow 41 []).2) (F':=noF) (v:=.slice (some ⟨A.next,0,none⟩) 0 0) (p:=.sl 1 0 []) (.inl (Nat.le_refl _)) rfl rfl (Nat.le_succ _) (Nat.lt_succ_self _) (fun _ h=>h.elim)
   (.sl ⟨A.next,0,none⟩ 1 0 0 [] [] (.inr rfl) ⟨rfl,_,T.get_set_same _ _ _,fun e=>(by cases e),Nat.le_refl _,rfl,fun i hi=>(by cases hi)⟩ rfl (Nat.le_refl _) .nil)
  have hr1:Rep [] (orB S A.next) (A.newRow 41 []).2.h (.slice (some a) 0 c) (.sl 1 0 []):=hr.mono (fun _ h=>.inl h) (fun b hb=>T.get_set_other _ _ (fun e=>absurd (R.S_lt b hb) (by omega))) (fun _ _ h=>h)
  obtain ⟨new,e1,k1,s1,a1⟩:=dX (A:=(A.newRow 41 []).2) rfl hr1 (sz:=1) rfl
  obtain rfl:new=[]:=List.length_eq_zero_iff.1 (by omega)
  obtain ⟨v,B,hrun,rfl,rfl⟩:=gH hE (vs:=[.slice (some a) 0 c]) h115 (A:=A) (Q:=fun v B=>v=.slice (some ⟨A.next,0,none⟩) 0 0/\B=(A.newRow 41 []).2) (by
   unfold t115
   refine aE (v:=.bool false) (A':=A) rfl ?_
   refine bx rfl ?_
   unfold n0
   refine aE (v:=.pointer (some ⟨A.next,0,none⟩)) (A':=(A.newRow 41 []).2) rfl ?_
   refine aE (v:=.slice (some ⟨A.next,0,none⟩) 0 0) (A':=(A.newRow 41 []).2) ?_ ?_
   ·show aB (.app 41 (inf 41) .nilIface) [.slice (some ⟨A.next,0,none⟩) 0 0,.slice (some a) 0 c] (A.newRow 41 []).2=_
    simp only [aB]
    rw [hi1,e1]
    show (if (1:Nat)≠0/\([]:List Value).length=0 * 1/\(0+0) * (inf 41).bytes<=140737488355328/\0+0<=4611686018427387904/\_/\([]:List Value).all one=true then if 0+0<=0 then b8 _ (some ⟨A.next,0,none⟩) 1 0 0 0 [] else _ else none)=_
    rw [if_pos ⟨by omega,by omega,by rw [hi2];omega,by omega,rfl,rfl⟩]
    rfl
   refine aj ?_
   intro v hv
   cases hv
   exact ⟨rfl,rfl⟩)
  exact ⟨_,_,_,_,_,_,hrun,X1,R1⟩
end
end Go.AM.PV
namespace Go.AM.PV
open Go Go.AM Go.AM.SX
section
variable (inf:Nat->TypeInfo)
def Fk:N:=bo .add [vn 3,vi 1] (.fin 0 [vn 8,vn 10])
def Fl:N:=.op (.idxA 1) [vn 0,vn 3] (ld 5 (.op .lenL [vn 6] (bo .add [vn 2,vn 7] (bo .lss [vn 8,vi 0] (.br (vn 9) .bad Fk)))))
def Fm:N:=bo .lss [vn 3,vn 1] (.br (vn 4) Fl (.fin 2 [vn 2,vn 3]))
def Fo:N:=.op (.idxA 1) [vn 0,vn 16] (ld 18 (.op (.app 100 (inf 100) .nilIface) [vn 15,vn 19] (bo .add [vn 16,vi 1] (.fin 0 [vn 20,vn 21]))))
def Fp:N:=bo .lss [vn 16,vn 14] (.br (vn 17) (Fo inf) (.fin 4 [vn 15,vn 16]))
def Fq:N:=.sw 15 4 (.fin 1 [vn 16]) .bad
def Fs:N:=.op .capL [vv (.slice none 0 0)] (.op (.subL 1 false true false) [vv (.slice none 0 0),vn 10] (.op (.appZ 100 (inf 100) .nilIface) [vn 11,vn 8] (.op (.subL 1 false true false) [vn 12,vi 0] (.op .lenL [vn 0] (.loop [vn 13,vi 0] (Fp inf) Fq)))))
def Ft:N:=.op (.idxA 1) [vn 0,vn 12] (ld 14 (.op (.app 100 (inf 100) .nilIface) [vn 11,vn 15] (bo .add [vn 12,vi 1] (.fin 0 [vn 16,vn 17]))))
def Fu:N:=bo .lss [vn 12,vn 10] (.br (vn 13) (Ft inf) (.fin 4 [vn 11,vn 12]))
def Fv:N:=.sw 11 4 (.fin 1 [vn 12]) .bad
def Fw:N:=.op .lenL [vn 0] (.loop [vv (.slice none 0 0),vi 0] (Fu inf) Fv)
def Fx:N:=.op .capL [vv (.slice none 0 0)] (bo .sub [vn 6,vi 0] (bo .sub [vn 3,vn 7] (bo .gtr [vn 8,vi 0] (.br (vn 9) (Fs inf) (Fw inf)))))
def Fy:N:=bo .lss [vn 3,vi 0] (.br (vn 5) .bad (Fx inf))
def Fz:N:=.sw 2 2 (Fy inf) .bad
def t82:N:=.op .lenL [vn 0] (.loop [vi 0,vi 0] Fm (Fz inf))
end
theorem GA {i:TypeInfo} {n:Nat} {A:Go.AM.St} (h1:i.size=1) (h2:i.bytes=16) (h0:0 < n) (hn:n<=4194304) :
  aB (.appZ 100 i .nilIface) [.slice none 0 0,goInt n] A=some (ay A 100 1 n (zeros [.nilIface] n)):=by
 have hz:=dI .nilIface rfl n
 show (if 0<=(n:Int)/\(n:Int)<=4294967296/\(Value.cells .nilIface).size=i.size then (if i.size≠0/\(zeros [Value.nilIface] ((n:Int).toNat)).length=(n:Int).toNat * i.size/\(0+(n:Int).toNat) * i.bytes<=140737488355328/\0+(n:Int).toNat<=4611686018427387904/\(Value.cells .nilIface).size=i.size/\(zeros [Value.nilIface] ((n:Int).toNat)).all one=true then
   if 0+(n:Int).toNat<=0 then b8 A none i.size 0 (n:Int).toNat 0 (zeros [Value.nilIface] ((n:Int).toNat)) else bI A 100 i none 0 (n:Int).toNat (zeros [Value.nilIface] ((n:Int).toNat))
  else none) else none)=_
 rw [if_pos ⟨by omega,by omega,by rw [h1];rfl⟩]
 rw [Int.toNat_natCast,if_pos ⟨by omega,by rw [h1,hz.1];omega,by rw [h2];omega,by omega,by rw [h1];rfl,hz.2⟩,if_neg (by omega)]
 show some (ay A 100 i.size n _)=_
 rw [h1]
theorem sh {A B:Go.AM.St} {e:TypeId} {cs:List Value} {r:Row} {i:TypeInfo} {z w:Value} {n off m:Nat} {new:List Value} (h1:i.size=1) (h2:i.bytes=16) (h:OpB A B e cs r) (hg:A.g.get A.next=none) (hcs:cs.length=n) (hn:n<=4194304) (hm:off+m<=n)
  (hw:cz B 1 w=some (m,new)) (hl:new.length=m) (ho:new.all one=true) (hz:z.cells.size=1) :
  ∃ B' r',aB (.app e i z) [.slice (some ⟨A.next,0,none⟩) off n,w] B=some (.slice (some ⟨A.next,0,none⟩) (off+m) n,B')/\OpB A B' e (setFrom cs off new) r':=by
 have hs:∀ x,b8 B (some ⟨A.next,0,none⟩) i.size off m n new=some x->aB (.app e i z) [.slice (some ⟨A.next,0,none⟩) off n,w] B=some x:=by
  intro x hx
  simp only [aB]
  rw [h1,hw]
  show (if (1:Nat)≠0/\new.length=m * 1/\(off+m) * i.bytes<=140737488355328/\off+m<=4611686018427387904/\z.cells.size=1/\new.all one=true then if off+m<=n then b8 B _ 1 off m n new else bI B e i _ off m new else none)=_
  rw [if_pos ⟨by omega,by omega,by rw [h2];omega,by omega,hz,ho⟩,if_pos hm,<- h1]
  exact hx
 cases m with
 | zero =>
  have hnil:new=[]:=List.length_eq_zero_iff.1 hl
  subst hnil
  exact ⟨B,r,hs _ rfl,h⟩
 | succ m =>
  obtain ⟨B',r',k1,k2⟩:=h.store hg (off:=off) (new:=new) (by omega) ho
  refine ⟨B',r',hs _ ?_,k2⟩
  unfold b8
  simp only [aJ,h1,Nat.zero_add,Nat.mul_one]
  rw [k1]
theorem si {A:Go.AM.St} {i:TypeInfo} {w:Value} {new:List Value} (h1:i.size=1) (_h2:i.bytes=16) (hw:cz A 1 w=some (0,new)) (hl:new.length=0) (ho:new.all one=true) :
  aB (.app 100 i .nilIface) [.slice none 0 0,w] A=some (.slice none 0 0,A):=by
 simp only [aB]
 rw [h1,hw]
 show (if (1:Nat)≠0/\new.length=0 * 1/\(0+0) * i.bytes<=140737488355328/\0+0<=4611686018427387904/\_/\new.all one=true then if 0+0<=0 then b8 A none 1 0 0 0 new else bI A 100 i none 0 0 new else none)=_
 rw [if_pos ⟨by omega,by omega,by omega,by omega,rfl,ho⟩]
 rfl
section
variable {E:Env} {gl:List GRow} {cfg:Cfg} {fuel:Nat}
theorem GB (hE:SxEnv E) {inf:Nat->TypeInfo} (h82:aC E cfg fuel 82 1=some (t82 inf)) (hi1:(inf 100).size=1) (hi2:(inf 100).bytes=16) {q1 q2:P} {n1 n2:Nat} {l1 l2:List P} (hs1:SlP q1 n1 l1) (hs2:SlP q2 n2 l2) (hn1:n1<=2097152) (hn2:n2<=2097152) (μ:Mu) :
  PR E gl 82 [.fx 1 2 [q1,q2]] μ (.ow 100 1 (n1+n2) (l1++l2)) μ:=by
 intro A β S vs gs gm R
 obtain ⟨v,rfl,hr,rfl⟩:∃ v,vs=[v]/\Rep β S A.h v (.fx 1 2 [q1,q2])/\gs=[]:=by
  have r:=R.vars
  cases r with
  | cons v p g vs ps gs hr hn =>
   cases hn
   obtain ⟨h1,rfl⟩:=hr
   exact ⟨v,rfl,h1,rfl⟩
 obtain ⟨a,w1,w2,rfl,haS,hRd,hr1,hr2⟩:∃ a w1 w2,v=.slice (some a) 2 2/\S a.block/\Rdc A.h 1 a [w1,w2]/\Rep β S A.h w1 q1/\Rep β S A.h w2 q2:=by
  cases hr with
  | fx a _ _ vs _ h1 h2 _ h5 =>
   cases h5 with
   | cons w1 _ vs _ k1 h5=>cases h5 with
    | cons w2 _ vs _ k2 h5 =>
     cases h5
     exact ⟨a,w1,w2,rfl,h1,h2.rdc 1,k1,k2⟩
 have R0:RS gl A β S noF [] [] [] μ gm:=R.setVars .nil ⟨[],List.Perm.refl _⟩
 obtain ⟨b1,c1,rfl⟩:=hs1.val hr1
 obtain ⟨b2,c2,rfl⟩:=hs2.val hr2
 have hq1:=hs1.new
 have hq2:=hs2.new
 have hg0:A.g.get A.next=none:=R.ginv _ (Nat.le_refl _)
 have hSA:∀ {r:Row} {cs:List Value} (B:Go.AM.St),OpB A B 100 cs r->∀ b,S b->B.h.get b=A.h.get b:=fun B o b hb=>o.oth b fun e=>absurd (R.S_lt b hb) (by omega)
 suffices h:∃ v B,cP E 82 [.slice (some a) 2 2] A v B/\∃ S' gs',Ext μ.length A β S noF [] gm B β S' gs' gm/\RS gl B β S' noF [v] [.ow 100 1 (n1+n2) (l1++l2)] gs' μ gm by
  obtain ⟨v,B,h1,S',gs',h2,h3⟩:=h
  exact ⟨v,B,β,S',gs',gm,h1,h2,h3⟩
 refine gH hE (vs:=[.slice (some a) 2 2]) h82 (A:=A) (Q:=fun v B=>∃ S' gs',Ext μ.length A β S noF [] gm B β S' gs' gm/\RS gl B β S' noF [v] [.ow 100 1 (n1+n2) (l1++l2)] gs' μ gm) ?_
 unfold t82
 refine aE (v:=goInt 2) (A':=A) (rfl) ?_
 try dsimp only [List.cons_append,List.nil_append]
 refine ⟨3,?_⟩
 try dsimp only [denL,List.map,X.den,At.den,vv,vi,vn,SX.look,List.cons_append,List.nil_append]
 rw [b6]
 try dsimp only [List.cons_append,List.nil_append]
 refine aE (v:=.bool true) (A':=A) (rfl) ?_
 try dsimp only [List.cons_append,List.nil_append]
 refine cN rfl ?_
 refine aE (v:=.pointer (some (aJ a 0))) (A':=A) (rfl) ?_
 try dsimp only [List.cons_append,List.nil_append]
 refine aE (v:=.slice b1 n1 c1) (A':=A) (dJ (hRd.at rfl (i:=0) rfl)) ?_
 try dsimp only [List.cons_append,List.nil_append]
 refine aE (v:=goInt (n1:Nat)) (A':=A) (rfl) ?_
 try dsimp only [List.cons_append,List.nil_append]
 refine aE (v:=goInt ((0+n1:Nat):Int)) (A':=A) (bw (a:=0) (b:=n1) (by omega)) ?_
 try dsimp only [List.cons_append,List.nil_append]
 refine aE (v:=.bool false) (A':=A) (iC) ?_
 try dsimp only [List.cons_append,List.nil_append]
 refine bx rfl ?_
 refine aE (v:=goInt ((0+1:Nat):Int)) (A':=A) (bw (a:=0) (b:=1) (by omega)) ?_
 try dsimp only [List.cons_append,List.nil_append]
 refine aj ?_
 try dsimp only [denL,List.map,X.den,At.den,vv,vi,vn,SX.look,List.cons_append,List.nil_append]
 rw [b6]
 try dsimp only [List.cons_append,List.nil_append]
 refine aE (v:=.bool true) (A':=A) (rfl) ?_
 try dsimp only [List.cons_append,List.nil_append]
 refine cN rfl ?_
 refine aE (v:=.pointer (some (aJ a 1))) (A':=A) (rfl) ?_
 try dsimp only [List.cons_append,List.nil_append]
 refine aE (v:=.slice b2 n2 c2) (A':=A) (dJ (hRd.at rfl (i:=1) rfl)) ?_
 try dsimp only [List.cons_append,List.nil_append]
 refine aE (v:=goInt (n2:Nat)) (A':=A) (rfl) ?_
 try dsimp only [List.cons_append,List.nil_append]
 refine aE (v:=goInt ((0+n1+n2:Nat):Int)) (A':=A) (bw (a:=0+n1) (b:=n2) (by omega)) ?_
 try dsimp only [List.cons_append,List.nil_append]
 refine aE (v:=.bool false) (A':=A) (iC) ?_
 try dsimp only [List.cons_append,List.nil_append]
 refine bx rfl ?_
 refine aE (v:=goInt ((1+1:Nat):Int)) (A':=A) (bw (a:=1) (b:=1) (by omega)) ?_
 try dsimp only [List.cons_append,List.nil_append]
 refine aj ?_
 try dsimp only [denL,List.map,X.den,At.den,vv,vi,vn,SX.look,List.cons_append,List.nil_append]
 rw [b6]
 try dsimp only [List.cons_append,List.nil_append]
 refine aE (v:=.bool false) (A':=A) (rfl) ?_
 try dsimp only [List.cons_append,List.nil_append]
 refine bx rfl ?_
 refine aj ?_
 try dsimp only [denL,List.map,X.den,At.den,vv,vi,vn,SX.look,List.cons_append,List.nil_append]
 refine ⟨fun _=>?_,fun h=>absurd rfl h⟩
 refine aE (v:=.bool false) (A':=A) (iC) ?_
 try dsimp only [List.cons_append,List.nil_append]
 refine bx rfl ?_
 refine aE (v:=goInt ((0:Nat):Int)) (A':=A) (rfl) ?_
 try dsimp only [List.cons_append,List.nil_append]
 refine aE (v:=goInt ((0:Nat):Int)) (A':=A) (rfl) ?_
 try dsimp only [List.cons_append,List.nil_append]
 refine aE (v:=goInt ((0+n1+n2:Nat):Int)) (A':=A) (sub_zero (by omega)) ?_
 try dsimp only [List.cons_append,List.nil_append]
 refine aE (v:=.bool (decide ((0:Int) < ((0+n1+n2:Nat):Int)))) (A':=A) (rfl) ?_
 try dsimp only [List.cons_append,List.nil_append]
 by_cases hz:0 < n1+n2
 ·refine cN (congrArg Value.bool (decide_eq_true (by omega))) ?_
  refine aE (v:=goInt ((0:Nat):Int)) (A':=A) (rfl) ?_
  try dsimp only [List.cons_append,List.nil_append]
  refine aE (v:=.slice none 0 0) (A':=A) (rfl) ?_
  try dsimp only [List.cons_append,List.nil_append]
  refine aE (v:=.slice (some ⟨A.next,0,none⟩) (0+n1+n2) (0+n1+n2)) (A':=(ay A 100 1 (0+n1+n2) (zeros [.nilIface] (0+n1+n2))).2) (GA hi1 hi2 (by omega) (by omega)) ?_
  try dsimp only [List.cons_append,List.nil_append]
  obtain ⟨r0,o0⟩:=OpB.new A 100 (zeros [.nilIface] (0+n1+n2)) (0+n1+n2) (dI _ rfl _).2
  generalize (ay A 100 1 (0+n1+n2) (zeros [.nilIface] (0+n1+n2))).2=B0 at o0 ⊢
  refine aE (v:=.slice (some ⟨A.next,0,none⟩) 0 (0+n1+n2)) (A':=B0) (ur o0) ?_
  try dsimp only [List.cons_append,List.nil_append]
  refine aE (v:=goInt 2) (A':=B0) (rfl) ?_
  try dsimp only [List.cons_append,List.nil_append]
  refine ⟨3,?_⟩
  try dsimp only [denL,List.map,X.den,At.den,vv,vi,vn,SX.look,List.cons_append,List.nil_append]
  rw [b6]
  try dsimp only [List.cons_append,List.nil_append]
  refine aE (v:=.bool true) (A':=B0) (rfl) ?_
  try dsimp only [List.cons_append,List.nil_append]
  refine cN rfl ?_
  refine aE (v:=.pointer (some (aJ a 0))) (A':=B0) (rfl) ?_
  try dsimp only [List.cons_append,List.nil_append]
  refine aE (v:=.slice b1 n1 c1) (A':=B0) (dJ (hRd.at (hSA B0 o0 a.block haS) (i:=0) rfl)) ?_
  try dsimp only [List.cons_append,List.nil_append]
  obtain ⟨m1,e1,k1,s1,a1⟩:=dX (A:=B0) rfl (hr1.mono (S':=S) (β':=β) (fun _ h=>h) (hSA B0 o0) (fun _ _ h=>h)) hq1
  obtain ⟨B1,r1,x1,o1⟩:=sh (w:=.slice b1 n1 c1) (z:=.nilIface) hi1 hi2 o0 hg0 (n:=0+n1+n2) (by exact (dI _ rfl _).1) (by omega) (off:=0) (m:=n1) (by omega) e1 (by omega) a1 rfl
  refine aE (v:=.slice (some ⟨A.next,0,none⟩) (0+n1) (0+n1+n2)) (A':=B1) (x1) ?_
  try dsimp only [List.cons_append,List.nil_append]
  refine aE (v:=goInt ((0+1:Nat):Int)) (A':=B1) (bw (a:=0) (b:=1) (by omega)) ?_
  try dsimp only [List.cons_append,List.nil_append]
  refine aj ?_
  try dsimp only [denL,List.map,X.den,At.den,vv,vi,vn,SX.look,List.cons_append,List.nil_append]
  rw [b6]
  try dsimp only [List.cons_append,List.nil_append]
  refine aE (v:=.bool true) (A':=B1) (rfl) ?_
  try dsimp only [List.cons_append,List.nil_append]
  refine cN rfl ?_
  refine aE (v:=.pointer (some (aJ a 1))) (A':=B1) (rfl) ?_
  try dsimp only [List.cons_append,List.nil_append]
  refine aE (v:=.slice b2 n2 c2) (A':=B1) (dJ (hRd.at (hSA B1 o1 a.block haS) (i:=1) rfl)) ?_
  try dsimp only [List.cons_append,List.nil_append]
  obtain ⟨m2,e2,k2,s2,a2⟩:=dX (A:=B1) rfl (hr2.mono (S':=S) (β':=β) (fun _ h=>h) (hSA B1 o1) (fun _ _ h=>h)) hq2
  obtain ⟨B2,r2,x2,o2⟩:=sh (w:=.slice b2 n2 c2) (z:=.nilIface) hi1 hi2 o1 hg0 (n:=0+n1+n2) (by rw [fK];exact (dI _ rfl _).1) (by omega) (off:=0+n1) (m:=n2) (by omega) e2 (by omega) a2 rfl
  refine aE (v:=.slice (some ⟨A.next,0,none⟩) (0+n1+n2) (0+n1+n2)) (A':=B2) (x2) ?_
  try dsimp only [List.cons_append,List.nil_append]
  refine aE (v:=goInt ((1+1:Nat):Int)) (A':=B2) (bw (a:=1) (b:=1) (by omega)) ?_
  try dsimp only [List.cons_append,List.nil_append]
  refine aj ?_
  try dsimp only [denL,List.map,X.den,At.den,vv,vi,vn,SX.look,List.cons_append,List.nil_append]
  rw [b6]
  try dsimp only [List.cons_append,List.nil_append]
  refine aE (v:=.bool false) (A':=B2) (rfl) ?_
  try dsimp only [List.cons_append,List.nil_append]
  refine bx rfl ?_
  refine aj ?_
  try dsimp only [denL,List.map,X.den,At.den,vv,vi,vn,SX.look,List.cons_append,List.nil_append]
  refine ⟨fun _=>?_,fun h=>absurd rfl h⟩
  refine aj ?_
  intro v hv
  cases hv
  have hcs:setFrom (setFrom (zeros [.nilIface] (0+n1+n2)) 0 m1) (0+n1) m2=m1++m2:=by
   have h1:m1.length=n1:=by omega
   have h0:(zeros [Value.nilIface] (0+n1+n2)).length=0+n1+n2:=(dI _ rfl _).1
   have:=uo (zs:=zeros [.nilIface] (0+n1+n2)) (vs:=m1) (ws:=m2) (by omega)
   rw [h1] at this
   rw [Nat.zero_add]
   rw [Nat.zero_add] at this
   exact this
  rw [hcs] at o2
  have kk:RepL β (orB S A.next) B2.h (m1++m2) (l1++l2):=by
   exact RepL.append (k1.mono (S':=orB S A.next) (β':=β) (fun _ h=>.inl h) (fun b hb=>(hSA B2 o2 b hb).trans (hSA B0 o0 b hb).symm) (fun _ _ h=>h)) (k2.mono (S':=orB S A.next) (β':=β) (fun _ h=>.inl h) (fun b hb=>(hSA B2 o2 b hb).trans (hSA B1 o1 b hb).symm) (fun _ _ h=>h))
  have hfin:=RS.newOwH (B:=B2) (m:=μ.length) (k:=r2.grp) (v:=.slice (some ⟨A.next,0,none⟩) (n1+n2) (n1+n2)) (e:=100) (sz:=1) (n:=n1+n2) (l:=l1++l2) (d:=[]) R0 .nil (List.Perm.refl _) o2.oth o2.nx (fun j _=>by rw [o2.g]) (.inr o2.grp)
   (.ow _ r2 100 1 (n1+n2) (m1++m2) _ o2.elem o2.esz (.inr rfl) o2.at_ o2.own o2.opn o2.size (by rw [o2.frz];exact Nat.zero_le _) o2.ones o2.cells (by rw [List.length_append];omega) kk (by rw [o2.grp,o2.nx];omega) (.inl (by rw [o2.grp,o2.g];exact hg0)))
  refine ⟨_,_,hfin.2,?_⟩
  show RS gl B2 β (orB S A.next) noF [.slice (some ⟨A.next,0,none⟩) (0+n1+n2) (0+n1+n2)] [.ow 100 1 (n1+n2) (l1++l2)] ([]++[r2.grp]) μ gm
  rw [Nat.zero_add]
  exact hfin.1
 ·have hz1:n1=0:=by omega
  have hz2:n2=0:=by omega
  subst hz1
  subst hz2
  refine bx (congrArg Value.bool (decide_eq_false (by omega))) ?_
  refine aE (v:=goInt 2) (A':=A) (rfl) ?_
  try dsimp only [List.cons_append,List.nil_append]
  refine ⟨3,?_⟩
  try dsimp only [denL,List.map,X.den,At.den,vv,vi,vn,SX.look,List.cons_append,List.nil_append]
  obtain ⟨m1,e1,k1,s1,a1⟩:=dX (A:=A) rfl hr1 hq1
  obtain ⟨m2,e2,k2,s2,a2⟩:=dX (A:=A) rfl hr2 hq2
  rw [b6]
  try dsimp only [List.cons_append,List.nil_append]
  refine aE (v:=.bool true) (A':=A) (rfl) ?_
  try dsimp only [List.cons_append,List.nil_append]
  refine cN rfl ?_
  refine aE (v:=.pointer (some (aJ a 0))) (A':=A) (rfl) ?_
  try dsimp only [List.cons_append,List.nil_append]
  refine aE (v:=.slice b1 0 c1) (A':=A) (dJ (hRd.at rfl (i:=0) rfl)) ?_
  try dsimp only [List.cons_append,List.nil_append]
  refine aE (v:=.slice none 0 0) (A':=A) (si hi1 hi2 e1 (by omega) a1) ?_
  try dsimp only [List.cons_append,List.nil_append]
  refine aE (v:=goInt ((0+1:Nat):Int)) (A':=A) (bw (a:=0) (b:=1) (by omega)) ?_
  try dsimp only [List.cons_append,List.nil_append]
  refine aj ?_
  try dsimp only [denL,List.map,X.den,At.den,vv,vi,vn,SX.look,List.cons_append,List.nil_append]
  rw [b6]
  try dsimp only [List.cons_append,List.nil_append]
  refine aE (v:=.bool true) (A':=A) (rfl) ?_
  try dsimp only [List.cons_append,List.nil_append]
  refine cN rfl ?_
  refine aE (v:=.pointer (some (aJ a 1))) (A':=A) (rfl) ?_
  try dsimp only [List.cons_append,List.nil_append]
  refine aE (v:=.slice b2 0 c2) (A':=A) (dJ (hRd.at rfl (i:=1) rfl)) ?_
  try dsimp only [List.cons_append,List.nil_append]
  refine aE (v:=.slice none 0 0) (A':=A) (si hi1 hi2 e2 (by omega) a2) ?_
  try dsimp only [List.cons_append,List.nil_append]
  refine aE (v:=goInt ((1+1:Nat):Int)) (A':=A) (bw (a:=1) (b:=1) (by omega)) ?_
  try dsimp only [List.cons_append,List.nil_append]
  refine aj ?_
  try dsimp only [denL,List.map,X.den,At.den,vv,vi,vn,SX.look,List.cons_append,List.nil_append]
  rw [b6]
  try dsimp only [List.cons_append,List.nil_append]
  refine aE (v:=.bool false) (A':=A) (rfl) ?_
  try dsimp only [List.cons_append,List.nil_append]
  refine bx rfl ?_
  refine aj ?_
  try dsimp only [denL,List.map,X.den,At.den,vv,vi,vn,SX.look,List.cons_append,List.nil_append]
  refine ⟨fun _=>?_,fun h=>absurd rfl h⟩
  refine aj ?_
  intro v hv
  cases hv
  have hn1':l1=[]:=List.length_eq_zero_iff.1 (by have:=k1.length;omega)
  have hn2':l2=[]:=List.length_eq_zero_iff.1 (by have:=k2.length;omega)
  subst hn1'
  subst hn2'
  refine ⟨S,[],Ext.refl _ _ _ _ _ _ _ (fun _ h=>h),R.setVars (RepO.one (.nil 100 1)) ⟨[],List.Perm.refl _⟩⟩
end
end Go.AM.PV
namespace Go.AM.PV
open Go Go.AM Go.AM.SX
def GC:N:=.op .lenL [vn 19] (bo .eql [vn 22,vi 0] (.fin 1 [vn 23]))
def GD:N:=bo .eql [vn 109,vi 1] (.fin 1 [vn 112])
def GE:N:=.op .lenL [vn 108] (bo .eql [vn 114,vi 0] (.fin 1 [vn 115]))
def GF:N:=bo .eql [vn 109,vi 4] (.br (vn 113) GE (.fin 1 [vv (.bool false)]))
def GG:N:=.op .lenL [vn 108] (bo .eql [vn 115,vi 0] (.fin 1 [vn 116]))
def GH:N:=bo .eql [vn 109,vi 4] (.br (vn 114) GG (.fin 1 [vv (.bool false)]))
def GI:N:=.call 11 [vn 108] (.call 11 [vn 126] (.call 15 [vn 130,vn 131] (.fin 1 [vn 132])))
def GJ:N:=bo .eql [vn 127,vi 0] (.br (vn 129) GI (.fin 1 [vv (.bool false)]))
def GK:N:=bo .sub [vn 2,vn 49] (.op (.build [(.int .i64 0)] [(0,1)]) [vn 121] (.op (.newSl 41 [.nilIface,.nilIface] [(0,1),(1,1)]) [.ifc 45 (.n 122),vn 11] (.op (.newSl 9 [(bs [])] [(0,1)]) [vv (bs [110,116,104])] (.call 17 [.sl (.n 123) 2,.sl (.n 124) 1] (.op (.ext 0) [vn 125] (.op (.ext 1) [vn 125] (bo .eql [vn 109,vi 0] (.br (vn 128) GJ (.fin 1 [vv (.bool false)])))))))))
def GL:N:=.call 11 [vn 108] (.call 11 [vn 118] (.call 15 [vn 123,vn 124] (.fin 1 [vn 125])))
def GM:N:=bo .eql [vn 119,vi 0] (.br (vn 122) GL (.fin 1 [vv (.bool false)]))
def GN:N:=bo .eql [vn 109,vi 0] (.br (vn 121) GM (.fin 1 [vv (.bool false)]))
def GO:N:=.op (.build [(.int .i64 0)] [(0,1)]) [vn 2] (.op (.newSl 41 [.nilIface,.nilIface] [(0,1),(1,1)]) [.ifc 45 (.n 114),vn 9] (.op (.newSl 9 [(bs [])] [(0,1)]) [vv (bs [110,116,104])] (.call 17 [.sl (.n 115) 2,.sl (.n 116) 1] (.op (.ext 0) [vn 117] (.op (.ext 1) [vn 117] (bo .geq [vn 2,vn 49] (.br (vn 120) GK GN)))))))
def GP:N:=bo .geq [vn 2,vn 57] (.br (vn 113) GH GO)
def GQ:N:=bo .lss [vn 2,vi 0] (.br (vn 112) GF GP)
def GR:N:=.op (.build [(.int .i64 0)] [(0,1)]) [vn 2] (.op (.idxA 1) [vn 19,vi 0] (ld 103 (.op (.newSl 41 [.nilIface,.nilIface] [(0,1),(1,1)]) [.ifc 45 (.n 102),vn 104] (.op (.newSl 9 [(bs [])] [(0,1)]) [vv (bs [110,116,104])] (.call 17 [.sl (.n 105) 2,.sl (.n 106) 1] (.op (.ext 0) [vn 107] (.op (.ext 1) [vn 107] (.call 21 [vn 2] (.op .not [vn 110] (.br (vn 111) GD GQ))))))))))
def GS:N:=.op (.idxA 1) [vn 19,vi 0] (ld 96 (.call 20 [vn 97] (.op (.newSl 35 [(.int .i64 0),(.int .i64 0),(bs []),(.slice none 0 0)] [(0,4)]) [vn 98] (.call 18 [vn 83,.sl (.n 99) 1] (.op .not [vn 100] (.br (vn 101) (.fin 1 [vv (.bool false)]) GR))))))
def GT:N:=.op (.load (some 4)) [vn 4] (.op (.newSl 35 [(.int .i64 0),(.int .i64 0),(bs []),(.slice none 0 0)] [(0,4)]) [vn 92] (.call 18 [vn 79,.sl (.n 93) 1] (.op .not [vn 94] (.br (vn 95) (.fin 1 [vv (.bool false)]) GS))))
def GU:N:=.op (.load (some 4)) [vn 3] (.op (.newSl 35 [(.int .i64 0),(.int .i64 0),(bs []),(.slice none 0 0)] [(0,4)]) [vn 88] (.call 18 [vn 70,.sl (.n 89) 1] (.op .not [vn 90] (.br (vn 91) (.fin 1 [vv (.bool false)]) GT))))
def GV:N:=bo .neq [vn 84,vi 0] (.br (vn 87) (.fin 1 [vv (.bool false)]) GU)
def GW:N:=bo .neq [vn 80,vi 0] (.br (vn 86) (.fin 1 [vv (.bool false)]) GV)
def GX:N:=.op (.build [(.int .i64 0)] [(0,1)]) [vi 0] (.op (.build [(.int .i64 0)] [(0,1)]) [vn 49] (.op (.idxA 1) [vn 19,vi 0] (ld 65 (.op (.newSl 41 [.nilIface,.nilIface,.nilIface] [(0,1),(1,1),(2,1)]) [.ifc 45 (.n 63),.ifc 45 (.n 64),vn 66] (.op (.newSl 9 [(bs [])] [(0,1)]) [vv (bs [115,108,105,99,101])] (.call 17 [.sl (.n 67) 3,.sl (.n 68) 1] (.op (.ext 0) [vn 69] (.op (.ext 1) [vn 69] (.op (.build [(.int .i64 0)] [(0,1)]) [vn 49] (.op (.build [(.int .i64 0)] [(0,1)]) [vn 57] (.op (.idxA 1) [vn 19,vi 0] (ld 74 (.op (.newSl 41 [.nilIface,.nilIface,.nilIface] [(0,1),(1,1),(2,1)]) [.ifc 45 (.n 72),.ifc 45 (.n 73),vn 75] (.op (.newSl 9 [(bs [])] [(0,1)]) [vv (bs [115,108,105,99,101])] (.call 17 [.sl (.n 76) 3,.sl (.n 77) 1] (.op (.ext 0) [vn 78] (.op (.ext 1) [vn 78] (.op (.newSl 9 [(bs []),(bs [])] [(0,1),(1,1)]) [vv (bs [114,101,118,101,114,115,101]),vv (bs [114,101,118,101,114,115,101])] (.call 17 [vn 19,.sl (.n 81) 2] (.op (.ext 0) [vn 82] (.op (.ext 1) [vn 82] (bo .neq [vn 71,vi 0] (.br (vn 85) (.fin 1 [vv (.bool false)]) GW)))))))))))))))))))))))
def GY:N:=.op (.fld 0) [vn 3] (ld 60 (bo .eql [vn 61,vi 5] (.br (vn 62) (.fin 1 [vv (.bool true)]) GX)))
def GZ:N:=.self (vn 30) (.self (vn 30) (.chk 4 (.idxA 1) [vn 30,vi 0] (vn 50) (.chk 3 (.idxA 1) [vn 30,vi 0] (vn 50) (.chk 4 (.load none) [vn 50] (vn 51) (.chk 3 (.load none) [vn 50] (vn 51) (.chk 6 (.field 1 none) [vn 52] (vn 53) (.chk 5 (.field 1 none) [vn 52] (vn 53) (.self (vn 34) (.self (vn 34) (.self (vn 34) (.chk 5 (.idxA 1) [vn 34,vi 0] (vn 54) (.chk 4 (.idxA 1) [vn 34,vi 0] (vn 54) (.chk 3 (.idxA 1) [vn 34,vi 0] (vn 54) (.chk 5 (.load none) [vn 54] (vn 55) (.chk 4 (.load none) [vn 54] (vn 55) (.chk 3 (.load none) [vn 54] (vn 55) (.chk 6 (.field 1 none) [vn 56] (vn 57) (.self (vn 49) (.self (vn 53) (.self (vn 57) (bo .add [vn 49,vn 53] (bo .neq [vn 57,vn 58] (.br (vn 59) (.fin 1 [vv (.bool false)]) GY)))))))))))))))))))))))
def G0:N:=.bump 18 (.save (.op (.idxA 1) [vn 25,vi 0] (ld 46 (.call 20 [vn 47] (.save (.op (.field 1 none) [vn 48] (.op (.idxA 1) [vn 30,vi 0] (ld 50 (.call 20 [vn 51] (.save (.op (.field 1 none) [vn 52] (.op (.idxA 1) [vn 34,vi 0] (ld 54 (.call 20 [vn 55] (.save (.op (.field 1 none) [vn 56] (.self (vn 25) (.chk 3 (.idxA 1) [vn 25,vi 0] (vn 46) (.chk 3 (.load none) [vn 46] (vn 47) (.chk 6 (.field 1 none) [vn 48] (vn 49) (.chk 5 (.field 1 none) [vn 48] (vn 49) (.chk 4 (.field 1 none) [vn 48] (vn 49) GZ))))))))))))))))))))))
def G1:N:=.op .lenL [vn 34] (bo .neq [vn 43,vi 1] (.br (vn 44) (.fin 1 [vv (.bool false)]) G0))
def G2:N:=.op .lenL [vn 30] (bo .neq [vn 41,vi 1] (.br (vn 42) (.fin 1 [vv (.bool false)]) G1))
def G3:N:=.op .lenL [vn 25] (bo .neq [vn 39,vi 1] (.br (vn 40) (.fin 1 [vv (.bool false)]) G2))
def G4:N:=bo .neq [vn 35,vi 0] (.br (vn 38) (.fin 1 [vv (.bool false)]) G3)
def G5:N:=bo .neq [vn 31,vi 0] (.br (vn 37) (.fin 1 [vv (.bool false)]) G4)
def G6:N:=.op (.newSl 41 [.nilIface] [(0,1)]) [vn 9] (.op (.newSl 9 [(bs [])] [(0,1)]) [vv (bs [108,101,110,103,116,104])] (.call 17 [.sl (.n 22) 1,.sl (.n 23) 1] (.op (.ext 0) [vn 24] (.op (.ext 1) [vn 24] (.op (.newSl 41 [.nilIface] [(0,1)]) [vn 11] (.op (.newSl 9 [(bs [])] [(0,1)]) [vv (bs [108,101,110,103,116,104])] (.call 17 [.sl (.n 27) 1,.sl (.n 28) 1] (.op (.ext 0) [vn 29] (.op (.ext 1) [vn 29] (.op (.newSl 9 [(bs [])] [(0,1)]) [vv (bs [108,101,110,103,116,104])] (.call 17 [vn 19,.sl (.n 32) 1] (.op (.ext 0) [vn 33] (.op (.ext 1) [vn 33] (bo .neq [vn 26,vi 0] (.br (vn 36) (.fin 1 [vv (.bool false)]) G5)))))))))))))))
def G7:N:=.bump 6 (.save (.op (.load (some 4)) [vn 3] (.call 19 [vn 8] (.save (.op (.load (some 4)) [vn 4] (.call 19 [vn 10] (.save (.chk 0 (.load (some 4)) [vn 3] (vn 8) (.chk 1 (.load (some 4)) [vn 4] (vn 10) (.chk 0 (.load (some 4)) [vn 4] (vn 10) (.self (vn 9) (.self (vn 11) (.call 20 [vn 9] (.call 20 [vn 11] (.op (.store 4) [vn 3,vn 12] (.op (.store 4) [vn 4,vn 13] (.op (.newSl 41 [.nilIface,.nilIface] [(0,1),(1,1)]) [vn 9,vn 11] (.op (.newSl 9 [(bs [])] [(0,1)]) [vv (bs [97,112,112,101,110,100])] (.call 17 [.sl (.n 16) 2,.sl (.n 17) 1] (.op (.ext 0) [vn 18] (.op (.ext 1) [vn 18] (bo .neq [vn 20,vi 0] (.br (vn 21) GC G6)))))))))))))))))))))))
def t5:N:=.op (.box 35) [vn 0] (.op (.box 35) [vn 1] (.call 10 [] (.op .not [vn 5] (.br (vn 6) (.fin 1 [vv (.bool false)]) G7))))
end Go.AM.PV
namespace Go.AM.PV
open Go Go.AM Go.AM.SX
attribute [local irreducible] pz aQ
section
variable {E:Env} {gl:List GRow} {cfg:Cfg} {fuel:Nat}
end
end Go.AM.PV
namespace Go.AM.PV
open Go Go.AM Go.AM.SX
def G8:N:=bo .eql [vn 10,vi 1] (.fin 1 [vn 13])
def G9:N:=.call 11 [vn 18] (.call 11 [vn 27] (.call 15 [vn 35,vn 36] (.fin 1 [vn 37])))
def Ga:N:=bo .eql [vn 28,vi 0] (.br (vn 34) G9 (.fin 1 [vv (.bool false)]))
def Gb:N:=bo .eql [vn 19,vi 0] (.br (vn 33) Ga (.fin 1 [vv (.bool false)]))
def Gc:N:=.op (.build [(.int .i64 0),(.int .i64 0),(bs []),(.slice none 0 0)] [(0,1),(1,1)]) [vi 1,vn 0] (.op (.newSl 35 [(.int .i64 0),(.int .i64 0),(bs []),(.slice none 0 0)] [(0,4)]) [vn 30] (.call 18 [vn 9,.sl (.n 31) 1] (.br (vn 32) Gb (.fin 1 [vv (.bool false)]))))
def Gd:N:=.op (.build [(.bool false)] [(0,1)]) [vn 1] (.op (.build [(.bool false)] [(0,1)]) [vn 2] (.op (.newSl 41 [.nilIface,.nilIface] [(0,1),(1,1)]) [.ifc 49 (.n 13),.ifc 49 (.n 14)] (.op (.newSl 9 [(bs []),(bs [])] [(0,1),(1,1)]) [vv (bs [97,110,100]),vv (bs [110,111,116])] (.call 17 [.sl (.n 15) 2,.sl (.n 16) 2] (.op (.ext 0) [vn 17] (.op (.ext 1) [vn 17] (.op .not [vn 1] (.op (.build [(.bool false)] [(0,1)]) [vn 20] (.op .not [vn 2] (.op (.build [(.bool false)] [(0,1)]) [vn 22] (.op (.newSl 41 [.nilIface,.nilIface] [(0,1),(1,1)]) [.ifc 49 (.n 21),.ifc 49 (.n 23)] (.op (.newSl 9 [(bs [])] [(0,1)]) [vv (bs [111,114])] (.call 17 [.sl (.n 24) 2,.sl (.n 25) 1] (.op (.ext 0) [vn 26] (.op (.ext 1) [vn 26] (bo .eql [vn 10,vi 0] (.br (vn 29) Gc (.fin 1 [vv (.bool false)]))))))))))))))))))
def Ge:N:=.op (.build [(.int .i64 0)] [(0,1)]) [vn 0] (.op (.newSl 41 [.nilIface] [(0,1)]) [.ifc 45 (.n 5)] (.op (.newSl 9 [(bs []),(bs [])] [(0,1),(1,1)]) [vv (bs [62,115,116,114]),vv (bs [62,105,110,116])] (.call 17 [.sl (.n 6) 1,.sl (.n 7) 2] (.op (.ext 0) [vn 8] (.op (.ext 1) [vn 8] (.call 21 [vn 0] (.op .not [vn 11] (.br (vn 12) G8 Gd))))))))
def t6:N:=.call 10 [] (.op .not [vn 3] (.br (vn 4) (.fin 1 [vv (.bool false)]) Ge))
def Gf:N:=.op (.alloc 45 [(.int .i64 0)]) [] (.op (.store 1) [vn 4,vn 3] (.op (.fld 0) [vn 4] (ld 6 (.call 118 [vn 7,vi 10] (.fin 1 [vn 8])))))
def Gg:N:=.op (.alloc 72 [(bs [])]) [] (.op (.store 1) [vn 7,vn 6] (.op (.fld 0) [vn 7] (ld 9 (.call 119 [vn 10] (.op (.ext 0) [vn 11] (.op (.ext 1) [vn 11] (.fin 1 [vn 12])))))))
def Gh:N:=.op (.alloc 49 [(.bool false)]) [] (.op (.store 1) [vn 10,vn 9] (.op (.fld 0) [vn 10] (ld 12 (.br (vn 13) (.fin 1 [vv (bs [116])]) (.fin 1 [vv (bs [102])])))))
def Gi:N:=.op (.alloc 52 [(.slice none 0 0)]) [] (.op (.store 1) [vn 13,vn 12] (.op (.fld 0) [vn 13] (ld 15 (.op .lenL [vn 16] (.call 120 [vv (bs [123]),vv (bs [125]),vn 17,.fn 121 [(.n 13)]] (.fin 1 [vn 18]))))))
def Gj:N:=.op (.alloc 76 [(.slice none 0 0)]) [] (.op (.store 1) [vn 16,vn 15] (.op (.fld 0) [vn 16] (ld 18 (.op .lenL [vn 19] (.call 120 [vv (bs [91]),vv (bs [93]),vn 20,.fn 122 [(.n 16)]] (.fin 1 [vn 21]))))))
def Gk:N:=.op (.ta 76 (.agg #[(.slice none 0 0)]) true) [vn 0] (.op (.ext 1) [vn 13] (.op (.ext 0) [vn 13] (.br (vn 14) Gj (.fin 1 [vv (bs [98,111,120])]))))
def Gm:N:=.op (.ta 52 (.agg #[(.slice none 0 0)]) true) [vn 0] (.op (.ext 1) [vn 10] (.op (.ext 0) [vn 10] (.br (vn 11) Gi Gk)))
def Gn:N:=.op (.ta 49 (.agg #[(.bool false)]) true) [vn 0] (.op (.ext 1) [vn 7] (.op (.ext 0) [vn 7] (.br (vn 8) Gh Gm)))
def Gp:N:=.op (.ta 72 (.agg #[(bs [])]) true) [vn 0] (.op (.ext 1) [vn 4] (.op (.ext 0) [vn 4] (.br (vn 5) Gg Gn)))
def t83:N:=.op (.ta 45 (.agg #[(.int .i64 0)]) true) [vn 0] (.op (.ext 1) [vn 1] (.op (.ext 0) [vn 1] (.br (vn 2) Gf Gp)))
def Gq:N:=.op .tup [vi 0,vi 9] (.fin 1 [vn 6])
def Gr:N:=.op .tup [vi 0,vi 11] (.fin 1 [vn 7])
def Gs:N:=.op .tup [vn 2,vi 0] (.fin 1 [vn 7])
def Gt:N:=.op .not [vn 4] (.br (vn 6) Gr Gs)
def t84:N:=.call 124 [vn 0] (.op (.ext 0) [vn 1] (.op (.ext 1) [vn 1] (.op (.ext 2) [vn 1] (.op .not [vn 3] (.br (vn 5) Gq Gt)))))
end Go.AM.PV
