/- Regions in whatever order: what the evaluator's one run shows, the order that binds. -/
import Derived.Test.YtilbjefgojocaaaGreatDoorAmOps5
import Derived.Laws.AppendOwn
import Derived.Lib.Bytealg
import Derived.Laws.BytesString
import Derived.Recover
import Derived.RangeFuncIn
import Derived.Scope
import Derived.Orders
namespace Go.AM
section
variable {E:Env} {P:Program} {nm:Nm} {K:Kp} {base:World} {φ:Emb} {A A':St} {w:World} {ρ ρ':Operand->Value} {nx:Nx}
theorem EntR.nil:EntR nm φ [] []:=⟨rfl,fun i e c h=>by simp at h⟩
theorem EntR.cons_inv {e:MapEntry} {es ces:List MapEntry} (h:EntR nm φ (e::es) ces) :
  ∃ c cs,ces=c::cs/\aH e.key=true/\c.key=e.key/\c.born=e.born/\VR nm φ e.val c.val/\EntR nm φ es cs:=by
 cases ces with
 | nil=>exact absurd h.1 (by simp)
 | cons c cs =>
  obtain ⟨a,b,d,f⟩:=h.2 0 e c (by simp) (by simp)
  exact ⟨c,cs,rfl,a,b,d,f,by simpa using h.1,fun i e' c' h1 h2=>h.2 (i+1) e' c' (by simpa using h1) (by simpa using h2)⟩
theorem EntR.get? {es ces:List MapEntry} (h:EntR nm φ es ces) {i:Nat} {e:MapEntry} (he:es[i]? = some e) :
  ∃ c,ces[i]? = some c/\aH e.key=true/\c.key=e.key/\c.born=e.born/\VR nm φ e.val c.val:=by
 have hi:i < es.length:=by
  rcases Nat.lt_or_ge i es.length with g | g
  ·exact g
  ·rw [List.getElem?_eq_none g] at he;cases he
 have hc:=List.getElem?_eq_getElem (show i < ces.length by rw [<- h.1];exact hi)
 obtain ⟨a,b,d,f⟩:=h.2 i e _ he hc
 exact ⟨_,hc,a,b,d,f⟩
theorem bytes_beq (a b:ByteArray):(a==b)=decide (a=b):=by
 show (a.data==b.data)=_
 by_cases h:a=b
 ·subst h;simp
 ·have:¬ a.data=b.data:=fun e=>h (by cases a;cases b;simp only [] at e;rw [e])
  simp [h,this]
theorem e9 {kd:TypeDesc} {k:Value} (hk:bW kd k=true):∀ (es ces:List MapEntry) (i:Nat) (r:Option (Nat×Value)),EntR nm φ es ces->bV k es i=some r ->
  ∃ r',Instr.findNow kd k ces i=some r' /\
   (match r with
    | none=>r'=none
    | some (j,v)=>∃ v',r'=some (j,v')/\VR nm φ v v'/\i<=j/\∃ e,es[j - i]? = some e/\e.key=k/\e.val=v)
 | [],ces,i,r,h,hf=>by
  have:ces=[]:=by have:=h.1;simpa using this.symm
  subst this
  simp only [bV,Option.some.injEq] at hf;subst hf
  exact ⟨none,rfl,rfl⟩
 | e :: es,ces,i,r,h,hf=>by
  obtain ⟨c,cs,rfl,h1,h2,h3,h4,h5⟩:=h.cons_inv
  have next:∀ r,bV k es (i+1)=some r->Instr.sameNow kd k c.key=some false ->
    ∃ r',Instr.findNow kd k (c::cs) i=some r' /\
     (match r with
      | none=>r'=none
      | some (j,v)=>∃ v',r'=some (j,v')/\VR nm φ v v'/\i<=j/\∃ e',(e::es)[j - i]? = some e'/\e'.key=k/\e'.val=v):=by
   intro r hf hs
   obtain ⟨r',g1,g2⟩:=e9 hk es cs (i+1) r h5 hf
   refine ⟨r',by simp [Instr.findNow,hs,g1],?_⟩
   cases r with
   | none=>exact g2
   | some q =>
    obtain ⟨j,v⟩:=q
    obtain ⟨v',e1,e2,e3,e',e4,e5,e6⟩:=g2
    refine ⟨v',e1,e2,by omega,e',?_,e5,e6⟩
    rw [show j - i=(j - (i+1))+1 from by omega,List.getElem?_cons_succ]
    exact e4
  have here:∀ r,(some (some (i,e.val)):Option (Option (Nat×Value)))=some r->e.key=k->Instr.sameNow kd k c.key=some true ->
    ∃ r',Instr.findNow kd k (c::cs) i=some r' /\
     (match r with
      | none=>r'=none
      | some (j,v)=>∃ v',r'=some (j,v')/\VR nm φ v v'/\i<=j/\∃ e',(e::es)[j - i]? = some e'/\e'.key=k/\e'.val=v):=by
   intro r hr hk' hs
   simp only [Option.some.injEq] at hr;subst hr
   refine ⟨some (i,c.val),by simp [Instr.findNow,hs],c.val,rfl,h4,Nat.le_refl _,e,by simp,hk',rfl⟩
  simp only [bV] at hf
  cases kd <;> cases k <;> simp only [bW] at hk <;> first | (cases hk;done) | skip
  ·-- bool
   rename_i b
   cases hek:e.key <;> simp only [hek] at hf <;> first | (cases hf;done) | skip
   rename_i b'
   split at hf
   ·rename_i hb;subst hb
    exact here r hf hek (by rw [h2,hek];simp [Instr.sameNow])
   ·rename_i hb
    exact next r hf (by rw [h2,hek];simp [Instr.sameNow,hb])
  ·-- int
   rename_i k0 kk n
   cases hek:e.key <;> simp only [hek] at hf <;> first | (cases hf;done) | skip
   rename_i kk' n'
   split at hf
   ·rename_i hkk;subst hkk
    split at hf
    ·rename_i hn;subst hn
     exact here r hf hek (by rw [h2,hek];simp [Instr.sameNow])
    ·rename_i hn
     exact next r hf (by rw [h2,hek];simp [Instr.sameNow,hn])
   ·cases hf
  ·-- string
   rename_i s
   cases hek:e.key <;> simp only [hek] at hf <;> first | (cases hf;done) | skip
   rename_i s'
   split at hf
   ·rename_i hs
    have hs':s=s':=by
     cases s;cases s';simp only [ByteArray.mk.injEq];exact Array.ext' hs
    subst hs'
    exact here r hf hek (by rw [h2,hek];simp only [Instr.sameNow];rw [bytes_beq,decide_eq_true rfl])
   ·rename_i hs
    have hs':(s==s')=false:=by
     rw [bytes_beq];exact decide_eq_false (fun e=>hs (by rw [e]))
    exact next r hf (by rw [h2,hek];simp [Instr.sameNow,hs'])
theorem gO {kd:TypeDesc} {k:Value} (hk:bW kd k=true):aH k=true:=by
 cases kd <;> cases k <;> simp only [bW] at hk <;> first | (cases hk;done) | rfl
theorem run_checkKey (ok:EnvOk E P nm) {kt:TypeId} {kd:TypeDesc} {k:Value} (hu:E.und kt=some kd) (hk:bW kd k=true) (b:Bool) (n:Nat):(Instr.checkKey b (n+1) kt k).run P w=.ok () w:=by
 simp only [Instr.checkKey,Sem.run_bind,ok.run_und hu w,Result.andThen_ok]
 cases kd <;> cases k <;> simp only [bW] at hk <;> first | (cases hk;done) | rfl
theorem db (ok:EnvOk E P nm) {kt:TypeId} {kd:TypeDesc} {k:Value} (hu:E.und kt=some kd) (hk:bW kd k=true) (b:Bool):(Instr.checkKey b 10000 kt k).run P w=.ok () w :=
 run_checkKey ok hu hk b 9999
theorem run_findKey (ok:EnvOk E P nm) {kt:TypeId} {kd:TypeDesc} {k:Value} {ces:List MapEntry} {r:Option (Nat×Value)} (hu:E.und kt=some kd) (hf:Instr.findNow kd k ces 0=some r) :
  (Instr.findKey kt k ces).run P w=.ok r w:=by
 simp only [Instr.findKey,Sem.run_bind,ok.run_und hu w,Result.andThen_ok,hf,Sem.run_pure]
theorem bg {r:Nat} {o:Obj} (h:w.heap[r]? = some o) (hn:∀ a b c,o≠.cells a b c):(getObj r).run P w=.ok o w:=by
 cases o <;> first | (exact absurd rfl (hn _ _ _)) | simp [getObj,Sem.run,h]
theorem dM {r:Nat} {o o':Obj} (h:w.heap[r]? = some o) (hn:∀ a b c,o≠.cells a b c):(setObj r o').run P w=.ok () (aZ w r o'):=by
 cases o <;> first | (exact absurd rfl (hn _ _ _)) | (simp [setObj,Sem.run,h,aZ])
theorem ea (h:WR nm K base φ A w) {r:Nat} {es:List MapEntry} {c:Nat} {p:Pl} (hr:A.h.get r=some (.map es c)) (hp:φ r=some p) :
  ∃ ces:Array MapEntry,w.heap[p.blk]? = some (.map ces c)/\EntR nm φ es ces.toList:=by
 obtain ⟨q,hq,ho,_⟩:=h.obj r _ hr rfl
 rw [hp] at hq;cases hq
 exact ho
theorem wb (ok:EnvOk E P nm) (h:WR nm K base φ A w) (t:TypeId) (m ix:Operand) (cok:Bool) (hm:VR nm φ (ρ m) (ρ' m)) (hi:VR nm φ (ρ ix) (ρ' ix))
  (hx:ij E A ρ t m ix cok=some (nx,A')):Goal P nm K base φ A w (Instr.lookup t (ρ' m) (ρ' ix) cok >>= fun x=>pure (Next.value x)) nx A':=by
 unfold ij at hx
 split at hx
 ·rename_i kt et hu
  split at hx
  ·rename_i kd z hkd hz
   split at hx
   ·rename_i hk
    have hix:=hi.plainV_eq (gO hk)
    have fin:∀ (es:List MapEntry) (ces:Array MapEntry),EntR nm φ es ces.toList ->
      (match bV (ρ ix) es 0 with
       | some (some (_,v))=>some (Nx.val (if cok then .tuple #[v,.bool true] else v),A)
       | some none=>some (.val (if cok then .tuple #[z,.bool false] else z),A)
       | none=>none)=some (nx,A') ->
      A'=A/\((∃ j v v',(Instr.findKey kt (ρ ix) ces.toList).run P w=.ok (some (j,v')) w/\VR nm φ v v'/\nx=.val (if cok then .tuple #[v,.bool true] else v)) \/
       ((Instr.findKey kt (ρ ix) ces.toList).run P w=.ok none w/\nx=.val (if cok then .tuple #[z,.bool false] else z))):=by
     intro es ces hent hr
     cases hf:bV (ρ ix) es 0 with
     | none=>simp [hf] at hr
     | some r =>
      obtain ⟨r',g1,g2⟩:=e9 hk es ces.toList 0 r hent hf
      have hfk:=run_findKey (w:=w) ok hkd g1
      simp only [hf] at hr
      cases r with
      | none =>
       simp only [] at hr g2
       cases hr
       subst g2
       exact ⟨rfl,.inr ⟨hfk,rfl⟩⟩
      | some q =>
       obtain ⟨j,u⟩:=q
       simp only [] at hr
       cases hr
       obtain ⟨v',e1,e2,_⟩:=g2
       subst e1
       exact ⟨rfl,.inl ⟨j,u,v',hfk,e2,rfl⟩⟩
    simp only [] at hx
    revert hx hm
    generalize ρ m=mv
    generalize ρ' m=mv'
    intro hm hx
    cases mv with
    | map r =>
     cases r with
     | none =>
      cases hm
      obtain ⟨g0,g⟩:=fin [] #[] .nil hx
      subst g0
      rcases g with ⟨j,v,v',g1,g2,rfl⟩ | ⟨g1,rfl⟩
      ·refine aN h (v':=if cok then .tuple #[v',.bool true] else v') ?_ ?_
       ·cases cok
        ·exact g2
        ·exact .tuple' (.cons g2 (.cons (.bool _) .nil))
       ·simp only [] at g1
        simp [Instr.lookup,ok.run_und hu w,hix,db ok hkd hk,g1]
      ·refine aN h (v':=if cok then .tuple #[z,.bool false] else z) ?_ ?_
       ·cases cok
        ·exact .of_plainV (dR hz)
        ·exact .tuple' (.cons (.of_plainV (dR hz)) (.cons (.bool _) .nil))
       ·simp only [] at g1
        simp [Instr.lookup,ok.run_und hu w,hix,db ok hkd hk,g1,ok.run_zero hz w]
     | some r =>
      obtain ⟨p,hp,rfl⟩:=hm.map_inv
      simp only [] at hx
      cases hr:A.h.get r with
      | none=>simp [hr] at hx
      | some o =>
       cases o with
       | map es c =>
        simp only [hr] at hx
        obtain ⟨ces,hc,hent⟩:=ea h hr hp
        obtain ⟨g0,g⟩:=fin es ces hent hx
        subst g0
        have hgo:=bg (P:=P) hc (by simp)
        rcases g with ⟨j,v,v',g1,g2,rfl⟩ | ⟨g1,rfl⟩
        ·refine aN h (v':=if cok then .tuple #[v',.bool true] else v') ?_ ?_
         ·cases cok
          ·exact g2
          ·exact .tuple' (.cons g2 (.cons (.bool _) .nil))
         ·simp [Instr.lookup,ok.run_und hu w,hix,db ok hkd hk,g1,hgo]
        ·refine aN h (v':=if cok then .tuple #[z,.bool false] else z) ?_ ?_
         ·cases cok
          ·exact .of_plainV (dR hz)
          ·exact .tuple' (.cons (.of_plainV (dR hz)) (.cons (.bool _) .nil))
         ·simp [Instr.lookup,ok.run_und hu w,hix,db ok hkd hk,g1,hgo,ok.run_zero hz w]
       | _=>simp [hr] at hx
    | _=>simp at hx
   ·cases hx
  ·cases hx
 ·cases hx
theorem EntR.modify {es ces:List MapEntry} (h:EntR nm φ es ces) (i:Nat) {v v':Value} (hv:VR nm φ v v') (f:MapEntry->MapEntry) (hf:∀ e c:MapEntry,es[i]? = some e->ces[i]? = some c->f c={ c with key:=e.key,val:=v' }) :
  EntR nm φ (es.modify i fun e=>{ e with val:=v }) (ces.modify i f):=by
 refine ⟨by simp [h.1],fun j e c h1 h2=>?_⟩
 rw [List.getElem?_modify] at h1 h2
 cases he:es[j]? with
 | none=>simp [he] at h1
 | some e0 =>
  obtain ⟨c0,hc0,a,b,d,g⟩:=h.get? he
  by_cases hij:i=j
  ·subst hij
   simp only [if_true,he,Option.map_some,Option.some.injEq,Functor.map] at h1
   simp only [if_true,hc0,Option.map_some,Option.some.injEq,Functor.map] at h2
   rw [hf e0 c0 he hc0] at h2
   subst h1;subst h2
   exact ⟨a,rfl,d,hv⟩
  ·simp only [hij,if_false,he,Option.map_some,Option.some.injEq,Functor.map] at h1
   simp only [hij,if_false,hc0,Option.map_some,Option.some.injEq,Functor.map] at h2
   subst h1;subst h2
   exact ⟨a,b,d,g⟩
theorem EntR.push {es ces:List MapEntry} (h:EntR nm φ es ces) {k v v':Value} (n:Nat) (hk:aH k=true) (hv:VR nm φ v v') :
  EntR nm φ (es++[{ key:=k,val:=v,born:=n }]) (ces++[{ key:=k,val:=v',born:=n }]):=by
 refine ⟨by simp [h.1],fun j e c h1 h2=>?_⟩
 rw [List.getElem?_append] at h1 h2
 rw [<- h.1] at h2
 split at h1
 ·rename_i hj
  rw [if_pos hj] at h2
  exact h.2 j e c h1 h2
 ·rename_i hj
  rw [if_neg hj] at h2
  cases hq:j - es.length with
  | zero =>
   rw [hq] at h1 h2
   simp at h1 h2
   subst h1;subst h2
   exact ⟨hk,rfl,rfl,hv⟩
  | succ q=>rw [hq] at h1;simp at h1
theorem wc {kd:TypeDesc} {k:Value} (hk:bW kd k=true) (n:Nat):Instr.sameBits n k k=true:=by
 cases kd <;> cases k <;> simp only [bW] at hk <;> first | (cases hk;done) | skip
 ·simp [Instr.sameBits]
 ·simp [Instr.sameBits]
 ·simp only [Instr.sameBits];rw [bytes_beq];simp
theorem run_keyThatStays {kd:TypeDesc} {k:Value} (hk:bW kd k=true):(Instr.keyThatStays k k).run P w=.ok k w:=by
 simp only [Instr.keyThatStays]
 rw [if_pos (wc hk 10000)]
 rfl
theorem qG (ok:EnvOk E P nm) (h:WR nm K base φ A w) (t:TypeId) (m k x:Operand) (hm:VR nm φ (ρ m) (ρ' m)) (hk:VR nm φ (ρ k) (ρ' k)) (hv:VR nm φ (ρ x) (ρ' x))
  (hx:ik E A ρ t m k x=some (nx,A')):Goal P nm K base φ A w (Instr.mapUpdate t (ρ' m) (ρ' k) (ρ' x) >>= fun _=>pure Next.skip) nx A':=by
 unfold ik at hx
 split at hx
 ·rename_i kt et r hu hr
  split at hx
  ·rename_i kd es c hkd hes
   split at hx
   ·rename_i hkk
    split at hx
    ·rename_i es' c' hput
     cases hx
     have hkx:=hk.plainV_eq (gO hkk)
     rw [hr] at hm
     obtain ⟨p,hp,e⟩:=hm.map_inv
     obtain ⟨ces,hc,hent⟩:=ea h hes hp
     have hgo:=bg (P:=P) hc (by simp)
     have hlt:=h.lt _ _ hp
     have step:∀ (o:Obj) (ces':Array MapEntry),o=.map ces' c'->EntR nm φ es' ces'.toList->WR nm K base φ (A.setObj r (.map es' c')) (aZ w p.blk o):=by
      intro o ces' ho he
      subst ho
      exact h.setObj (o:=.map es c) (o':=.map es' c') hes rfl rfl (by simp) (by simp) rfl hp ⟨ces',cd w _ hlt,he⟩
     unfold me at hput
     split at hput
     ·rename_i i v hf
      cases hput
      obtain ⟨r',g1,g2⟩:=e9 hkk es ces.toList 0 _ hent hf
      obtain ⟨v',e1,e2,e3,e0,e4,e5,e6⟩:=g2
      subst e1
      have hfk:=run_findKey (w:=w) ok hkd g1
      rw [Nat.sub_zero] at e4
      obtain ⟨c0,hc0,_,hkey,_,_⟩:=hent.get? e4
      have hck:c0.key=ρ k:=hkey.trans e5
      refine kg (A':=A.setObj r (.map (es.modify i fun e=>{ e with val:=ρ x }) c)) (w':=aZ w p.blk (.map (ces.modify i fun e=>{ e with key:=ρ k,val:=ρ' x }) c)) rfl ?_ ?_
      ·refine step _ _ rfl ?_
       rw [Array.toList_modify]
       exact hent.modify i hv _ (fun e1 c1 he1 hc1=>by rw [e4] at he1;cases he1;rw [e5])
      ·have hc0':ces[i]? = some c0:=by simpa using hc0
       simp [Instr.mapUpdate,ok.run_und hu w,e,hgo,hkx,db ok hkd hkk,hfk,hc0',hck,run_keyThatStays hkk,dM hc (by simp)]
     ·rename_i hf
      cases hput
      obtain ⟨r',g1,g2⟩:=e9 hkk es ces.toList 0 _ hent hf
      simp only [] at g2
      subst g2
      have hfk:=run_findKey (w:=w) ok hkd g1
      refine kg (A':=A.setObj r (.map (es++[{ key:=ρ k,val:=ρ x,born:=c }]) (c+1))) (w':=aZ w p.blk (.map (ces.push { key:=ρ k,val:=ρ' x,born:=c }) (c+1))) rfl ?_ ?_
      ·refine step _ _ rfl ?_
       rw [Array.toList_push]
       exact hent.push c (gO hkk) hv
      ·simp [Instr.mapUpdate,ok.run_und hu w,e,hgo,hkx,db ok hkd hkk,hfk,dM hc (by simp)]
     ·cases hput
    ·cases hx
   ·cases hx
  ·cases hx
 ·cases hx
end
end Go.AM
namespace Go.AM
section
variable {E:Env} {P:Program} {nm:Nm} {K:Kp} {base:World} {φ:Emb} {A A':St} {w:World} {ρ ρ':Operand->Value} {nx:Nx}
theorem we (ok:EnvOk E P nm) (h:WR nm K base φ A w) (t:TypeId) (m k:Operand) (hm:VR nm φ (ρ m) (ρ' m)) (hk:VR nm φ (ρ k) (ρ' k))
  (hx:kL E A ρ t m k=some (nx,A')):Goal P nm K base φ A w (Instr.mapEntry t (ρ' m) (ρ' k) >>= fun x=>pure (Next.value x)) nx A':=by
 unfold kL at hx
 split at hx
 ·rename_i kt et r hu hr
  split at hx
  ·rename_i kd es c z hkd hes hz
   split at hx
   ·rename_i hkk
    have hkx:=hk.plainV_eq (gO hkk)
    rw [hr] at hm
    obtain ⟨p,hp,e⟩:=hm.map_inv
    obtain ⟨ces,hc,hent⟩:=ea h hes hp
    have hgo:=bg (P:=P) hc (by simp)
    have hlt:=h.lt _ _ hp
    split at hx
    ·rename_i i v hf
     obtain ⟨r',g1,g2⟩:=e9 hkk es ces.toList 0 _ hent hf
     obtain ⟨v',e1,e2,e3,e0,e4,e5,e6⟩:=g2
     subst e1
     have hfk:=run_findKey (w:=w) ok hkd g1
     rw [Nat.sub_zero] at e4
     obtain ⟨c0,hc0,hpk,hkey,hborn,hval⟩:=hent.get? e4
     have hck:c0.key=ρ k:=hkey.trans e5
     rw [e4] at hx
     simp only [] at hx
     cases hx
     have hc0':ces[i]? = some c0:=by simpa using hc0
     have hsame:A=A.setObj r (.map es c)\/True:=.inr trivial
     have hW:WR nm K base φ A (aZ w p.blk (.map (ces.modify i fun e=>{ e with key:=ρ k }) c)):=by
      have:=h.setObj (o:=.map es c) (o':=.map (es.modify i fun e=>{ e with val:=e0.val }) c) (c:=.map (ces.modify i fun e=>{ e with key:=ρ k }) c) hes rfl rfl (by simp) (by simp) rfl hp
       ⟨_,cd w _ hlt,by
        rw [Array.toList_modify]
        refine hent.modify i (v':=c0.val) hval _ (fun e1 c1 he1 hc1=>?_)
        rw [e4] at he1;cases he1
        rw [hc0] at hc1;cases hc1
        rw [e5]⟩
      have heq:es.modify i (fun e=>{ e with val:=e0.val })=es:=by
       apply List.ext_getElem?
       intro j
       rw [List.getElem?_modify]
       cases hj:es[j]? with
       | none=>simp
       | some ej =>
        by_cases hij:i=j
        ·subst hij;rw [e4] at hj;cases hj;simp
        ·simp [hij]
      rw [heq] at this
      -- the object is as it was
      refine { this with obj:=fun b o hb=>this.obj b o ?_,sep:=fun b d o u p q hbd hb hd=>this.sep b d o u p q hbd ?_ ?_,tip:=fun g m ms hg b hb r1 s p q h1 h2=>this.tip g m ms hg b hb r1 s p q ?_ ?_,old:=fun b o p hb=>this.old b o p ?_ }
      all_goals
       simp only [St.setObj,T.get_set]
       split
       ·rename_i e;subst e;first | (rw [hes] at hb;exact hb) | (rw [hes] at hd;exact hd) | (rw [hes] at h1;exact h1) | (rw [hes] at h2;exact h2)
       ·assumption
     refine cf (Emb.ext_refl _ _) (Nat.le_refl _) hW (v':=.tuple #[v',goInt e0.born]) ?_ ?_
     ·exact .tuple' (.cons e2 (.cons (.int _ _) .nil))
     ·simp [Instr.mapEntry,ok.run_und hu w,e,hgo,hkx,db ok hkd hkk,hfk,hc0',hck,run_keyThatStays hkk,dM hc (by simp),hborn]
    ·rename_i hf
     cases hx
     obtain ⟨r',g1,g2⟩:=e9 hkk es ces.toList 0 _ hent hf
     simp only [] at g2
     subst g2
     have hfk:=run_findKey (w:=w) ok hkd g1
     have hW:=h.setObj (o:=.map es c) (o':=.map (es++[{ key:=ρ k,val:=z,born:=c }]) (c+1)) (c:=.map (ces.push { key:=ρ k,val:=z,born:=c }) (c+1)) hes rfl rfl (by simp) (by simp) rfl hp
      ⟨_,cd w _ hlt,by rw [Array.toList_push];exact hent.push c (gO hkk) (.of_plainV (dR hz))⟩
     refine cf (Emb.ext_refl _ _) (Nat.le_refl _) hW (v':=.tuple #[z,goInt c]) ?_ ?_
     ·exact .tuple' (.cons (.of_plainV (dR hz)) (.cons (.int _ _) .nil))
     ·simp [Instr.mapEntry,ok.run_und hu w,e,hgo,hkx,db ok hkd hkk,hfk,ok.run_zero hz w,dM hc (by simp)]
    ·cases hx
   ·cases hx
  ·cases hx
 ·cases hx
theorem findIdx_eq {es ces:List MapEntry} (h:EntR nm φ es ces) (n:Int):ces.findIdx? (fun e=>(e.born:Int)==n)=es.findIdx? (fun e=>(e.born:Int)==n):=by
 induction es generalizing ces with
 | nil =>
  have:ces=[]:=by have:=h.1;simpa using this.symm
  subst this;rfl
 | cons e es ih =>
  obtain ⟨c,cs,rfl,_,_,h3,_,h5⟩:=h.cons_inv
  simp only [List.findIdx?_cons,h3,ih h5]
theorem wg (h:WR nm K base φ A w) (t:TypeId) (m s x:Operand) (hm:VR nm φ (ρ m) (ρ' m)) (hs:VR nm φ (ρ s) (ρ' s)) (hv:VR nm φ (ρ x) (ρ' x))
  (hx:kM A ρ m s x=some (nx,A')):Goal P nm K base φ A w (Instr.entryStore t (ρ' m) (ρ' s) (ρ' x) >>= fun _=>pure Next.skip) nx A':=by
 unfold kM at hx
 split at hx
 ·rename_i r k n hr hn
  split at hx
  ·rename_i es c hes
   split at hx
   ·rename_i i hi
    cases hx
    rw [hr] at hm;rw [hn] at hs
    obtain ⟨p,hp,e⟩:=hm.map_inv
    obtain ⟨ces,hc,hent⟩:=ea h hes hp
    have hgo:=bg (P:=P) hc (by simp)
    have hlt:=h.lt _ _ hp
    have hidx:ces.findIdx? (fun e=>(e.born:Int)==n)=some i:=by
     rw [<- Array.toArray_toList (xs:=ces),List.findIdx?_toArray,findIdx_eq hent,hi]
    have hW:=h.setObj (o:=.map es c) (o':=.map (es.modify i fun e=>{ e with val:=ρ x }) c) (c:=.map (ces.modify i fun e=>{ e with val:=ρ' x }) c) hes rfl rfl (by simp) (by simp) rfl hp
     ⟨_,cd w _ hlt,by
      rw [Array.toList_modify]
      refine hent.modify i hv _ (fun e1 c1 he1 hc1=>?_)
      obtain ⟨c2,hc2,_,hk2,_⟩:=hent.get? he1
      rw [hc1] at hc2;cases hc2
      rw [<- hk2]⟩
    refine kg (A':=A.setObj r _) rfl hW ?_
    simp [Instr.entryStore,e,hgo,hs.int_inv,asInt,asIntOf,hidx,dM hc (by simp)]
   ·cases hx
  ·cases hx
 ·cases hx
theorem mR (o:AObj):A.new o=(A.next,{ A with next:=A.next+1,h:=A.h.set A.next o }):=rfl
theorem mS {s:Sem Value} (h:WR nm K base φ A w) (o:AObj) (c:Obj) (ho:o.own=true) (hor:∀ p:Pl,p.blk=w.heap.size->p.off=0->φ.le (φ.upd A.next p)->OR nm (φ.upd A.next p) (w.heap.push c) p o)
  (hs:s.run P w=.ok (.pointer (some ⟨w.heap.size,0,none⟩)) (w.alloc c)) :
  Goal P nm K base φ A w (s >>= fun x=>pure (Next.value x)) (.val (.pointer (some ⟨A.next,0,none⟩))) { A with next:=A.next+1,h:=A.h.set A.next o }:=by
 have hn:=h.dom A.next (Nat.le_refl _)
 have hW:=h.new A.next (bQ w 0) o c (A.next+1) hn (Nat.le_succ _) (Nat.lt_succ_self _) rfl (hor _ rfl rfl (Emb.upd_le _ hn)) ho
 exact cf (Emb.upd_ext _ _ _) (Nat.le_succ _) hW (nE _ _) hs
theorem wh (ok:EnvOk E P nm) (h:WR nm K base φ A w) (t:TypeId) (x:Operand) (hv:VR nm φ (ρ x) (ρ' x)) (hx:im E A ρ t x=some (nx,A')) :
  Goal P nm K base φ A w (Instr.range t (ρ' x) >>= fun x=>pure (Next.value x)) nx A':=by
 unfold im at hx
 split at hx
 ·rename_i s hu hr
  rw [mR] at hx
  cases hx
  rw [hr] at hv
  refine mS h _ (.stringIter s 0) rfl (fun p hp h0 _=>by simp [OR,hp,h0]) ?_
  simp [Instr.range,ok.run_und hu w,hv.str_inv,newObj,Sem.run]
 ·rename_i k e hu hr
  rw [mR] at hx
  cases hx
  rw [hr] at hv
  cases hv':ρ' x <;> rw [hv'] at hv <;> cases hv
  refine mS h _ (.mapIter none 0 #[] 0) rfl (fun p hp h0 _=>⟨none,by simp [hp],rfl,h0⟩) ?_
  simp [Instr.range,ok.run_und hu w,newObj,Sem.run]
 ·rename_i k e m hu hr
  split at hx
  ·rename_i es c hes
   rw [mR] at hx
   cases hx
   rw [hr] at hv
   obtain ⟨q,hq,e1⟩:=hv.map_inv
   obtain ⟨ces,hc,hent⟩:=ea h hes hq
   refine mS h _ (.mapIter (some q.blk) c #[] c) rfl (fun p hp h0 hle=>⟨some q.blk,by simp [hp],⟨q,hle _ _ hq,rfl⟩,h0⟩) ?_
   simp [Instr.range,ok.run_und hu w,e1,bg hc (by simp),newObj,Sem.run]
  ·cases hx
 ·cases hx
theorem ju (h:WR nm K base φ A w) {b:Nat} {o:AObj} {p:Pl} (hb:A.h.get b=some o) (hl:o.live=true) (hp:φ b=some p):OR nm φ w.heap p o:=by
 obtain ⟨q,hq,ho,_⟩:=h.obj b _ hb hl
 rw [hp] at hq;cases hq
 exact ho
theorem wi {es ces:List MapEntry} (h:EntR nm φ es ces) (seen:List Nat):EntR nm φ (es.filter fun e=>!seen.contains e.born) (ces.filter fun e=>!seen.contains e.born):=by
 induction es generalizing ces with
 | nil =>
  have:ces=[]:=by have:=h.1;simpa using this.symm
  subst this;exact .nil
 | cons e es ih =>
  obtain ⟨c,cs,rfl,h1,h2,h3,h4,h5⟩:=h.cons_inv
  have:=ih h5
  simp only [List.filter_cons,h3]
  split
  ·refine ⟨by rw [List.length_cons,List.length_cons,this.1],fun i e' c' g1 g2=>?_⟩
   cases i with
   | zero=>simp at g1 g2;subst g1;subst g2;exact ⟨h1,h2,h3,h4⟩
   | succ i=>exact this.2 i e' c' (by simpa using g1) (by simpa using g2)
  ·exact this
theorem wj (h:WR nm K base φ A w) (ty:TypeId) (it:Operand) (isStr:Bool) (hv:VR nm φ (ρ it) (ρ' it)) (hx:kN A ρ it isStr=some (nx,A')) :
  Goal P nm K base φ A w (Instr.next (ρ' it) isStr ty >>= fun x=>pure (Next.value x)) nx A':=by
 unfold kN at hx
 split at hx
 ·rename_i b hr
  rw [hr] at hv
  obtain ⟨p,hp,_,e⟩:=hv.ptr_inv
  have hlt:=h.lt _ _ hp
  split at hx
  ·rename_i s pos hb
   obtain ⟨ho,h0⟩:w.heap[p.blk]? = some (.stringIter s pos)/\p.off=0:=ju h hb rfl hp
   simp only [h0,Nat.add_zero] at e
   split at hx
   ·rename_i hpos
    cases hx
    have hW:=h.setObj (o:=.siter s pos) (o':=.siter s (pos+(Utf8.decode s pos).2)) (c:=.stringIter s (pos+(Utf8.decode s pos).2)) hb rfl rfl (by simp) (by simp) rfl hp ⟨cd w _ hlt,h0⟩
    refine cf (Emb.ext_refl _ _) (Nat.le_refl _) hW (v':=.tuple #[.bool true,goInt pos,.int .i32 (Utf8.decode s pos).1]) ?_ ?_
    ·exact .tuple' (.cons (.bool _) (.cons (.int _ _) (.cons (.int _ _) .nil)))
    ·simp [Instr.next,e,bg ho (by simp),hpos,dM ho (by simp)]
   ·rename_i hpos
    cases hx
    refine aN h (v':=.tuple #[.bool false]) (.tuple' (.cons (.bool _) .nil)) ?_
    simp [Instr.next,e,bg ho (by simp),hpos]
  ·rename_i x1 x2 x3 hb
   cases hx
   obtain ⟨m',ho,hm,h0⟩:=ju h hb rfl hp
   simp only [] at hm
   subst hm
   simp only [h0,Nat.add_zero] at e
   refine aN h (v':=.tuple #[.bool false]) (.tuple' (.cons (.bool _) .nil)) ?_
   simp [Instr.next,e,bg ho (by simp)]
  ·rename_i m since seen stepped hb
   obtain ⟨m',ho,⟨q,hq,rfl⟩,h0⟩:=ju h hb rfl hp
   simp only [h0,Nat.add_zero] at e
   split at hx
   ·rename_i es c hes
    split at hx
    ·rename_i hc
     obtain ⟨hc1,hc2,hall⟩:=hc
     subst hc1
     subst hc2
     obtain ⟨ces,hcc,hent⟩:=ea h hes hq
     have hgo:=bg (P:=P) ho (by simp)
     have hgm:=bg (P:=P) hcc (by simp)
     have hbornC:∀ x,x∈ces.toList->x.born < c:=by
      intro x hx
      obtain ⟨i,hi⟩:=List.getElem?_of_mem hx
      have hi':i < es.length:=by
       rcases Nat.lt_or_ge i es.length with g | g
       ·exact g
       ·rw [List.getElem?_eq_none (by rw [<- hent.1];exact g)] at hi;cases hi
      obtain ⟨c1,hc1,_,_,hb1,_⟩:=hent.get? (List.getElem?_eq_getElem hi')
      rw [hi] at hc1;cases hc1
      have:=List.all_eq_true.1 hall _ (List.getElem_mem hi')
      rw [hb1];exact Nat.le_of_ble_eq_true this
     have hfil:=wi hent seen
     have hleft:∀ l,ces.toList.filter (fun e=>!seen.contains e.born)=l->ces.filter (fun e=>!seen.toArray.contains e.born)=l.toArray:=by
      intro l hl
      apply Array.ext'
      rw [Array.toList_filter]
      simp only [List.contains_toArray]
      exact hl
     have hguard:(!seen.toArray.isEmpty&&!ces.isEmpty&&ces.all (fun x=>decide (x.born>=c)))=false:=by
      cases hce:ces.isEmpty with
      | true=>simp
      | false =>
       have:ces.all (fun x=>decide (x.born>=c))=false:=by
        rw [<- Array.all_toList]
        cases hl:ces.toList with
        | nil => 
         have:ces=#[]:=by apply Array.ext';rw [hl]
         subst this;simp at hce
        | cons x xs =>
         have:=hbornC x (by rw [hl];simp)
         simp;intro hge;omega
       rw [this];simp
     split at hx
     ·rename_i hnil
      cases hx
      rw [hnil] at hfil
      have hcnil:ces.toList.filter (fun e=>!seen.contains e.born)=[]:=by have:=hfil.1;simpa using this.symm
      have hl:=hleft _ hcnil
      refine aN h (v':=.tuple #[.bool false]) (.tuple' (.cons (.bool _) .nil)) ?_
      have hf1:∀ f:MapEntry->Bool,(#[]:Array MapEntry).filter f=#[]:=fun f=>by simp
      simp only [Instr.next,e,Sem.run_bind,hgo,hgm,Result.andThen_ok,hguard,hl,hf1,Bool.false_eq_true,if_false]
      simp [choose,Sem.run,Question.forced]
     ·rename_i e1 hone
      cases hx
      rw [hone] at hfil
      obtain ⟨c1,cs1,hcl,g1,g2,g3,g4,g5⟩:=hfil.cons_inv
      have:cs1=[]:=by have:=g5.1;simpa using this.symm
      subst this
      have hl:=hleft _ hcl
      have hc1:c1.born < c:=hbornC c1 (by
       have:c1∈ces.toList.filter (fun e=>!seen.contains e.born):=by rw [hcl];simp
       exact (List.mem_filter.1 this).1)
      have hold:([c1].toArray.filter fun x=>decide (x.born < c))=#[c1]:=by
       apply Array.ext';rw [Array.toList_filter];simp [hc1]
      have hnew:([c1].toArray.filter fun x=>decide (x.born>=c))=#[]:=by
       apply Array.ext';rw [Array.toList_filter];simp;omega
      have hW:=h.setObj (o:=.miter (some m) c seen c) (o':=.miter (some m) c (seen++[e1.born]) c) (c:=.mapIter (some q.blk) c (seen.toArray.push c1.born) c) hb rfl rfl (by simp) (by simp) rfl hp
       ⟨some q.blk,by rw [cd w _ hlt,g3];simp,⟨q,hq,rfl⟩,h0⟩
      refine cf (Emb.ext_refl _ _) (Nat.le_refl _) hW (v':=.tuple #[.bool true,c1.key,c1.val]) ?_ ?_
      ·rw [g2];exact .tuple' (.cons (.bool _) (.cons (.of_plainV g1) (.cons g4 .nil)))
      ·simp only [Instr.next,e,Sem.run_bind,hgo,hgm,Result.andThen_ok,hguard,hl,hold,hnew]
       simp only [Bool.false_eq_true,if_false]
       simp [choose,Sem.run,Question.forced]
       rw [dM ho (by simp)]
       rfl
     ·cases hx
    ·cases hx
   ·cases hx
  ·cases hx
 ·cases hx
theorem qH {st:Nat}:∀ {es ces:List MapEntry},EntR nm φ es ces->∀ {e:MapEntry},kO st es=some e->∃ c,ces.find? (·.born==st)=some c/\aH e.key=true/\c.key=e.key/\VR nm φ e.val c.val
 | [],_,_,e,h=>by cases h
 | x::es,ces,hr,e,h=>by
  obtain ⟨c,cs,rfl,h1,h2,h3,h4,h5⟩:=hr.cons_inv
  simp only [kO] at h
  by_cases hb:Nat.beq x.born st=true
  ·rw [if_pos hb] at h
   cases h
   have:=Nat.eq_of_beq_eq_true hb
   refine ⟨c,?_,h1,h2,h4⟩
   simp [h3,this]
  ·rw [if_neg hb] at h
   obtain ⟨c',k1,k2⟩:=qH h5 h
   refine ⟨c',?_,k2⟩
   have hne:x.born≠st:=fun e=>hb (by rw [e];exact Nat.beq_refl st)
   simp [h3,hne,k1]
theorem wm (h:WR nm K base φ A w) (it:Operand) (hv:VR nm φ (ρ it) (ρ' it)) (hx:mi A ρ it=some (nx,A')) :
  Goal P nm K base φ A w (Instr.entry (ρ' it) >>= fun x=>pure (Next.value x)) nx A':=by
 unfold mi at hx
 split at hx
 ·rename_i b hr
  rw [hr] at hv
  obtain ⟨p,hp,_,e⟩:=hv.ptr_inv
  split at hx
  ·rename_i m since seen stepped hb
   obtain ⟨m',ho,⟨q,hq,rfl⟩,h0⟩:=ju h hb rfl hp
   simp only [h0,Nat.add_zero] at e
   split at hx
   ·rename_i es c hes
    split at hx
    ·rename_i st hst
     split at hx
     ·rename_i hc
      subst hc
      split at hx
      ·rename_i en hf
       cases hx
       obtain ⟨ces,hcc,hent⟩:=ea h hes hq
       obtain ⟨ce,k1,k2,k3,k4⟩:=qH hent hf
       have hgo:=bg (P:=P) ho (by simp)
       have hgm:=bg (P:=P) hcc (by simp)
       have hback:seen.toArray.back? = some st:=by simpa using hst
       have hfind:ces.find? (·.born==st)=some ce:=by rw [<- Array.find?_toList];exact k1
       refine aN h (v':=.tuple #[ce.key,ce.val]) (.tuple' (.cons ?_ (.cons k4 .nil))) ?_
       ·rw [k3];exact .of_plainV k2
       ·simp [Instr.entry,e,hgo,hgm,hback,hfind]
      ·cases hx
     ·cases hx
    ·cases hx
   ·cases hx
  ·cases hx
 ·cases hx
end
end Go.AM
namespace Go.AM
section
variable {E:Env} {P:Program} {nm:Nm} {K:Kp} {base:World} {φ:Emb} {A A':St} {w:World} {ρ ρ':Operand->Value} {nx:Nx}
theorem WR.addRow (h:WR nm K base φ A w) {p:Pl} {r:Row} {w':World} {h1:T AObj} {rest:List Nat}
  (hkill:∀ c,h1.get c=A.h.get c\/h1.get c=some .dead) (hsize:w.heap.size<=w'.heap.size) (hpb:p.blk < w'.heap.size)
  (hsame:∀ B,B < w.heap.size->B≠p.blk->w'.heap[B]? = w.heap[B]?) (hK:K p.blk=none)
  (hin:∀ c o q,h1.get c=some o->o.live=true->φ c=some q->q.blk=p.blk ->
   OR nm φ w'.heap q o/\∃ s,o=.row s/\s.grp=r.grp/\c∈rest/\q.off+s.size<=p.off+r.size)
  (hrest:∀ c,c∈rest->∃ q,φ c=some q/\K q.blk=none)
  (hold:∀ ms,A.g.get r.grp=some ms->∀ c d,c≠d->c∈ms->d∈ms->(∃ o,h1.get c=some o/\o.live=true)->(∃ o,h1.get d=some o/\o.live=true)->c∈rest/\d∈rest)
  (htip:∀ c s q,c∈rest->h1.get c=some (.row s)->φ c=some q->q.blk=p.blk->q.off+s.size<=p.off+r.size)
  (hr:∃ cs fz,RowR nm (φ.upd A.next p) w'.heap p r cs fz) (hown:r.own=true) (henv:w'.tape=w.tape/\w'.os=w.os/\w'.output=w.output) :
  WR nm K base (φ.upd A.next p) { A with next:=A.next+1,h:=h1.set A.next (.row r),g:=A.g.set r.grp (A.next::rest) } w':=by
 have hn:=h.dom A.next (Nat.le_refl _)
 have hle:=Emb.upd_le p hn
 have keep:∀ c o,h1.get c=some o->o.live=true->A.h.get c=some o:=by
  intro c o hc hl
  rcases hkill c with g | g
  ·rw [<- g];exact hc
  ·rw [g] at hc;cases hc;simp [AObj.live] at hl
 have orOld:∀ c o q,h1.get c=some o->o.live=true->φ c=some q->OR nm (φ.upd A.next p) w'.heap q o:=by
  intro c o q hc hl hq
  by_cases hb:q.blk=p.blk
  ·exact (hin c o q hc hl hq hb).1.mono hle rfl
  ·obtain ⟨q',e1,e2,_⟩:=h.obj c o (keep c o hc hl) hl
   rw [hq] at e1;cases e1
   exact e2.mono hle (hsame _ (h.lt _ _ hq) hb)
 refine ⟨?_,?_,?_,?_,?_,?_,?_,?_,Nat.le_trans h.size hsize,fun x u q hx hl hu hq=>(by
  simp only [] at hx
  by_cases e:x=A.next
  ·subst e;rw [T.get_set_same] at hx;cases hx;rw [show AObj.own (.row r)=true from hown] at hu;cases hu
  ·rw [T.get_set_other _ _ e] at hx;rw [Emb.upd_other φ p e] at hq;exact h.old x u q (keep x u hx hl) hl hu hq)⟩
 ·intro x hx
  have hx':A.next+1<=x:=hx
  rw [Emb.upd_other φ p (by omega)];exact h.dom x (by omega)
 ·intro x q hx
  by_cases e:x=A.next
  ·subst e;rw [Emb.upd_same] at hx;cases hx;exact hpb
  ·rw [Emb.upd_other φ p e] at hx;exact Nat.lt_of_lt_of_le (h.lt _ _ hx) hsize
 ·intro x u hx hl
  simp only [] at hx
  by_cases e:x=A.next
  ·subst e
   rw [T.get_set_same] at hx;cases hx
   exact ⟨p,Emb.upd_same _ _ _,hr,by rw [hK];exact hown.symm⟩
  ·rw [T.get_set_other _ _ e] at hx
   obtain ⟨q,g1,g2,g3⟩:=h.obj x u (keep x u hx hl) hl
   exact ⟨q,hle _ _ g1,orOld x u q hx hl g1,g3⟩
 ·intro B u hB
  have:=h.key _ _ hB
  have hlt:B < w.heap.size:=(Array.getElem?_eq_some_iff.1 this).1
  rw [hsame B hlt (by rintro rfl;rw [hK] at hB;cases hB)]
  exact this
 ·intro x y ox oy px py hxy hx hy lx ly wx wy ex ey hblk
  simp only [] at hx hy
  by_cases e1:x=A.next
  ·subst e1
   rw [T.get_set_same] at hx;cases hx
   rw [Emb.upd_same] at ex;cases ex
   have e2:y≠A.next:=fun e=>hxy e.symm
   rw [T.get_set_other _ _ e2] at hy
   rw [Emb.upd_other φ p e2] at ey
   obtain ⟨_,s,rfl,g1,g2,_⟩:=hin y oy py hy ly ey hblk.symm
   exact ⟨r,s,A.next::rest,rfl,rfl,g1.symm,T.get_set_same _ _ _,by simp,by simp [g2]⟩
  ·rw [T.get_set_other _ _ e1] at hx
   rw [Emb.upd_other φ p e1] at ex
   by_cases e2:y=A.next
   ·subst e2
    rw [T.get_set_same] at hy;cases hy
    rw [Emb.upd_same] at ey;cases ey
    obtain ⟨_,s,rfl,g1,g2,_⟩:=hin x ox px hx lx ex hblk
    exact ⟨s,r,A.next::rest,rfl,rfl,g1,by rw [g1];exact T.get_set_same _ _ _,by simp [g2],by simp⟩
   ·rw [T.get_set_other _ _ e2] at hy
    rw [Emb.upd_other φ p e2] at ey
    obtain ⟨r1,r2,ms,g1,g2,g3,g4,g5,g6⟩:=h.sep x y ox oy px py hxy (keep _ _ hx lx) (keep _ _ hy ly) lx ly wx wy ex ey hblk
    by_cases eg:r1.grp=r.grp
    ·obtain ⟨k1,k2⟩:=hold ms (eg ▸ g4) x y hxy g5 g6 ⟨ox,hx,lx⟩ ⟨oy,hy,ly⟩
     exact ⟨r1,r2,A.next::rest,g1,g2,g3,by rw [eg];exact T.get_set_same _ _ _,by simp [k1],by simp [k2]⟩
    ·exact ⟨r1,r2,ms,g1,g2,g3,by simp only [];rw [T.get_set_other _ _ eg];exact g4,g5,g6⟩
 ·intro g m ms hgm x hx s1 s2 px py k1 k2 e1 e2 hblk
  simp only [] at hgm k1 k2
  by_cases eg:g=r.grp
  ·subst eg
   rw [T.get_set_same] at hgm
   simp only [Option.some.injEq,List.cons.injEq] at hgm
   obtain ⟨rfl,rfl⟩:=hgm
   rw [T.get_set_same] at k2;cases k2
   rw [Emb.upd_same] at e2;cases e2
   by_cases ex:x=A.next
   ·subst ex
    obtain ⟨_,this,_⟩:=hrest _ hx
    rw [hn] at this;cases this
   ·rw [T.get_set_other _ _ ex] at k1
    rw [Emb.upd_other φ p ex] at e1
    exact htip x s1 px hx k1 e1 hblk
  ·rw [T.get_set_other _ _ eg] at hgm
   have hmem:∀ z,z∈m::ms->z≠A.next:=by
    intro z hz e
    subst e
    have:=h.has hgm hz
    rw [hn] at this;cases this
   have x1:=hmem x (by simp [hx])
   have x2:=hmem m (by simp)
   rw [T.get_set_other _ _ x1] at k1
   rw [T.get_set_other _ _ x2] at k2
   rw [Emb.upd_other φ p x1] at e1
   rw [Emb.upd_other φ p x2] at e2
   exact h.tip g m ms hgm x hx s1 s2 px py (keep _ _ k1 rfl) (keep _ _ k2 rfl) e1 e2 hblk
 ·intro g ms hgm z hz
  simp only [] at hgm
  by_cases eg:g=r.grp
  ·subst eg
   rw [T.get_set_same] at hgm
   cases hgm
   rcases List.mem_cons.1 hz with e | e
   ·subst e;exact ⟨p,Emb.upd_same _ _ _,hK⟩
   ·obtain ⟨q,h1,h2⟩:=hrest z e
    exact ⟨q,hle _ _ h1,h2⟩
  ·rw [T.get_set_other _ _ eg] at hgm
   obtain ⟨q,h1,h2⟩:=h.grp g ms hgm z hz
   exact ⟨q,hle _ _ h1,h2⟩
 ·obtain ⟨a,b,c⟩:=h.env
  exact ⟨henv.1.trans a,henv.2.1.trans b,henv.2.2.trans c⟩
end
end Go.AM
namespace Go.AM
section
variable {E:Env} {P:Program} {nm:Nm} {K:Kp} {base:World} {φ:Emb} {A A':St} {w:World} {ρ ρ':Operand->Value} {nx:Nx}
def iT (P:Program) (w:World) (s:Sem (Array Value)) (cvs:List Value):Prop:=∀ w2:World,w2.heap=w.heap->s.run P w2=.ok cvs.toArray w2
theorem qI {w w2:World} (h:w2.heap=w.heap) (a:Addr):w2.cell? a=w.cell? a:=by simp [World.cell?,h]
theorem mT {a:Addr} {l k:Nat} {c:Value} (h:VR nm φ (.slice (some a) l k) c) (hl:0 < l) :
  ∃ k' p,c=.slice (some ⟨p.blk,p.off+a.off,none⟩) l k'/\φ a.block=some p/\a.spot=none/\(p.opn=false->k'=k)/\(p.opn=true->k<=k'/\p.off+a.off+k' * p.esz<=p.csz)/\l<=k:=by
 obtain ⟨a',k',p,rfl,hp,hsp,q1,q2,q3,q4,q5,q6⟩:=h.slc_inv
 have hk:¬ k'=0:=by
  intro e
  cases ho:p.opn with
  | true=>have:=(q5 ho).1;omega
  | false=>have:=q4 ho;omega
 have haddr:a'=⟨p.blk,p.off+a.off,none⟩:=by
  have q1':=q1.resolve_left hk
  replace q2:=q2.resolve_left hk
  cases a';simp only [] at q1' q2 q3
  simp [q1',q2,q3.resolve_left hk]
 subst haddr
 exact ⟨k',p,rfl,hp,hsp,q4,q5,q6⟩
theorem qJ (h:WR nm K base φ A w) {sz n:Nat} {x x':Value} {vs:List Value} (hx:VR nm φ x x') (hf:cS A sz n x=some vs) (hn:∀ a l c,x=.slice (some a) l c->n<=l) :
  ∃ cvs,LR nm φ vs cvs/\iT P w (Builtin.firstCells sz n x') cvs:=by
 unfold cS at hf
 split at hf
 ·rename_i a l c
  by_cases hz:n * sz=0
  ·have hl:vs=[]:=by
    unfold St.loadN at hf
    split at hf
    ·cases hf
    split at hf
    ·split at hf
     ·exact List.eq_nil_of_length_eq_zero ((T.range_some _ _ _ _ hf).1.trans hz)
     ·cases hf
    ·cases hf
   subst hl
   obtain ⟨a',k',p,rfl,_⟩:=hx.slc_inv
   exact ⟨[],.nil,fun w2 _=>by simp [Builtin.firstCells,hz,loadCells,loadCellsFrom]⟩
  ·have hn0:0 < n:=by
    rcases Nat.eq_zero_or_pos n with g | g
    ·subst g;simp at hz
    ·exact g
   obtain ⟨k',p,rfl,hp,hsp,_⟩:=mT hx (Nat.lt_of_lt_of_le hn0 (hn a l c rfl))
   obtain ⟨cvs,hr⟩:=h.load hf hp
   refine ⟨cvs,hr.rel,fun w2 hw=>?_⟩
   have:Rd nm φ w2 ⟨p.blk,p.off+a.off,none⟩ (n * sz) vs cvs:=⟨hr.len,hr.rel,fun j v hj=>by rw [qI hw];exact hr.cell j v hj⟩
   exact this.run
 ·rename_i l c
  split at hf
  ·rename_i hn
   cases hf
   rw [hx.nils_inv]
   exact ⟨[],.nil,fun w2 _=>by simp [Builtin.firstCells]⟩
  ·cases hf
 ·rename_i s
  cases hf
  rw [hx.str_inv]
  refine ⟨_,LR.map _ fun b _=>.int _ _,fun w2 _=>?_⟩
  simp only [Builtin.firstCells,Sem.run_pure]
  congr 1
  apply Array.ext'
  simp
 ·cases hf
inductive News (P:Program) (w:World) (t1 e:TypeId) (i:TypeInfo) (x':Value) (n:Nat) (cnew:List Value):Prop where
 | plain (d1:TypeDesc):(∀ w2:World,(underlying t1).run P w2=.ok d1 w2)->(∀ k,d1≠.int k)->(∀ w2:World,(Builtin.lenOf x').run P w2=.ok n w2) ->
   iT P w (Builtin.firstCells i.size n x') cnew->News P w t1 e i x' n cnew
 | zeros (k k0:IntKind) (z:Value):(∀ w2:World,(underlying t1).run P w2=.ok (.int k) w2)->x'=.int k0 n->n<=4294967296->(∀ w3:World,(zeroValue e).run P w3=.ok z w3)->z.cells.size=i.size ->
   cnew=zeros z.cells.toList n->News P w t1 e i x' n cnew
theorem wo (ok:EnvOk E P nm) (h:WR nm K base φ A w) {t1:TypeId} {d1:TypeDesc} {e:TypeId} {i:TypeInfo} {x x':Value} {n:Nat} {new:List Value}
  (hd:E.und t1=some d1) (hx:VR nm φ x x') (hf:fZ E A d1 e i x=some (n,new)):∃ cnew,LR nm φ new cnew/\News P w t1 e i x' n cnew:=by
 unfold fZ at hf
 split at hf
 ·rename_i k
  split at hf
  ·rename_i k0 m z hz
   split at hf
   ·rename_i hc
    cases hf
    obtain ⟨q,rfl⟩:=Int.eq_ofNat_of_zero_le hc.1
    refine ⟨_,jF (fk hz φ) _,.zeros k k0 z (fun w2=>ok.run_und hd w2) ?_ ?_ (fun w3=>ok.run_zero hz w3) hc.2.2 rfl⟩
    ·rw [hx.int_inv];simp
    ·simp only [Int.toNat_natCast];omega
   ·cases hf
  ·cases hf
 ·rename_i hni
  split at hf
  ·rename_i m hl
   split at hf
   ·rename_i nw hfn
    cases hf
    obtain ⟨cvs,h1,h2⟩:=qJ (P:=P) h hx hfn (fun a l c e=>by subst e;simp [dN] at hl;omega)
    refine ⟨cvs,h1,.plain d1 (fun w2=>ok.run_und hd w2) (fun k e=>hni k e) (fun w2=>?_) h2⟩
    unfold dN at hl
    split at hl
    ·rename_i b l c
     cases hl
     cases b with
     | none=>rw [hx.nils_inv];rfl
     | some b=>obtain ⟨a',k',p,rfl,_⟩:=hx.slc_inv;rfl
    ·cases hl;rw [hx.str_inv];rfl
    ·cases hl
   ·cases hf
  ·cases hf
theorem jv {t t1 ty e:TypeId} {i:TypeInfo} {bs:Option Addr} {len c n:Nat} {x':Value} {cnew:List Value} (ht:∀ w2:World,(underlying t).run P w2=.ok (.slice e) w2)
  (hi:∀ w2:World,(typeInfo e).run P w2=.ok i w2) (hs:∀ w2:World,(sizeOf e).run P w2=.ok i.size w2) (hn:News P w t1 e i x' n cnew) (hroom:len+n<=c) (hcap:n * i.bytes<=140737488355328) (hz:n=0\/i.size≠0) :
  (Builtin.append_ #[t,t1] ty #[.slice bs len c,x']).run P w =
   ((match bs with | some a=>storeCells (a.add (len * i.size)) cnew | none=>pure ()).run P w).andThen fun _ w'=>.ok (.slice bs (len+n) c) w':=by
 cases hn with
 | plain d1 h1 h2 h3 h4 =>
  have hne:(d1 matches .int _)=false:=by cases d1 <;> first | rfl | (exact absurd rfl (h2 _))
  have h4':=h4 w rfl
  simp only [Builtin.append_,List.getElem?_toArray,List.getElem?_cons_zero,List.getElem?_cons_succ,Sem.run_bind,ht,hs,Result.andThen_ok,h1,Sem.run_pure,Bool.false_eq_true,if_false,h3,Bool.not_false,if_true]
  rw [if_pos hroom]
  simp only [Sem.run_bind,h4',Result.andThen_ok]
  cases bs <;> simp
 | zeros k k0 z h1 h2 h3 h4 h5 h6 =>
  subst h2
  subst h6
  have w1:IntKind.i64.wrap (n:Int)=n:=by unfold IntKind.wrap;simp [IntKind.bits,IntKind.signed];omega
  have big:¬ ((2:Int) ^ 48 < (n:Int) * i.bytes):=by
   have:((n * i.bytes:Nat):Int)=(n:Int) * i.bytes:=by simp
   omega
  have hzc:Builtin.zeroCells z.cells n=(zeros z.cells.toList n).toArray:=by
   unfold Builtin.zeroCells
   exact jE z.cells n z.cells.size rfl
  simp only [Builtin.append_,List.getElem?_toArray,List.getElem?_cons_zero,List.getElem?_cons_succ,Sem.run_bind,ht,hs,Result.andThen_ok,h1,Sem.run_pure,if_true,asInt,asIntOf,w1]
  rw [if_neg (by omega)]
  simp only [Sem.run_bind,hi,Result.andThen_ok]
  rw [if_neg (by simpa using big)]
  simp only [Sem.run_bind,Sem.run_pure,Result.andThen_ok,Int.toNat_natCast,Bool.not_true,Bool.false_eq_true,if_false]
  rw [if_pos hroom]
  by_cases h0:n * i.size=0
  ·have hn0:n=0:=by
    rcases Nat.mul_eq_zero.1 h0 with g | g
    ·exact g
    ·exact hz.resolve_right (fun f=>f g)
   subst hn0
   rw [if_pos h0]
   simp only [Sem.run_bind,Sem.run_pure,Result.andThen_ok,zeros]
   cases bs <;> simp [storeCells]
  ·rw [if_neg h0]
   simp only [Sem.run_bind,h4,Sem.run_pure,Result.andThen_ok,hzc]
   cases bs <;> simp
theorem mU {t t1 ty e:TypeId} {i:TypeInfo} {bs:Option Addr} {len c n:Nat} {x' z:Value} {cold cnew:List Value} (ht:∀ w2:World,(underlying t).run P w2=.ok (.slice e) w2)
  (hi:∀ w2:World,(typeInfo e).run P w2=.ok i w2) (hs:∀ w2:World,(sizeOf e).run P w2=.ok i.size w2) (hzv:∀ w2:World,(zeroValue e).run P w2=.ok z w2)
  (hn:News P w t1 e i x' n cnew) (hold:iT P w (Builtin.firstCells i.size len (.slice bs len c)) cold) (hroom:¬ len+n<=c) (h63:len+n<=4611686018427387904)
  (hcap:(len+n) * i.bytes<=140737488355328) (hz:i.size≠0) :
  (Builtin.append_ #[t,t1] ty #[.slice bs len c,x']).run P w =
   .ok (.slice (some ⟨w.heap.size,0,none⟩) (len+n) (grownCap w (len+n) c e))
    (w.drew.alloc (.cells ((cold++cnew).toArray++Builtin.zeroCells z.cells (grownCap w (len+n) c e - (len+n))) e)):=by
 have h63':¬ (((len+n:Nat):Int) > IntKind.i64.max):=by simp [IntKind.max,IntKind.bits,IntKind.signed];omega
 have hfits:¬ (Builtin.nextslicecap (len+n) c * i.bytes > 2 ^ 48):=by
  have:=growslice_fits (bytes:=i.bytes) (show c < len+n by omega) hcap
  omega
 have hd:w.drew.heap=w.heap:=rfl
 have hol:=hold w.drew hd
 have room:∀ (m:Nat) (w2:World),(askRoom m).run P w2=.ok () w2:=by
  intro m w2
  unfold askRoom
  split <;> rfl
 have hch:∀ need old:Nat,(choose (.appendCap need old e)).run P w=.ok ((Question.appendCap need old e).cut (w.tape w.drawn (.appendCap need old e))) w.drew:=by
  intro need old
  exact run_choose _ _ _ |>.trans rfl
 cases hn with
 | plain d1 h1 h2 h3 h4 =>
  have hne:(d1 matches .int _)=false:=by cases d1 <;> first | rfl | (exact absurd rfl (h2 _))
  have h4':=h4 w.drew hd
  simp only [Builtin.append_,List.getElem?_toArray,List.getElem?_cons_zero,List.getElem?_cons_succ,Sem.run_bind,ht,hs,Result.andThen_ok,h1,Sem.run_pure,Bool.false_eq_true,if_false,h3,Bool.not_false,if_true]
  rw [if_neg hroom]
  simp only [Sem.run_bind,hi,Result.andThen_ok]
  rw [if_neg (fun g=>h63' g.1)]
  simp only [Sem.run_bind,Result.andThen_ok,hi]
  rw [if_neg hfits]
  simp only [Sem.run_bind,Sem.run_pure,Result.andThen_ok,hch,hi,room,hol,h4',hzv,newRow,run_newObj,Sem.run_bind,Sem.run_pure]
  simp
  exact ⟨rfl,rfl⟩
 | zeros k k0 zv h1 h2 h3 h4 h5 h6 =>
  subst h2
  subst h6
  have w1:IntKind.i64.wrap (n:Int)=n:=by unfold IntKind.wrap;simp [IntKind.bits,IntKind.signed];omega
  have big:¬ ((2:Int) ^ 48 < (n:Int) * i.bytes):=by
   have:((n * i.bytes:Nat):Int)=(n:Int) * i.bytes:=by simp
   have:=Nat.le_trans (Nat.mul_le_mul_right i.bytes (Nat.le_add_left n len)) hcap
   omega
  have hzc:Builtin.zeroCells zv.cells n=(zeros zv.cells.toList n).toArray:=by
   unfold Builtin.zeroCells
   exact jE zv.cells n zv.cells.size rfl
  have hap:Sem.run P (if n * i.size=0 then pure #[] else (do let a <- zeroValue e;pure (Builtin.zeroCells a.cells n)):Sem (Array Value)) w.drew=.ok (zeros zv.cells.toList n).toArray w.drew:=by
   by_cases h0:n * i.size=0
   ·have hn0:n=0:=by
     rcases Nat.mul_eq_zero.1 h0 with g | g
     ·exact g
     ·exact absurd g hz
    subst hn0
    rw [if_pos h0]
    simp [zeros]
   ·rw [if_neg h0]
    simp only [Sem.run_bind,h4,Sem.run_pure,Result.andThen_ok,hzc]
  simp only [Builtin.append_,List.getElem?_toArray,List.getElem?_cons_zero,List.getElem?_cons_succ,Sem.run_bind,ht,hs,Result.andThen_ok,h1,Sem.run_pure,if_true,asInt,asIntOf,w1]
  rw [if_neg (by omega)]
  simp only [Sem.run_bind,hi,Result.andThen_ok]
  rw [if_neg (by simpa using big)]
  simp only [Sem.run_bind,Sem.run_pure,Result.andThen_ok,Int.toNat_natCast,Bool.not_true,Bool.false_eq_true,if_false]
  rw [if_neg hroom]
  simp only [Sem.run_bind,hi,Result.andThen_ok]
  rw [if_neg (fun g=>h63' g.1)]
  simp only [Sem.run_bind,Result.andThen_ok,hi]
  rw [if_neg hfits]
  simp only [Sem.run_bind,Sem.run_pure,Result.andThen_ok,hch,hi,room,hol]
  rw [hap]
  simp only [hzv,Result.andThen_ok,newRow,newObj,Sem.run_bind]
  simp
  rfl
end
end Go.AM
namespace Go.AM
section
variable {E:Env} {P:Program} {nm:Nm} {K:Kp} {base:World} {φ:Emb} {A A':St} {w:World} {ρ ρ':Operand->Value} {nx:Nx}
def wq (P:Program) (nm:Nm) (K:Kp) (base:World) (φ:Emb) (A:St) (w:World) (s:Sem Value) (v:Value) (A':St):Prop :=
 ∃ φ' w' v',Emb.ext A.next φ φ'/\A.next<=A'.next/\WR nm K base φ' A' w'/\VR nm φ' v v'/\s.run P w=.ok v' w'
def cQ (w:World) (csz sz:Nat):Pl:={ blk:=w.heap.size,off:=0,csz,esz:=sz,opn:=true }
theorem qK {vs cvs:List Value} {pad:Array Value} {e:TypeId} {sz g:Nat} {cells:T Value} {size frz:Nat} {sb:Bool} {hp:Array Obj} (hv:LR nm φ vs cvs) (hc:∀ i,i < vs.length->cells.get i=vs[i]?)
  (hsz:size=vs.length) (hsize:hp.size=w.heap.size) :
  RowR nm φ (hp.push (.cells (cvs.toArray++pad) e)) (cQ w (cvs.length+pad.size) sz) (dB cells size e sz g frz sb) (cvs.toArray++pad) (0,0):=by
 have hlen:=hv.length
 refine { blk:=?_,csz:=by simp [cQ],opn:=rfl,esz:=fun _=>rfl,fit:=?_,cell:=?_,frz:=fun _ j h1 h2=>by simp at h2,sb:=fun _ _=>.inl rfl,exact:=fun h=>by simp [dB] at h }
 ·simp [cQ,dB,<- hsize]
 ·simp [cQ,dB,hsz,hlen]
 ·intro i hi
  simp only [dB,hsz] at hi
  refine ⟨_,(hc i hi).trans (List.getElem?_eq_getElem hi),?_⟩
  obtain ⟨v',e1,e2⟩:=hv.get? (List.getElem?_eq_getElem hi)
  have:(cvs.toArray++pad).getD ((cQ w (cvs.length+pad.size) sz).off+i) undef=v':=by
   simp only [cQ,Nat.zero_add]
   rw [Array.getD_eq_getD_getElem?,Array.getElem?_append_left (by simp;omega)]
   simp [e1]
  rw [this];exact e2
theorem qL (h:WR nm K base φ A w) {e:TypeId} {sz n:Nat} {cells cvs:List Value} {pad:Array Value} {cap:Nat} (hv:LR nm φ cells cvs) (_hlen:cells.length=n * sz)
  (hcap:n<=cap) (hpad:cvs.length+pad.size=cap * sz) :
  ∃ φ',Emb.ext A.next φ φ'/\WR nm K base φ' (ay A e sz n cells).2 (w.drew.alloc (.cells (cvs.toArray++pad) e))/\VR nm φ' (ay A e sz n cells).1 (.slice (some ⟨w.heap.size,0,none⟩) n cap):=by
 have hn:=h.dom A.next (Nat.le_refl _)
 let p:=cQ w (cvs.length+pad.size) sz
 refine ⟨φ.upd A.next p,Emb.upd_ext _ _ _,?_,?_⟩
 ·refine (h.drew (w.drawn+1)).new A.next p _ _ (A.next+1) hn (Nat.le_succ _) (Nat.lt_succ_self _) rfl ?_ rfl
  exact ⟨_,_,qK (w:=w) (hv.mono (Emb.upd_le p hn)) (fun i _=>T.get_ofList _ _) rfl rfl⟩
 ·refine .slc ⟨A.next,0,none⟩ ⟨w.heap.size,0,none⟩ n n cap p (Emb.upd_same _ _ _) rfl (.inr rfl) (.inr rfl) (.inr rfl) (fun g=>by cases g) (fun _=>⟨hcap,?_⟩) (Nat.le_refl _)
  show 0+cap * sz<=cvs.length+pad.size
  omega
structure ModeOk (K:Kp) (φ:Emb) (A:St) (b:Nat) (r:Row) (p:Pl) (reach:Bool) (h1:T AObj) (rest:List Nat):Prop where
 kill:∀ c,h1.get c=A.h.get c\/h1.get c=some .dead
 near:∀ c o q,h1.get c=some o->o.live=true->φ c=some q->q.blk=p.blk->reach=true/\∃ s,o=.row s/\s.grp=r.grp/\c∈rest/\q.off+s.size<=p.off+r.size
 has:∀ c,c∈rest->∃ q,φ c=some q/\K q.blk=none
 old:∀ ms,A.g.get r.grp=some ms->∀ c d,c≠d->c∈ms->d∈ms->(∃ o,h1.get c=some o/\o.live=true)->(∃ o,h1.get d=some o/\o.live=true)->c∈rest/\d∈rest
theorem qM (h:WR nm K base φ A w) {b:Nat} {r:Row} {p:Pl} (hb:A.h.get b=some (.row r)) (hown:r.own=true) (hp:φ b=some p) (reach:Bool) :
  ModeOk K φ A b r p reach (gS A b r reach).1 (gS A b r reach).2:=by
 have hKb:K p.blk=none:=by
  obtain ⟨q,e1,_,e3⟩:=h.obj b _ hb rfl
  rw [hp] at e1;cases e1
  have:(K p.blk).isNone=true:=e3.trans hown
  simpa using this
 have hbn:b < A.next:=by
  rcases Nat.lt_or_ge b A.next with g | g
  ·exact g
  ·rw [h.dom b g] at hp;cases hp
 have near:∀ c o q,c≠b->A.h.get c=some o->o.live=true->φ c=some q->q.blk=p.blk ->
   ∃ s ms,o=.row s/\s.grp=r.grp/\A.g.get r.grp=some ms/\b∈ms/\c∈ms:=by
  intro c o q hcb hc lo hq hblk
  obtain ⟨r1,s,ms,e1,e2,e3,e4,e5,e6⟩:=h.near (Ne.symm hcb) hb hc rfl lo hown hp hq hblk.symm
  cases e1
  exact ⟨s,ms,e2,e3.symm,e4,e5,e6⟩
 have dead:∀ {o:AObj},(some AObj.dead:Option AObj)=some o->o.live=true->False:=by
  intro o e hl;cases e;simp [AObj.live] at hl
 unfold gS
 cases hg:A.g.get r.grp with
 | none =>
  cases reach with
  | true =>
   refine ⟨fun c=>.inl rfl,?_,?_,fun ms hms=>(by rw [hg] at hms;cases hms)⟩
   ·intro c o q hc lo hq hblk
    by_cases e:c=b
    ·subst e
     rw [if_pos rfl] at hc
     rw [hb] at hc;cases hc
     rw [hp] at hq;cases hq
     exact ⟨rfl,r,rfl,rfl,by simp,Nat.le_refl _⟩
    ·obtain ⟨s,ms,_,_,g,_⟩:=near c o q e hc lo hq hblk
     rw [hg] at g;cases g
   ·intro c hc;simp at hc;subst hc;exact ⟨p,hp,hKb⟩
  | false =>
   simp only [Bool.false_eq_true,if_false]
   refine ⟨fun c=>?_,?_,fun c hc=>by simp at hc,fun ms hms=>(by rw [hg] at hms;cases hms)⟩
   ·by_cases e:c=b
    ·subst e;right;exact T.get_set_same _ _ _
    ·left;exact T.get_set_other _ _ e
   ·intro c o q hc lo hq hblk
    by_cases e:c=b
    ·subst e;rw [T.get_set_same] at hc;exact (dead hc lo).elim
    ·rw [T.get_set_other _ _ e] at hc
     obtain ⟨s,ms,_,_,g,_⟩:=near c o q e hc lo hq hblk
     rw [hg] at g;cases g
 | some ms =>
  cases reach with
  | true =>
   simp only [if_true]
   cases ms with
   | nil =>
    refine ⟨fun c=>.inl rfl,?_,?_,fun ms hms=>?_⟩
    ·intro c o q hc lo hq hblk
     by_cases e:c=b
     ·subst e
      rw [hb] at hc;cases hc
      rw [hp] at hq;cases hq
      exact ⟨rfl,r,rfl,rfl,by simp,Nat.le_refl _⟩
     ·obtain ⟨s,ms,_,_,g,k,_⟩:=near c o q e hc lo hq hblk
      rw [hg] at g;cases g;cases k
    ·intro c hc;simp at hc;subst hc;exact ⟨p,hp,hKb⟩
    ·rw [hg] at hms;cases hms;intro c d _ hc;cases hc
   | cons m ms =>
    simp only []
    by_cases em:m=b
    ·subst em
     rw [if_pos (Nat.beq_refl m)]
     refine ⟨fun c=>.inl rfl,?_,?_,fun ms' hms=>?_⟩
     ·intro c o q hc lo hq hblk
      by_cases e:c=m
      ·subst e
       rw [hb] at hc;cases hc
       rw [hp] at hq;cases hq
       exact ⟨rfl,r,rfl,rfl,by simp,Nat.le_refl _⟩
      ·obtain ⟨s,ms',rfl,e2,g,k1,k2⟩:=near c o q e hc lo hq hblk
       rw [hg] at g;cases g
       refine ⟨rfl,s,rfl,e2,k2,?_⟩
       have hcm:c∈ms:=by simpa [e] using k2
       exact h.tip r.grp m ms hg c hcm s r q p hc hb hq hp hblk
     ·intro c hc;exact h.grp r.grp _ hg c hc
     ·rw [hg] at hms;cases hms
      intro c d _ hc hd _ _;exact ⟨hc,hd⟩
    ·rw [if_neg (by simpa using em)]
     simp only []
     refine ⟨fun c=>?_,?_,?_,fun ms' hms=>?_⟩
     ·rw [dm]
      split
      ·exact .inr rfl
      ·exact .inl rfl
     ·intro c o q hc lo hq hblk
      rw [dm] at hc
      split at hc
      ·exact (dead hc lo).elim
      ·rename_i hk
       by_cases e:c=b
       ·subst e
        rw [hb] at hc;cases hc
        rw [hp] at hq;cases hq
        exact ⟨rfl,r,rfl,rfl,by simp,Nat.le_refl _⟩
       ·obtain ⟨s,ms',_,_,g,_,k2⟩:=near c o q e hc lo hq hblk
        rw [hg] at g;cases g
        exact absurd ⟨k2,e⟩ hk
     ·intro c hc;simp at hc;subst hc;exact ⟨p,hp,hKb⟩
     ·rw [hg] at hms;cases hms
      intro c d hcd hc hd ⟨o,ho,lo⟩ ⟨u,hu,lu⟩
      rw [dm] at ho hu
      split at ho
      ·exact (dead ho lo).elim
      ·rename_i k1
       split at hu
       ·exact (dead hu lu).elim
       ·rename_i k2
        have e1:c=b:=Classical.byContradiction fun e=>k1 ⟨hc,e⟩
        have e2:d=b:=Classical.byContradiction fun e=>k2 ⟨hd,e⟩
        exact absurd (e1.trans e2.symm) hcd
  | false =>
   simp only [Bool.false_eq_true,if_false]
   refine ⟨fun c=>?_,?_,fun c hc=>by simp at hc,fun ms' hms=>?_⟩
   ·rw [dm]
    split
    ·exact .inr rfl
    ·exact .inl rfl
   ·intro c o q hc lo hq hblk
    rw [dm] at hc
    split at hc
    ·exact (dead hc lo).elim
    ·rename_i hk
     have hcn:c≠A.next:=by
      rintro rfl
      rw [h.dom _ (Nat.le_refl _)] at hq;cases hq
     by_cases e:c=b
     ·subst e;exact absurd ⟨by simp,hcn⟩ hk
     ·obtain ⟨s,ms',_,_,g,_,k2⟩:=near c o q e hc lo hq hblk
      rw [hg] at g;cases g
      exact absurd ⟨by simp [k2],hcn⟩ hk
   ·rw [hg] at hms;cases hms
    intro c d hcd hc hd ⟨o,ho,lo⟩ _
    rw [dm] at ho
    split at ho
    ·exact (dead ho lo).elim
    ·rename_i hk
     have hcn:c≠A.next:=by
      rintro rfl
      have:=h.has hg hc
      rw [h.dom _ (Nat.le_refl _)] at this;cases this
     exact absurd ⟨by simp [hc],hcn⟩ hk
end
end Go.AM
namespace Go.AM
section
variable {E:Env} {P:Program} {nm:Nm} {K:Kp} {base:World} {φ:Emb} {A A':St} {w:World} {ρ ρ':Operand->Value} {nx:Nx}
theorem qN {r:Row} {off n:Nat} {old new:List Value} (hr:r.cells.range off n=some old) (i:Nat) (hi:i < (old++new).length) :
  (if Nat.beq (off+n) r.size&&Nat.beq off 0 then r.cells.setL r.size new else T.ofList (old++new)).get i=(old++new)[i]? := by
 obtain ⟨g1,g2⟩:=T.range_some _ _ _ _ hr
 split
 ·rename_i hc
  simp only [Bool.and_eq_true,Nat.beq_eq] at hc
  obtain ⟨c1,rfl⟩:=hc
  rw [Nat.zero_add] at c1
  rw [T.get_setL,<- c1]
  simp only [List.length_append] at hi
  by_cases e:n<=i
  ·rw [if_pos (by omega),List.getElem?_append_right (by omega),g1]
  ·rw [if_neg (by omega),List.getElem?_append_left (by omega)]
   have:=g2 i (by omega)
   rwa [Nat.zero_add] at this
 ·exact T.get_ofList _ _
theorem wt (h:WR nm K base φ A w) {a:Addr} {r:Row} {p:Pl} {sz len n k':Nat} {old new cnew cold:List Value} (hb:A.h.get a.block=some (.row r)) (hown:r.own=true) (hopn:r.opn=true)
  (hesz:r.esz=sz) (hp:φ a.block=some p) (_hfit:a.off+len * sz<=r.size) (hr:r.cells.range a.off (len * sz)=some old) (hfrz:r.frz<=a.off+len * sz)
  (hnew:LR nm φ new cnew) (hnl:new.length=n * sz) (hone:new.all one=true) (hrd:Rd nm φ w ⟨p.blk,p.off+a.off,none⟩ (len * sz) old cold)
  (hk:len+n<=k') (hcap:p.off+a.off+k' * p.esz<=p.csz) :
  ∃ φ' w',Emb.ext A.next φ φ'/\WR nm K base φ' (gU A r a r.elem sz len n old new).2 w' /\
   VR nm φ' (gU A r a r.elem sz len n old new).1 (.slice (some ⟨p.blk,p.off+a.off,none⟩) (len+n) k') /\
   (storeCells ⟨p.blk,p.off+(a.off+len * sz),none⟩ cnew).run P w=.ok () w':=by
 have hn:=h.dom A.next (Nat.le_refl _)
 obtain ⟨q,hq,⟨cs,fz,ho⟩,hK⟩:=h.obj a.block _ hb rfl
 rw [hp] at hq;cases hq
 obtain ⟨g1,g2⟩:=T.range_some _ _ _ _ hr
 have hlenN:=hnew.length
 have hesz':p.esz=sz:=(ho.esz hopn).trans hesz
 have hmul:(len+n) * sz=len * sz+n * sz:=Nat.add_mul _ _ _
 have hbound:p.off+a.off+(len+n) * sz<=cs.size:=by
  rw [<- ho.csz]
  have:(len+n) * sz<=k' * p.esz:=by rw [hesz'];exact Nat.mul_le_mul_right _ hk
  omega
 have hlt:=h.lt _ _ hp
 have hrun:=ql P p.blk (p.off+(a.off+len * sz)) r.elem fz cnew 0 cs w ho.blk (by omega)
  (fun v hm=>by
   obtain ⟨i,hi⟩:=List.getElem?_of_mem hm
   have hi':i < new.length:=by
    rcases Nat.lt_or_ge i new.length with g | g
    ·exact g
    ·rw [List.getElem?_eq_none (by omega)] at hi;cases hi
   obtain ⟨v',e1,e2⟩:=hnew.get? (List.getElem?_eq_getElem hi')
   rw [hi] at e1;cases e1
   rw [e2.one]
   exact List.all_eq_true.1 hone _ (List.getElem_mem hi'))
  (fun j g1 g2 g3=>by
   have:=ho.frz hown j g3.1 g3.2 (by omega)
   omega)
 let p':Pl:={ blk:=p.blk,off:=p.off+a.off,csz:=p.csz,esz:=p.esz,opn:=true }
 have hm:=qM h hb hown hp (Nat.beq (a.off+len * sz) r.size)
 refine ⟨φ.upd A.next p',_,Emb.upd_ext _ _ _,?_,?_,hrun⟩
 ·refine h.addRow (p:=p') (r:=dB _ ((len+n) * sz) r.elem sz r.grp (r.frz - a.off) r.sb) hm.kill (by simp) (by rw [jC];exact hlt) (fun B _ hB=>jD w _ hB) ?_ ?_ hm.has hm.old ?_ ?_ rfl ⟨rfl,rfl,rfl⟩
  ·cases hkk:K p'.blk with
   | none=>rfl
   | some x =>
    have hK':(K p.blk).isNone=true:=hK.trans hown
    rw [show K p.blk=some x from hkk] at hK';cases hK'
  ·intro c o q hc lo hq hblk
   obtain ⟨hre,s,rfl,e2,e3,e4⟩:=hm.near c o q hc lo hq hblk
   have hreach:a.off+len * sz=r.size:=Nat.eq_of_beq_eq_true hre
   refine ⟨?_,s,rfl,e2,e3,?_⟩
   ·have hcA:A.h.get c=some (.row s):=by
     rcases hm.kill c with g | g
     ·rw [<- g];exact hc
     ·rw [g] at hc;cases hc
    obtain ⟨q',f1,⟨cs',fz',hs⟩,_⟩:=h.obj c _ hcA rfl
    rw [hq] at f1;cases f1
    have hbq:q.blk=p.blk:=hblk
    have hsame:=hs.blk
    rw [hbq,ho.blk] at hsame
    simp only [Option.some.injEq,Obj.cells.injEq] at hsame
    obtain ⟨rfl,hel,rfl⟩:=hsame
    refine ⟨spl cs (p.off+(a.off+len * sz)+0) cnew,fz,?_⟩
    refine { blk:=?_,csz:=by rw [cH];exact hs.csz,opn:=hs.opn,esz:=hs.esz,fit:=by rw [cH];exact hs.fit,cell:=?_,frz:=?_,sb:=?_,exact:=by rw [cH];exact hs.exact }
    ·rw [hbq,<- hel];exact cd w _ hlt
    ·intro i hi
     rw [kZ _ _ _ _ (by omega),if_neg (by omega)]
     exact hs.cell i hi
    ·intro o j;rw [cH];exact hs.frz o j
    ·intro o;rw [cH];exact hs.sb o
   ·show q.off+s.size<=p.off+a.off+(len+n) * sz
    omega
  ·intro c s q hc hs hq hblk
   obtain ⟨hre,s',e1,e2,e3,e4⟩:=hm.near c _ q hs rfl hq hblk
   cases e1
   have hreach:a.off+len * sz=r.size:=Nat.eq_of_beq_eq_true hre
   show q.off+s.size<=p.off+a.off+(len+n) * sz
   omega
  ·refine ⟨spl cs (p.off+(a.off+len * sz)+0) cnew,fz,?_⟩
   refine { blk:=cd w _ hlt,csz:=by rw [cH];exact ho.csz,opn:=rfl,esz:=fun _=>hesz',fit:=?_,cell:=?_,frz:=?_,sb:=?_,exact:=fun g=>by cases g }
   ·rw [cH];exact hbound
   ·intro i hi
    have hi':i < (len+n) * sz:=hi
    have hii:i < (old++new).length:=by rw [List.length_append,g1,hnl];omega
    refine ⟨_,(qN hr i hii).trans (List.getElem?_eq_getElem hii),?_⟩
    show VR nm _ _ ((spl cs (p.off+(a.off+len * sz)+0) cnew).getD (p.off+a.off+i) undef)
    rw [kZ _ _ _ _ (by omega)]
    obtain ⟨v',e1,e2⟩:=((hrd.rel.append hnew).mono (Emb.upd_le p' hn)).get? (List.getElem?_eq_getElem hii)
    by_cases e:len * sz<=i
    ·rw [if_pos (by omega)]
     rw [List.getElem?_append_right (by rw [hrd.len];exact e),hrd.len] at e1
     rw [show p.off+a.off+i - (p.off+(a.off+len * sz)+0)=i - len * sz from by omega,List.getD_eq_getElem?_getD,e1]
     exact e2
    ·rw [if_neg (by omega)]
     rw [List.getElem?_append_left (by rw [hrd.len];omega)] at e1
     have hc:=hrd.cell i v' e1
     rw [cW,nB ho.blk] at hc
     rw [Array.getD_eq_getD_getElem?,hc]
     exact e2
   ·intro _ j;rw [cH]
    intro j1 j2 j3
    have:=ho.frz hown j j1 j2 j3
    show j < p.off+a.off+(r.frz - a.off)
    omega
   ·intro _ hsb;rw [cH];exact ho.sb hown hsb
 ·refine .slc ⟨A.next,0,none⟩ ⟨p.blk,p.off+a.off,none⟩ (len+n) (len+n) k' p' (Emb.upd_same _ _ _) rfl (.inr rfl) (.inr rfl) (.inr rfl) (fun g=>by cases g) (fun _=>⟨hk,hcap⟩) (Nat.le_refl _)
theorem wu (h:WR nm K base φ A w) {a:Addr} {r:Row} {p:Pl} {sz len n cap:Nat} {old new cvs:List Value} {pad:Array Value} (hb:A.h.get a.block=some (.row r)) (hown:r.own=true)
  (hp:φ a.block=some p) (hr:r.cells.range a.off (len * sz)=some old) (hv:LR nm φ (old++new) cvs) (hnl:new.length=n * sz)
  (hcap:len+n<=cap) (hpad:cvs.length+pad.size=cap * sz) :
  ∃ φ',Emb.ext A.next φ φ'/\WR nm K base φ' (gU A r a r.elem sz len n old new).2 (w.drew.alloc (.cells (cvs.toArray++pad) r.elem)) /\
   VR nm φ' (gU A r a r.elem sz len n old new).1 (.slice (some ⟨w.heap.size,0,none⟩) (len+n) cap):=by
 have hn:=h.dom A.next (Nat.le_refl _)
 obtain ⟨g1,g2⟩:=T.range_some _ _ _ _ hr
 have hmul:(len+n) * sz=len * sz+n * sz:=Nat.add_mul _ _ _
 have hlen:=hv.length
 rw [List.length_append] at hlen
 let p':=cQ w (cvs.length+pad.size) sz
 have hm:=qM h hb hown hp (Nat.beq (a.off+len * sz) r.size)
 have far:∀ c q,φ c=some q->q.blk=p'.blk->False:=by
  intro c q hq hblk
  have:=h.lt _ _ hq
  have e:p'.blk=w.heap.size:=rfl
  omega
 have hsz:(w.drew.alloc (.cells (cvs.toArray++pad) r.elem)).heap.size=w.heap.size+1:=by show (w.heap.push _).size=_;simp
 refine ⟨φ.upd A.next p',Emb.upd_ext _ _ _,?_,?_⟩
 ·refine h.addRow (p:=p') (r:=dB _ ((len+n) * sz) r.elem sz r.grp (r.frz - a.off) r.sb) hm.kill (by omega) (by show w.heap.size < _;omega) (fun B hB _=>getElem?_push_lt hB) ?_ ?_ hm.has hm.old ?_ ?_ rfl ⟨rfl,rfl,rfl⟩
  ·cases hkk:K p'.blk with
   | none=>rfl
   | some x=>have:=h.key _ _ hkk;simp [p',cQ] at this
  ·intro c o q hc lo hq hblk;exact (far c q hq hblk).elim
  ·intro c s q hc hs hq hblk;exact (far c q hq hblk).elim
  ·exact ⟨_,_,qK (w:=w) (hp:=w.heap) (hv.mono (Emb.upd_le p' hn)) (fun i hi=>qN hr i hi) (by rw [List.length_append,g1,hnl];exact hmul) rfl⟩
 ·refine .slc ⟨A.next,0,none⟩ ⟨w.heap.size,0,none⟩ (len+n) (len+n) cap p' (Emb.upd_same _ _ _) rfl (.inr rfl) (.inr rfl) (.inr rfl) (fun g=>by cases g) (fun _=>⟨hcap,?_⟩) (Nat.le_refl _)
  show 0+cap * sz<=cvs.length+pad.size
  omega
theorem mV (ok : EnvOk E P nm) (h:WR nm K base φ A w) {ts:List TypeId} {args:List Value} {args':Array Value} {ty:TypeId} {v:Value} (ha:LR nm φ args args'.toList)
  (hf:app E A ts args=some (v,A')):wq P nm K base φ A w (Builtin.append_ ts.toArray ty args') v A':=by
 unfold app at hf
 split at hf
 ·rename_i t t1 bs len cap x
  split at hf
  ·rename_i e d1 hu hd
   split at hf
   ·rename_i i z hi hz
    split at hf
    ·rename_i n new hnew
     split at hf
     ·rename_i hc
      obtain ⟨c1,c2,c3,c4,c5,c6⟩:=hc
      obtain ⟨s',l1,e1,hs,ha1⟩:=ha.cons_inv
      obtain ⟨x',l2,rfl,hx,ha2⟩:=ha1.cons_inv
      have:=ha2.nil_inv
      subst this
      have hargs:args'=#[s',x']:=by
       apply Array.ext'
       exact e1
      subst hargs
      have hty:#[t,t1]=[t,t1].toArray:=rfl
      rw [<- hty]
      obtain ⟨cnew,hcn,hnews⟩:=wo ok h hd hx hnew
      have hsz:E.size e=some i.size:=by simp [Env.size,hi]
      have hzs:∀ w2:World,(zeroValue e).run P w2=.ok z w2:=fun w2=>ok.run_zero hz w2
      have hmul:(len+n) * i.size=len * i.size+n * i.size:=Nat.add_mul _ _ _
      have hbytes:n * i.bytes<=140737488355328:=Nat.le_trans (Nat.mul_le_mul_right _ (Nat.le_add_left n len)) c3
      have padsz:∀ m,(Builtin.zeroCells z.cells m).size=m * i.size:=by intro m;simp [Builtin.zeroCells,c5]
      have padok:∀ cold:List Value,cold.length=len * i.size->∀ c,(cold++cnew).length+(Builtin.zeroCells z.cells (grownCap w (len+n) c e - (len+n))).size=grownCap w (len+n) c e * i.size:=by
       intro cold hcl c
       rw [padsz,List.length_append,hcl,<- hcn.length,c2,<- hmul,<- Nat.add_mul]
       congr 1
       have:=grownCap_ge w (len+n) c e
       omega
      split at hf
      ·rename_i hroom
       unfold b8 at hf
       split at hf
       ·cases hf
        have hcn0:cnew=[]:=List.eq_nil_of_length_eq_zero (by rw [<- hcn.length,c2];simp)
        subst hcn0
        cases bs with
        | none =>
         rw [hs.nils_inv]
         refine ⟨φ,w,.slice none len cap,Emb.ext_refl _ _,Nat.le_refl _,h,.nils _ _,?_⟩
         rw [jv (ok.run_und hu) (ok.run_inf hi) (ok.run_size hsz) hnews hroom hbytes (.inl rfl)]
         rfl
        | some b =>
         have hs0:=hs
         obtain ⟨a',k',p,rfl,hp,_,_,_,_,q4,q5,_⟩:=hs.slc_inv
         have hk:cap<=k':=by
          cases ho:p.opn with
          | true=>exact (q5 ho).1
          | false=>rw [q4 ho];exact Nat.le_refl _
         refine ⟨φ,w,_,Emb.ext_refl _ _,Nat.le_refl _,h,hs0,?_⟩
         rw [jv (ok.run_und hu) (ok.run_inf hi) (ok.run_size hsz) hnews (Nat.le_trans hroom hk) hbytes (.inl rfl)]
         rfl
       ·split at hf
        ·cases hf
        ·rename_i b
         split at hf
         ·rename_i A1 hst
          cases hf
          obtain ⟨a',k',p,rfl,hp,hsp,q1,q2,q3,q4,q5,q6⟩:=hs.slc_inv
          have hk:cap<=k':=by
           cases ho:p.opn with
           | true=>exact (q5 ho).1
           | false=>rw [q4 ho];exact Nat.le_refl _
          have hoff:a'.off=p.off+b.off:=q3.resolve_left (by omega)
          obtain ⟨w',h1,h2,h3⟩:=h.store (P:=P) (a:=aJ b (len * i.size)) hst hcn (p:=p) hp
          refine ⟨φ,w',_,Emb.ext_refl _ _,by rw [h3];exact Nat.le_refl _,h2,.slc b a' _ _ _ p hp hsp q1 q2 q3 q4 q5 hroom,?_⟩
          rw [jv (ok.run_und hu) (ok.run_inf hi) (ok.run_size hsz) hnews (Nat.le_trans hroom hk) hbytes (.inr c1)]
          have haddr:a'.add (len * i.size)=⟨p.blk,p.off+(aJ b (len * i.size)).off,none⟩:=by
           replace q1:=q1.resolve_left (by omega)
           replace q2:=q2.resolve_left (by omega)
           obtain ⟨ab,ao,as⟩:=a'
           simp only [] at q1 q2 hoff
           subst q1;subst q2;subst hoff
           exact add_eq _
          simp only [haddr,h1,Result.andThen_ok]
         ·cases hf
      ·rename_i hroom
       have hn0:0 < len+n:=by omega
       unfold bI at hf
       split at hf
       ·split at hf
        ·cases hf
         rw [hs.nils_inv]
         have hold:iT P w (Builtin.firstCells i.size 0 (.slice none 0 cap)) []:=fun w2 _=>by simp [Builtin.firstCells]
         have hrun:=mU (ok.run_und hu) (ok.run_inf hi) (ok.run_size hsz) hzs hnews hold hroom c4 c3 c1 (ty:=ty)
         obtain ⟨φ',e1,e2,e3⟩:=qL (e:=e) (cells:=new) (cvs:=cnew) h hcn c2 (n:=n) (cap:=grownCap w (0+n) cap e) (by have:=grownCap_ge w (0+n) cap e;omega)
          (by have:=padok [] (by simp) cap;simpa using this)
         refine ⟨φ',_,_,e1,Nat.le_succ _,e2,e3,?_⟩
         rw [hrun]
         simp
        ·cases hf
       ·rename_i b
        split at hf
        ·rename_i r hr
         split at hf
         ·rename_i hfit
          split at hf
          ·cases hf
          ·rename_i old hrg
           have hb:=dk hr
           obtain ⟨a',k',p,rfl,hp,hsp,q1,q2,q3,q4,q5,q6⟩:=hs.slc_inv
           obtain ⟨q,hq,⟨cs,fz,ho⟩,hK⟩:=h.obj b.block _ hb rfl
           rw [hp] at hq;cases hq
           have hload:A.loadN b (len * i.size)=some old:=by
            unfold St.loadN
            rw [hsp,hr]
            simp only []
            rw [if_pos hfit];exact hrg
           obtain ⟨cold,hrd⟩:=h.load hload hp
           have hold:iT P w (Builtin.firstCells i.size len (.slice (some a') len k')) cold:=by
            intro w2 hw
            by_cases h0:len * i.size=0
            ·have:cold=[]:=List.eq_nil_of_length_eq_zero (by rw [hrd.len,h0])
             subst this
             simp [Builtin.firstCells,h0,loadCells,loadCellsFrom]
            ·have hk0:¬ k'=0:=by
              intro e0
              have hl:0 < len:=by
               rcases Nat.eq_zero_or_pos len with g | g
               ·subst g;simp at h0
               ·exact g
              cases hop:p.opn with
              | true=>have:=(q5 hop).1;omega
              | false=>have:=q4 hop;omega
             have hoff:=q3.resolve_left hk0
             have haddr:a'=⟨p.blk,p.off+b.off,none⟩:=by
              replace q1:=q1.resolve_left hk0
              replace q2:=q2.resolve_left hk0
              obtain ⟨ab,ao,as⟩:=a'
              simp only [] at q1 q2 hoff
              subst q1;subst q2;subst hoff
              rfl
             rw [haddr]
             have:Rd nm φ w2 ⟨p.blk,p.off+b.off,none⟩ (len * i.size) old cold:=⟨hrd.len,hrd.rel,fun j v hj=>by rw [qI hw];exact hrd.cell j v hj⟩
             exact this.run
           split at hf
           ·rename_i hop
            split at hf
            ·rename_i hc2
             obtain ⟨d1',d2,d3,d4⟩:=hc2
             cases hf
             obtain ⟨q51,q52⟩:=q5 (ho.opn.trans hop)
             by_cases hk:len+n<=k'
             ·have hoff:=q3.resolve_left (by omega)
              have haddr:a'=⟨p.blk,p.off+b.off,none⟩:=by
               replace q1:=q1.resolve_left (by omega)
               replace q2:=q2.resolve_left (by omega)
               obtain ⟨ab,ao,as⟩:=a'
               simp only [] at q1 q2 hoff
               subst q1;subst q2;subst hoff
               rfl
              subst haddr
              subst d1'
              obtain ⟨φ',w',e1,e2,e3,e4⟩:=wt (P:=P) h hb d3 hop d2 hp hfit hrg d4 hcn c2 c6 hrd hk q52
              refine ⟨φ',w',_,e1,Nat.le_succ _,e2,e3,?_⟩
              rw [jv (ok.run_und hu) (ok.run_inf hi) (ok.run_size hsz) hnews hk hbytes (.inr c1)]
              simp only [cW,Nat.add_assoc,e4,Result.andThen_ok]
             ·subst d1'
              have hrun:=mU (ok.run_und hu) (ok.run_inf hi) (ok.run_size hsz) hzs hnews hold hk c4 c3 c1 (ty:=ty)
              obtain ⟨φ',e1,e2,e3⟩:=wu h hb d3 hp hrg (hrd.rel.append hcn) c2 (cap:=grownCap w (len+n) k' r.elem) (grownCap_ge _ _ _ _) (padok cold hrd.len k')
              exact ⟨φ',_,_,e1,Nat.le_succ _,e2,e3,hrun⟩
            ·cases hf
           ·rename_i hop
            cases hf
            have hkc:k'=cap:=q4 (by rw [ho.opn];exact hop)
            subst hkc
            have hrun:=mU (ok.run_und hu) (ok.run_inf hi) (ok.run_size hsz) hzs hnews hold hroom c4 c3 c1 (ty:=ty)
            obtain ⟨φ',e1,e2,e3⟩:=qL (e:=e) (n:=len+n) h (hrd.rel.append hcn) (by rw [List.length_append,c2,(T.range_some _ _ _ _ hrg).1,hmul]) (cap:=grownCap w (len+n) k' e) (grownCap_ge _ _ _ _) (padok cold hrd.len k')
            exact ⟨φ',_,_,e1,Nat.le_succ _,e2,e3,hrun⟩
         ·cases hf
        ·cases hf
     ·cases hf
    ·cases hf
   ·cases hf
  ·cases hf
 ·cases hf
end
end Go.AM
namespace Go.AM
section
variable {E:Env} {P:Program} {nm:Nm} {K:Kp} {base:World} {φ:Emb} {A A':St} {w:World} {ρ ρ':Operand->Value} {nx:Nx}
theorem cR {a:Value} {args':Array Value} (h:LR nm φ [a] args'.toList):∃ a',args'=#[a']/\VR nm φ a a':=by
 obtain ⟨a',l,e,h1,h2⟩:=h.cons_inv
 have:=h2.nil_inv
 subst this
 exact ⟨a',Array.ext' e,h1⟩
theorem fX {a b:Value} {args':Array Value} (h:LR nm φ [a,b] args'.toList):∃ a' b',args'=#[a',b']/\VR nm φ a a'/\VR nm φ b b':=by
 obtain ⟨a',l,e,h1,h2⟩:=h.cons_inv
 obtain ⟨b',l2,rfl,h3,h4⟩:=h2.cons_inv
 have:=h4.nil_inv
 subst this
 exact ⟨a',b',Array.ext' e,h1,h3⟩
theorem qO:∀ (vs:List Value) (l:List UInt8),vs.foldr (fun v acc=>match v,acc with | .int .u8 b,some l=>some (UInt8.ofNat b.toNat::l) | _,_=>none) (some [])=some l ->
  ∃ ns:List Int,vs=ns.map (Value.int .u8)/\l=ns.map fun n=>UInt8.ofNat n.toNat:=by
 intro vs
 induction vs with
 | nil=>intro l h;simp at h;subst h;exact ⟨[],rfl,rfl⟩
 | cons v vs ih =>
  intro l h
  simp only [List.foldr_cons] at h
  split at h
  ·rename_i b l' hl
   cases h
   obtain ⟨ns,e1,e2⟩:=ih _ hl
   exact ⟨b::ns,by simp [e1],by simp [e2]⟩
  ·cases h
theorem mW:∀ (ns:List Int) (k:IntKind) (cvs:List Value),LR nm φ (ns.map (Value.int k)) cvs->cvs=ns.map (Value.int k)
 | [],k,cvs,h=>h.nil_inv
 | n::ns,k,cvs,h=>by
  obtain ⟨v',m,rfl,h1,h2⟩:=LR.cons_inv (v:=.int k n) (l:=ns.map (Value.int k)) h
  rw [h1.int_inv,mW ns k m h2];rfl
theorem jw:∀ (ns:List Int) (s:ByteArray),ns.foldl (fun r n=>r.push (UInt8.ofNat n.toNat)) s=⟨s.data++(ns.map fun n=>UInt8.ofNat n.toNat).toArray⟩
 | [],s=>by simp
 | n::ns,s=>by
  simp only [List.foldl_cons,List.map_cons]
  rw [jw ns]
  have:(s.push (UInt8.ofNat n.toNat)).data=s.data.push (UInt8.ofNat n.toNat):=rfl
  rw [this]
  congr 1
  apply Array.ext'
  simp
theorem mk_data (s:ByteArray):(⟨s.data.toList.toArray⟩:ByteArray)=s:=by cases s;simp
theorem wv {w:World}:∀ (ns:List Int) (a:Addr) (acc:ByteArray),(∀ j v,(ns.map (Value.int .u8))[j]? = some v->w.cell? (a.add j)=some v) ->
  (Extern.Bytes.loadBytes a ns.length acc).run P w=.ok (ns.foldl (fun r n=>r.push (UInt8.ofNat n.toNat)) acc) w:=by
 intro ns
 induction ns with
 | nil=>intro a acc _;rfl
 | cons n ns ih =>
  intro a acc h
  have h0:=h 0 (.int .u8 n) (by simp)
  have hz:a.add 0=a:=rfl
  rw [hz] at h0
  simp only [List.length_cons,Extern.Bytes.loadBytes,Sem.run_bind,run_load,h0,Result.andThen_ok,List.foldl_cons]
  exact ih (a.add 1) _ fun j v hj=>by
   have:=h (j+1) v (by simpa using hj)
   have e:(a.add 1).add j=a.add (j+1):=by
    unfold Addr.add
    by_cases g:j=0
    ·subst g;simp
    ·simp [g,Nat.add_assoc,Nat.add_comm 1 j]
   rw [e];exact this
theorem wz {w:World}:∀ (ns:List Int) (a:Addr) (acc:ByteArray),(∀ j v,(ns.map (Value.int .u8))[j]? = some v->w.cell? (a.add j)=some v) ->
  (Go.loadBytes a acc ns.length).run P w=.ok (ns.foldl (fun r n=>r.push (UInt8.ofNat n.toNat)) acc) w:=by
 intro ns
 induction ns with
 | nil=>intro a acc _;rfl
 | cons n ns ih =>
  intro a acc h
  have h0:=h 0 (.int .u8 n) (by simp)
  have hz:a.add 0=a:=rfl
  rw [hz] at h0
  simp only [List.length_cons,Go.loadBytes,Sem.run_bind,run_load,h0,Result.andThen_ok,List.foldl_cons]
  exact ih (a.add 1) _ fun j v hj=>by
   have:=h (j+1) v (by simpa using hj)
   have e:(a.add 1).add j=a.add (j+1):=by
    unfold Addr.add
    by_cases g:j=0
    ·subst g;simp
    ·simp [g,Nat.add_assoc,Nat.add_comm 1 j]
   rw [e];exact this
theorem mX (h:WR nm K base φ A w) {x x':Value} {l:List UInt8} (hf:dO A x=some l) (hx:VR nm φ x x') :
  (∃ s:ByteArray,x=.string s/\x'=.string s/\l=s.data.toList)\/(∃ m c,x=.slice none m c/\x'=.slice none m c/\l=[]) \/
  (∃ (a a':Addr) (n c c':Nat) (ns:List Int),x=.slice (some a) n c/\x'=.slice (some a') n c'/\l=ns.map (fun n:Int=>UInt8.ofNat n.toNat)/\ns.length=n /\
   (∀ j v,(ns.map (Value.int .u8))[j]? = some v->w.cell? (a'.add j)=some v)):=by
 unfold dO at hf
 split at hf
 ·rename_i s
  cases hf
  exact .inl ⟨s,rfl,hx.str_inv,rfl⟩
 ·rename_i m c
  cases hf
  exact .inr (.inl ⟨m,c,rfl,hx.nils_inv,rfl⟩)
 ·rename_i a n c
  split at hf
  ·rename_i vs hv
   obtain ⟨ns,e1,e2⟩:=qO vs l hf
   refine .inr (.inr ?_)
   rcases Nat.eq_zero_or_pos n with h0 | h0
   ·subst h0
    obtain ⟨a',k',p,rfl,_⟩:=hx.slc_inv
    have hl:vs=[]:=by
     unfold St.loadN at hv
     split at hv
     ·cases hv
     split at hv
     ·split at hv
      ·exact List.eq_nil_of_length_eq_zero (T.range_some _ _ _ _ hv).1
      ·cases hv
     ·cases hv
    have hns:ns=[]:=by
     rw [hl] at e1
     cases ns with
     | nil=>rfl
     | cons n ns=>simp at e1
    subst hns
    exact ⟨a,a',0,c,k',[],rfl,rfl,e2,rfl,fun j v hj=>by simp at hj⟩
   ·obtain ⟨k',p,rfl,hp,hsp,_⟩:=mT hx h0
    obtain ⟨cvs,hr⟩:=h.load hv hp
    subst e1
    have:=mW ns .u8 cvs hr.rel
    subst this
    exact ⟨a,_,n,c,k',ns,rfl,rfl,e2,by simpa using hr.len,hr.cell⟩
  ·cases hf
 ·cases hf
theorem xA (h:WR nm K base φ A w) {x x':Value} {l:List UInt8} (hf:dO A x=some l) (hx:VR nm φ x x'):(Extern.Bytes.bytesOf x').run P w=.ok ⟨l.toArray⟩ w:=by
 rcases mX h hf hx with ⟨s,_,rfl,rfl⟩ | ⟨m,c,_,rfl,rfl⟩ | ⟨a,a',n,c,c',ns,_,rfl,rfl,hl,hc⟩
 ·rw [mk_data];rfl
 ·rfl
 ·subst hl
  simp only [Extern.Bytes.bytesOf]
  rw [wv ns a' .empty hc,jw]
  simp
theorem qP (h:WR nm K base φ A w) {x x':Value} {l:List UInt8} (hf:dO A x=some l) (hx:VR nm φ x x') (hns:∀ s,x≠.string s):(Conv.bytesToString x').run P w=.ok (mkStr l) w:=by
 rcases mX h hf hx with ⟨s,rfl,_,_⟩ | ⟨m,c,_,rfl,rfl⟩ | ⟨a,a',n,c,c',ns,_,rfl,rfl,hl,hc⟩
 ·exact absurd rfl (hns s)
 ·rfl
 ·subst hl
  have hld:(loadCells a' ns.length).run P w=.ok (ns.map (Value.int .u8)).toArray w:=by
   have:=run_loadCells_list (P:=P) w a' (ns.map (Value.int .u8)) hc
   simpa using this
  rw [run_bytesToString w a' ns.length c' ns hld,jw]
  simp [mkStr]
theorem xB {x':Value} {c:Int} {s:ByteArray} (h:(Extern.Bytes.bytesOf x').run P w=.ok s w) :
  (Extern.BytealgIndexByte.indexByte #[x',.int .u8 c]).run P w=(Extern.BytealgIndexByte.indexByte #[.string s,.int .u8 c]).run P w:=by
 change Sem.run P (Extern.Bytes.bytesOf x' >>= fun b=>Extern.Bytes.asByte (.int .u8 c) >>= fun c=>match (List.range b.size).find? fun i=>b[i]! == c with
  | some i=>pure (goInt i)
  | none=>pure (goInt (-1))) w=Sem.run P (Extern.Bytes.bytesOf (.string s) >>= fun b=>Extern.Bytes.asByte (.int .u8 c) >>= fun c=>match (List.range b.size).find? fun i=>b[i]! == c with
  | some i=>pure (goInt i)
  | none=>pure (goInt (-1))) w
 have h2:(Extern.Bytes.bytesOf (.string s)).run P w=.ok s w:=rfl
 simp only [Sem.run_bind,h,h2,Result.andThen_ok]
theorem xC (l:List UInt8) (c:UInt8):(match l.findIdx? (·==c) with | some i=>(i:Int) | none=>-1)=Lib.indexByte l c:=by
 induction l with
 | nil=>rfl
 | cons b l ih =>
  rw [List.findIdx?_cons]
  unfold Lib.indexByte
  by_cases e:b==c
  ·simp [e]
  ·simp only [e,Bool.false_eq_true,if_false,<- ih]
   cases hq:l.findIdx? (·==c) with
   | none=>simp
   | some i =>
    have:¬ ((i:Int)==-1)=true:=by simp
    simp [this]
theorem xD (h:WR nm K base φ A w) {name:String} {args:List Value} {args':Array Value} {v:Value} (ha:LR nm φ args args'.toList)
  (hf:kE A name args=some (v,A')):(name = "internal/bytealg.IndexByteString" \/ name = "internal/bytealg.IndexByte" \/ name = "internal/abi.NoEscape" \/ name = "internal/bytealg.abigen_runtime_cmpstring" \/ name = "internal/bytealg.CountString") /\
   A'=A/\∃ v',VR nm φ v v'/\(rowOf name args').run P w=.ok v' w:=by
 unfold kE at hf
 split at hf
 ·rename_i hn
  split at hf
  ·rename_i b c
   split at hf
   ·rename_i l hl
    cases hf
    obtain ⟨b',c',rfl,hb,hc⟩:=fX ha
    have:=hc.int_inv
    subst this
    have hby:=xA (P:=P) h hl hb
    refine ⟨hn.elim .inl (fun g=>.inr (.inl g)),rfl,_,.of_plainV rfl,?_⟩
    have hrow:rowOf name=Extern.BytealgIndexByte.indexByte:=by unfold rowOf;rw [if_pos hn]
    rw [hrow]
    have hs:=Lib.run_indexByteString (P:=P) ⟨l.toArray⟩ c w
    rw [xB hby,hs]
    exact congrArg (fun z=>Result.ok (Value.int .i64 z) w) (xC l c.toNat.toUInt8).symm
   ·cases hf
  ·cases hf
 ·rename_i hn
  split at hf
  ·rename_i hn2
   split at hf
   ·cases hf
    obtain ⟨b',rfl,hb⟩:=cR ha
    refine ⟨.inr (.inr (.inl hn2)),rfl,_,hb,?_⟩
    have hrow:rowOf name=Extern.AbiNoEscape.same:=by unfold rowOf;rw [if_neg hn,if_pos hn2]
    rw [hrow];rfl
   ·cases hf
  ·rename_i hn2
   split at hf
   ·rename_i hn3
    split at hf
    ·rename_i a b
     cases hf
     obtain ⟨a',b',rfl,ha',hb'⟩:=fX ha
     have e1:=ha'.str_inv
     have e2:=hb'.str_inv
     subst e1;subst e2
     refine ⟨.inr (.inr (.inr (.inl hn3))),rfl,_,.of_plainV rfl,?_⟩
     have hrow:rowOf name=Extern.BytealgCompare.compare:=by unfold rowOf;rw [if_neg hn,if_neg hn2,if_pos hn3]
     rw [hrow];rfl
    ·cases hf
   ·rename_i hn3
    split at hf
    ·rename_i hn4
     split at hf
     ·rename_i a c
      cases hf
      obtain ⟨a',b',rfl,ha',hb'⟩:=fX ha
      have e1:=ha'.str_inv
      have e2:=hb'.int_inv
      subst e1;subst e2
      refine ⟨.inr (.inr (.inr (.inr hn4))),rfl,_,.of_plainV rfl,?_⟩
      have hrow:rowOf name=Extern.BytealgCount.count:=by unfold rowOf;rw [if_neg hn,if_neg hn2,if_neg hn3]
      rw [hrow,Lib.run_countString]
      simp only [goInt,Lib.countByte,List.count,List.countP_eq_length_filter]
     ·cases hf
    ·cases hf
end
end Go.AM
namespace Go.AM
section
variable {E:Env} {P:Program} {nm:Nm} {K:Kp} {base:World} {φ:Emb} {A A':St} {w:World} {ρ ρ':Operand->Value} {nx:Nx}
theorem c9 {ts:List TypeId} {d:TypeDesc} (h:bJ E ts=some d):∃ t l,ts=t::l/\E.und t=some d:=by
 unfold bJ at h
 split at h
 ·exact ⟨_,_,rfl,h⟩
 ·cases h
theorem VR.mapn_inv {c:Value} (h:VR nm φ (.map none) c):c=.map none:=by cases h;rfl
theorem xE (ok:EnvOk E P nm) (h:WR nm K base φ A w) {ts:List TypeId} {args:List Value} {args':Array Value} {ty:TypeId} (ha:LR nm φ args args'.toList)
  (hf:dC E A ts args=some (nx,A')):Goal P nm K base φ A w (Builtin.len_ ts.toArray ty args' >>= fun x=>pure (Next.value x)) nx A':=by
 unfold dC at hf
 split at hf
 ·rename_i hu
  obtain ⟨t,l,rfl,hu⟩:=c9 hu
  cases hf
  obtain ⟨x',rfl,hx⟩:=cR ha
  refine aN h (.of_plainV rfl) ?_
  cases hx <;> simp [Builtin.len_,ok.run_und hu w]
 ·rename_i hu
  obtain ⟨t,l,rfl,hu⟩:=c9 hu
  cases hf
  obtain ⟨x',rfl,hx⟩:=cR ha
  refine aN h (.of_plainV rfl) ?_
  rw [hx.str_inv];simp [Builtin.len_,ok.run_und hu w]
 ·rename_i hu
  obtain ⟨t,l,rfl,hu⟩:=c9 hu
  cases hf
  obtain ⟨x',rfl,hx⟩:=cR ha
  refine aN h (.of_plainV rfl) ?_
  rw [hx.mapn_inv];simp [Builtin.len_,ok.run_und hu w]
 ·rename_i r hu
  obtain ⟨t,l,rfl,hu⟩:=c9 hu
  split at hf
  ·rename_i es cl hr
   cases hf
   obtain ⟨x',rfl,hx⟩:=cR ha
   obtain ⟨p,hp,rfl⟩:=hx.map_inv
   obtain ⟨q,hq,⟨ces,ho,her⟩,_⟩:=h.obj r _ hr rfl
   rw [hp] at hq;cases hq
   refine aN h (.of_plainV rfl) ?_
   have hsz:es.length=ces.size:=her.1
   simp only [Builtin.len_,List.getElem?_toArray,List.getElem?_cons_zero,Sem.run_bind,ok.run_und hu w,Result.andThen_ok,bg ho (fun _ _ _ e=>by cases e),Sem.run_pure,hsz]
  ·cases hf
 ·rename_i hu
  obtain ⟨t,l,rfl,hu⟩:=c9 hu
  cases hf
  obtain ⟨x',rfl,hx⟩:=cR ha
  refine aN h (.of_plainV rfl) ?_
  simp [Builtin.len_,ok.run_und hu w]
 ·rename_i hu
  obtain ⟨t,l,rfl,hu⟩:=c9 hu
  split at hf
  ·rename_i hu2
   cases hf
   obtain ⟨x',rfl,hx⟩:=cR ha
   refine aN h (.of_plainV rfl) ?_
   simp [Builtin.len_,ok.run_und hu w,ok.run_und hu2 w]
  ·cases hf
 ·cases hf
theorem xF (ok:EnvOk E P nm) (h:WR nm K base φ A w) {ts:List TypeId} {args:List Value} {args':Array Value} {ty:TypeId} (ha:LR nm φ args args'.toList)
  (hf:gV E A ts args=some (nx,A')):Goal P nm K base φ A w (Builtin.cap_ ts.toArray ty args' >>= fun x=>pure (Next.value x)) nx A':=by
 unfold gV at hf
 split at hf
 ·rename_i hu
  obtain ⟨t,l,rfl,hu⟩:=c9 hu
  cases hf
  obtain ⟨x',rfl,hx⟩:=cR ha
  refine aN h (.of_plainV rfl) ?_
  rw [hx.nils_inv];simp [Builtin.cap_,ok.run_und hu w]
 ·rename_i a _ n hu
  obtain ⟨t,l,rfl,hu⟩:=c9 hu
  split at hf
  ·rename_i r hr
   split at hf
   ·cases hf
   ·rename_i hop
    cases hf
    obtain ⟨x',rfl,hx⟩:=cR ha
    obtain ⟨a',k',p,rfl,hp,_,_,_,_,q4,_⟩:=hx.slc_inv
    obtain ⟨q,hq,⟨cs,fz,ho⟩,_⟩:=h.obj a.block _ (dk hr) rfl
    rw [hp] at hq;cases hq
    have:=q4 (by rw [ho.opn];simpa using hop)
    subst this
    refine aN h (.of_plainV rfl) ?_
    simp [Builtin.cap_,ok.run_und hu w]
  ·cases hf
 ·cases hf
theorem xG (ok:EnvOk E P nm) (h:WR nm K base φ A w) {ts:List TypeId} {args:List Value} {args':Array Value} {ty:TypeId} (ha:LR nm φ args args'.toList)
  (hf:iY E A ts args=some (nx,A')):Goal P nm K base φ A w (Builtin.append_ ts.toArray ty args' >>= fun x=>pure (Next.value x)) nx A':=by
 unfold iY at hf
 split at hf
 ·rename_i v A1 hv
  cases hf
  obtain ⟨φ',w',v',h1,h2,h3,h4,h5⟩:=mV ok h ha hv (ty:=ty)
  exact cf h1 h2 h3 h4 h5
 ·cases hf
theorem mY {x x':Value} {n:Nat} (hl:dN x=some n) (hx:VR nm φ x x') (w2:World):(Builtin.lenOf x').run P w2=.ok n w2:=by
 unfold dN at hl
 split at hl
 ·rename_i b l c
  cases hl
  cases b with
  | none=>rw [hx.nils_inv];rfl
  | some b=>obtain ⟨a',k',p,rfl,_⟩:=hx.slc_inv;rfl
 ·cases hl;rw [hx.str_inv];rfl
 ·cases hl
theorem xH (ok:EnvOk E P nm) (h:WR nm K base φ A w) {ts:List TypeId} {args:List Value} {args':Array Value} {ty:TypeId} (ha:LR nm φ args args'.toList)
  (hf:kB E A ts args=some (nx,A')):Goal P nm K base φ A w (Builtin.copy_ ts.toArray ty args' >>= fun x=>pure (Next.value x)) nx A':=by
 unfold kB at hf
 split at hf
 ·rename_i e bs dl dc src hu
  obtain ⟨t,l,rfl,hu⟩:=c9 hu
  split at hf
  ·rename_i sz sl hs hl
   split at hf
   ·rename_i cs hc
    obtain ⟨d',s',rfl,hd,hsr⟩:=fX ha
    obtain ⟨cvs,h1,h2⟩:=qJ (P:=P) h hsr hc (fun a l c e=>by subst e;simp [dN] at hl;rw [hl];exact Nat.min_le_left _ _)
    have h2w:=h2 w rfl
    split at hf
    ·cases hf
     refine aN h (.of_plainV rfl) ?_
     rw [hd.nils_inv]
     simp [Builtin.copy_,ok.run_und hu w,mY hl hsr,ok.run_size hs w,h2w]
    ·rename_i a
     obtain ⟨a',k',p,rfl,hp,hsp,q1,q2,q3,q4,q5,q6⟩:=hd.slc_inv
     split at hf
     ·rename_i h0
      cases hf
      have:cvs=[]:=List.eq_nil_of_length_eq_zero (by rw [<- h1.length];exact h0)
      subst this
      refine aN h (.of_plainV rfl) ?_
      simp [Builtin.copy_,ok.run_und hu w,mY hl hsr,ok.run_size hs w,h2w,storeCells]
     ·rename_i h0
      split at hf
      ·rename_i A1 hst
       cases hf
       obtain ⟨w',r1,r2,r3⟩:=h.store (P:=P) hst h1 hp
       by_cases hdl:dl=0
       ·exfalso
        apply h0
        subst hdl
        have hmin:Nat.min sl 0=0:=Nat.min_zero _
        rw [hmin] at hc
        unfold cS at hc
        split at hc
        ·unfold St.loadN at hc
         split at hc
         ·cases hc
         split at hc
         ·split at hc
          ·rw [(T.range_some _ _ _ _ hc).1];simp
          ·cases hc
         ·cases hc
        ·split at hc
         ·cases hc;rfl
         ·cases hc
        ·cases hc;simp
        ·cases hc
       ·have hk:¬ k'=0:=by
         intro e0
         cases hop:p.opn with
         | true=>have:=(q5 hop).1;omega
         | false=>have:=q4 hop;omega
        have haddr:a'=⟨p.blk,p.off+a.off,none⟩:=by
         have hoff:=q3.resolve_left hk
         replace q1:=q1.resolve_left hk
         replace q2:=q2.resolve_left hk
         obtain ⟨ab,ao,as⟩:=a'
         simp only [] at q1 q2 hoff
         subst q1;subst q2;subst hoff
         rfl
        subst haddr
        refine cf (Emb.ext_refl _ _) (by rw [r3];exact Nat.le_refl _) r2 (.of_plainV rfl) ?_
        simp [Builtin.copy_,ok.run_und hu w,mY hl hsr,ok.run_size hs w,h2w,r1]
      ·cases hf
   ·cases hf
  ·cases hf
 ·cases hf
theorem qQ (ok:EnvOk E P nm) (h:WR nm K base φ A w) {b:Builtin} {ts:List TypeId} {args:List Value} {args':Array Value} {ty:TypeId} {cs:Array Bool} (ha:LR nm φ args args'.toList)
  (hb:b=.min\/b=.max) (hf:iZ E A b ts ty args=some (nx,A')):Goal P nm K base φ A w (builtin b ts.toArray ty cs args') nx A':=by
 unfold iZ at hf
 split at hf
 ·rename_i hp
  have:args'=args.toArray:=by
   apply Array.ext'
   apply List.ext_getElem?
   intro i
   cases hx:args[i]? with
   | none =>
    have:args.length<=i:=by
     rcases Nat.lt_or_ge i args.length with g | g
     ·rw [List.getElem?_eq_getElem g] at hx;cases hx
     ·exact g
    rw [List.getElem?_eq_none (by rw [<- ha.1];exact this)]
   | some x =>
    obtain ⟨y,hy,hr⟩:=ha.get? hx
    rw [hy]
    rw [hr.plainV_eq (List.all_eq_true.1 hp x (List.mem_of_getElem? hx))]
  subst this
  split at hf
  ·rename_i v hr
   split at hf
   ·rename_i hv
    cases hf
    rw [ok.prog] at hr
    refine ⟨φ,w,Emb.ext_refl _ _,Nat.le_refl _,h,v,.of_plainV hv,?_⟩
    have:=qq _ _ hr w
    rcases hb with rfl | rfl <;> exact this
   ·cases hf
  ·cases hf
 ·cases hf
theorem xI (h:WR nm K base φ A w) {args:List Value} {args':Array Value} (ha:LR nm φ args args'.toList)
  (hf:mg A args=some (nx,A')):Goal P nm K base φ A w (Instr.panic (args'.getD 0 .nilIface) >>= fun x=>pure (Next.value x)) nx A':=by
 unfold mg at hf
 split at hf
 ·rename_i t v
  cases hf
  obtain ⟨x',rfl,hx⟩:=cR ha
  cases hx with
  | iface t v v' hv=>exact ez h (.iface t v v' hv) rfl
 ·cases hf
theorem xJ (h:WR nm K base φ A w) {ts:Array TypeId} {args:List Value} {args':Array Value} {ty:TypeId} (ha:LR nm φ args args'.toList)
  (hf:kD A args=some (nx,A')):Goal P nm K base φ A w (Builtin.unsafeSliceData_ ts ty args' >>= fun x=>pure (Next.value x)) nx A':=by
 unfold kD at hf
 split at hf
 ·cases hf
  obtain ⟨x',rfl,hx⟩:=cR ha
  rw [hx.nils_inv]
  exact aN h .nilp rfl
 ·rename_i a l c
  split at hf
  ·cases hf
  ·rename_i hc
   cases hf
   obtain ⟨x',rfl,hx⟩:=cR ha
   obtain ⟨a',k',p,rfl,hp,hsp,q1,q2,q3,q4,q5,q6⟩:=hx.slc_inv
   have hk:¬ k'=0:=by
    intro e0
    cases hop:p.opn with
    | true=>have:=(q5 hop).1;omega
    | false=>have:=q4 hop;omega
   have haddr:a'=⟨p.blk,p.off+a.off,none⟩:=by
    have hoff:=q3.resolve_left hk
    replace q1:=q1.resolve_left hk
    replace q2:=q2.resolve_left hk
    obtain ⟨ab,ao,as⟩:=a'
    simp only [] at q1 q2 hoff
    subst q1;subst q2;subst hoff
    rfl
   subst haddr
   refine aN h (.ptr a p hp hsp) ?_
   show ((if k'≠0 then pure (Value.pointer (some ⟨p.blk,p.off+a.off,none⟩)) else _:Sem Value)).run P w=_
   rw [if_pos hk];rfl
 ·cases hf
end
end Go.AM
namespace Go.AM
section
variable {E:Env} {P:Program} {nm:Nm} {K:Kp} {base:World} {φ:Emb} {A A':St} {w:World} {ρ ρ':Operand->Value} {nx:Nx}
theorem EntR.eraseIdx {es ces:List MapEntry} (h:EntR nm φ es ces) (i:Nat):EntR nm φ (es.eraseIdx i) (ces.eraseIdx i):=by
 refine ⟨by rw [List.length_eraseIdx,List.length_eraseIdx,h.1],fun j e c h1 h2=>?_⟩
 rw [List.getElem?_eraseIdx] at h1 h2
 split at h1
 ·rename_i hj;rw [if_pos hj] at h2;exact h.2 _ _ _ h1 h2
 ·rename_i hj;rw [if_neg hj] at h2;exact h.2 _ _ _ h1 h2
theorem xK {b:Nat} {o:Obj} (hb:w.heap[b]? = some o):aZ w b o=w:=by
 have hlt:b < w.heap.size:=(Array.getElem?_eq_some_iff.1 hb).1
 unfold aZ
 have:w.heap.setIfInBounds b o=w.heap:=by
  apply Array.ext_getElem?
  intro j
  rw [Array.getElem?_setIfInBounds]
  split
  ·rename_i e;subst e;first | exact hb.symm | (simp only [hlt,if_true];exact hb.symm)
  ·rfl
 rw [this]
theorem xL (ok:EnvOk E P nm) (h:WR nm K base φ A w) {ts:List TypeId} {args:List Value} {args':Array Value} {ty:TypeId} (ha:LR nm φ args args'.toList)
  (hf:kC E A ts args=some (nx,A')):Goal P nm K base φ A w (Builtin.delete_ ts.toArray ty args' >>= fun x=>pure (Next.value x)) nx A':=by
 unfold kC at hf
 split at hf
 ·rename_i kt et r k hu
  obtain ⟨t,l,rfl,hu⟩:=c9 hu
  split at hf
  ·rename_i kd es c hkd hes
   split at hf
   ·rename_i hkk
    obtain ⟨m',k',rfl,hm,hk⟩:=fX ha
    have hkx:=hk.plainV_eq (gO hkk)
    obtain ⟨p,hp,rfl⟩:=hm.map_inv
    obtain ⟨ces,hc,hent⟩:=ea h hes hp
    have hgo:=bg (P:=P) hc (by simp)
    have hlt:=h.lt _ _ hp
    split at hf
    ·rename_i i v hfe
     cases hf
     obtain ⟨r',g1,g2⟩:=e9 hkk es ces.toList 0 _ hent hfe
     obtain ⟨v',e1,e2,e3,e0,e4,e5,e6⟩:=g2
     subst e1
     have hfk:=run_findKey (w:=w) ok hkd g1
     refine cf (A':=A.setObj r (.map (es.eraseIdx i) c)) (w':=aZ w p.blk (.map (ces.eraseIdxIfInBounds i) c)) (Emb.ext_refl _ _) (Nat.le_refl _) ?_ (.of_plainV rfl) ?_
     ·refine h.setObj (o:=.map es c) (o':=.map (es.eraseIdx i) c) hes rfl rfl (by simp) (by simp) rfl hp ⟨_,cd w _ hlt,?_⟩
      rw [Array.toList_eraseIdxIfInBounds]
      exact hent.eraseIdx i
     ·simp [Builtin.delete_,ok.run_und hu w,hgo,hkx,db ok hkd hkk,hfk,dM hc (by simp)]
    ·rename_i hfe
     cases hf
     obtain ⟨r',g1,g2⟩:=e9 hkk es ces.toList 0 _ hent hfe
     simp only [] at g2
     subst g2
     have hfk:=run_findKey (w:=w) ok hkd g1
     refine aN h (.of_plainV rfl) ?_
     simp [Builtin.delete_,ok.run_und hu w,hgo,hkx,db ok hkd hkk,hfk,dM hc (by simp),xK hc]
    ·cases hf
   ·cases hf
  ·cases hf
 ·cases hf
theorem xM (ok:EnvOk E P nm) (h:WR nm K base φ A w) {ts:List TypeId} {args:List Value} {args':Array Value} {ty:TypeId} (ha:LR nm φ args args'.toList)
  (hf:mf E A ts args=some (nx,A')):Goal P nm K base φ A w (Builtin.clear_ ts.toArray ty args' >>= fun x=>pure (Next.value x)) nx A':=by
 unfold mf at hf
 split at hf
 ·rename_i e a n c hu
  obtain ⟨t,l,rfl,hu⟩:=c9 hu
  split at hf
  ·rename_i z hz
   obtain ⟨x',rfl,hx⟩:=cR ha
   obtain ⟨a',k',p,rfl,hp,hsp,q1,q2,q3,q4,q5,q6⟩:=hx.slc_inv
   split at hf
   ·rename_i h0
    cases hf
    subst h0
    refine aN h (.of_plainV rfl) ?_
    simp [Builtin.clear_,ok.run_und hu w]
   ·rename_i h0
    split at hf
    ·rename_i A1 hst
     cases hf
     obtain ⟨w',r1,r2,r3⟩:=h.store (P:=P) hst (jF (fk hz φ) n) hp
     have hk:¬ k'=0:=by
      intro e0
      cases hop:p.opn with
      | true=>have:=(q5 hop).1;omega
      | false=>have:=q4 hop;omega
     have haddr:a'=⟨p.blk,p.off+a.off,none⟩:=by
      have hoff:=q3.resolve_left hk
      replace q1:=q1.resolve_left hk
      replace q2:=q2.resolve_left hk
      obtain ⟨ab,ao,as⟩:=a'
      simp only [] at q1 q2 hoff
      subst q1;subst q2;subst hoff
      rfl
     subst haddr
     have hzc:Builtin.zeroCells z.cells n=(zeros z.cells.toList n).toArray:=jE z.cells n z.cells.size rfl
     refine cf (Emb.ext_refl _ _) (by rw [r3];exact Nat.le_refl _) r2 (.of_plainV rfl) ?_
     cases n with
     | zero=>exact absurd rfl h0
     | succ n=>simp [Builtin.clear_,ok.run_und hu w,ok.run_zero hz w,hzc,r1]
    ·cases hf
  ·cases hf
 ·rename_i hu
  obtain ⟨t,l,rfl,hu⟩:=c9 hu
  cases hf
  obtain ⟨x',rfl,hx⟩:=cR ha
  rw [hx.nils_inv]
  refine aN h (.of_plainV rfl) ?_
  simp [Builtin.clear_,ok.run_und hu w]
 ·cases hf
theorem qR {b off n:Nat} {cs:Array Value} {e:TypeId} {fz:Nat×Nat} (hb:w.heap[b]? = some (.cells cs e fz)) (hn:n≠0) :
  w.freeze ⟨b,off,none⟩ n=aZ w b (.cells cs e (if fz.1==fz.2 then (off,off+n) else (min fz.1 off,max fz.2 (off+n)))):=by
 unfold World.freeze aZ
 rw [if_neg hn]
 congr 1
 apply Array.ext_getElem?
 intro j
 rw [Array.getElem?_modify,Array.getElem?_setIfInBounds]
 have hlt:b < w.heap.size:=(Array.getElem?_eq_some_iff.1 hb).1
 split
 ·rename_i e;subst e
  obtain ⟨f1,f2⟩:=fz
  simp only [hb,Option.map]
 ·rfl
theorem xN (t:TypeId) (l:List TypeId) (ty:TypeId) (a:Addr) (k:IntKind) (n:Int):Builtin.unsafeString_ (t::l).toArray ty #[.pointer (some a),.int k n]=(do
  if n < 0 then runtimePanic (.error "unsafe.String: len out of range")
  if n > IntKind.i64.max then unsupported (.unsafePointer "String: a length above the largest int")
  if n=0 then pure (.string .empty)
  else if <- variablesAt a (<- elemOf t) n.toNat then do
   let s <- loadBytes a .empty n.toNat
   freeze a n.toNat
   pure (.string s)
  else unsupported (.unsafePointer "String: not so many bytes at ptr")):=rfl
theorem xO (ok:EnvOk E P nm) (h:WR nm K base φ A w) {ts:List TypeId} {args:List Value} {args':Array Value} {ty:TypeId} (ha:LR nm φ args args'.toList)
  (hts:ts≠[]) (hf:mh E A ts args=some (nx,A')):Goal P nm K base φ A w (Builtin.unsafeString_ ts.toArray ty args' >>= fun x=>pure (Next.value x)) nx A':=by
 have i63:IntKind.i64.max=9223372036854775807:=rfl
 obtain ⟨t,l,rfl⟩:∃ t l,ts=t::l:=by
  cases ts with
  | nil=>exact absurd rfl hts
  | cons t l=>exact ⟨t,l,rfl⟩
 unfold mh at hf
 split at hf
 ·rename_i k n
  split at hf
  ·rename_i h0
   cases hf
   obtain ⟨p',n',rfl,hp,hn⟩:=fX ha
   rw [hn.int_inv]
   cases hp
   refine aN h (.of_plainV rfl) ?_
   subst h0
   rfl
  ·cases hf
 ·rename_i a k n
  obtain ⟨p',n',rfl,hp,hn⟩:=fX ha
  rw [hn.int_inv]
  obtain ⟨p,hpa,hsp,rfl⟩:=hp.ptr_inv
  split at hf
  ·rename_i h0
   cases hf
   refine aN h (.of_plainV rfl) ?_
   subst h0
   rfl
  ·rename_i h0
   split at hf
   ·cases hf
   ·rename_i hneg
    split at hf
    ·rename_i r hr hs
     split at hf
     ·rename_i hc
      unfold qf at hc
      simp only [Bool.and_eq_true,Bool.not_eq_true'] at hc
      obtain ⟨⟨⟨hown,hsb⟩,hsize⟩,hlay⟩:=hc
      split at hf
      ·rename_i bs hby
       cases hf
       have hb:=dk hr
       obtain ⟨m,rfl⟩:=Int.eq_ofNat_of_zero_le (show 0<=n by omega)
       have hm0:0 < m:=by omega
       simp only [Int.toNat_natCast] at *
       obtain ⟨q,hq,⟨cs,fz,ho⟩,hK⟩:=h.obj a.block _ hb rfl
       rw [hpa] at hq;cases hq
       have hlen:a.off+m<=r.size:=by
        unfold dO at hby
        simp only [] at hby
        split at hby
        ·rename_i vs hl
         unfold St.loadN at hl
         rw [hs,hr] at hl
         simp only [] at hl
         split at hl
         ·assumption
         ·cases hl
        ·cases hby
       have hgoto:∀ (x':Value),x'=.slice (some ⟨p.blk,p.off+a.off,none⟩) m m->∃ ns:List Int,bs=ns.map (fun n:Int=>UInt8.ofNat n.toNat)/\ns.length=m /\
         (∀ j v,(ns.map (Value.int .u8))[j]? = some v->w.cell? ((⟨p.blk,p.off+a.off,none⟩:Addr).add j)=some v):=by
        intro x' hx'
        unfold dO at hby
        simp only [] at hby
        split at hby
        ·rename_i vs hl
         obtain ⟨ns,e1,e2⟩:=qO vs bs hby
         obtain ⟨cvs,hrd⟩:=h.load hl hpa
         subst e1
         have:=mW ns .u8 cvs hrd.rel
         subst this
         exact ⟨ns,e2,by simpa using hrd.len,hrd.cell⟩
        ·cases hby
       obtain ⟨ns,rfl,hnl,hcell⟩:=hgoto _ rfl
       split at hsize
       case h_2=>cases hsize
       rename_i k1 hk1
       have hk1':k1=1:=Nat.eq_of_beq_eq_true hsize
       subst hk1'
       split at hlay
       case h_2=>cases hlay
       rename_i u hu
       obtain ⟨t',l',e',hu⟩:=c9 hu
       cases e'
       have hcells:P.cellsOf r.elem=1:=by
        obtain ⟨i,hi,hi2⟩:=qo hk1
        simp [Program.cellsOf,ok.inf _ _ hi,hi2]
       obtain ⟨h1,away⟩:=h.alone hb hown
       have hlies:liesAt P P.depth r.elem (cs.size / P.cellsOf r.elem) (p.off+a.off) u m=true:=by
        rw [hcells,Nat.div_one]
        rw [ok.prog] at hlay
        have hfit:p.off+a.off+m<=cs.size:=by have:=ho.fit;omega
        have hrow:∀ d,rowAt P (sameLayout P P.depth · u) (d+1) r.elem cs.size (p.off+a.off) m=true:=by
         intro d
         simp [rowAt,hcells,Nat.mod_one,hfit,hlay]
        have h2:rowAt P (sameLayout P P.depth · u) P.depth r.elem cs.size (p.off+a.off) m=true:=hrow (2 * (P.types.size+Made.depth)+1)
        have h3:∀ d,liesAt P (d+1) r.elem cs.size (p.off+a.off) u m=true:=by
         intro d
         simp [liesAt,h2]
        exact h3 (2 * (P.types.size+Made.depth)+1)
       have hvar:(variablesAt ⟨p.blk,p.off+a.off,none⟩ u m).run P w=.ok true w:=by
        have hsh:w.shape? p.blk=some (r.elem,cs.size):=by simp [World.shape?,ho.blk]
        simp [variablesAt,hsh,hlies]
       have hel:(elemOf t).run P w=.ok u w:=by
        simp [elemOf,ok.run_und hu w]
       have hld:=wz (P:=P) ns ⟨p.blk,p.off+a.off,none⟩ .empty hcell
       rw [hnl,jw] at hld
       have hstr:(⟨ByteArray.empty.data++(ns.map fun n=>UInt8.ofNat n.toNat).toArray⟩:ByteArray)=⟨(ns.map fun n=>UInt8.ofNat n.toNat).toArray⟩:=by simp
       rw [hstr] at hld
       refine cf (w':=w.freeze ⟨p.blk,p.off+a.off,none⟩ m) (Emb.ext_refl _ _) ?_ ?_ (.str _) ?_
       ·show A.next<=(A.alone a.block r).next
        rw [qn];exact Nat.le_refl _
       ·rw [qR ho.blk (by omega)]
        refine h1.setRow (qm _ _ hb) hown hpa (fun x u q hx hu lu ou hq=>away x u q p hx hu lu ou hq hpa) hown rfl ?_
        have hlt:=h.lt _ _ hpa
        refine ⟨cs,_,{ blk:=cd w _ hlt,csz:=ho.csz,opn:=ho.opn,esz:=ho.esz,fit:=ho.fit,cell:=ho.cell,frz:=?_,sb:=?_,exact:=ho.exact }⟩
        ·intro _ j g1 g2 g3
         show j < p.off+max r.frz (a.off+m)
         have hmax1:=Nat.le_max_left r.frz (a.off+m)
         have hmax2:=Nat.le_max_right r.frz (a.off+m)
         rcases ho.sb hown hsb with e | ⟨e1,e2⟩
         ·rw [e] at g2
          simp at g2
          omega
         ·have hne:(fz.1==fz.2)=false:=by simp;omega
          rw [hne] at g1 g2
          simp only [Bool.false_eq_true,if_false] at g1 g2
          have hlo:=ho.frz hown fz.1 (Nat.le_refl _) e1 (by omega)
          by_cases c1:fz.1<=j/\j < fz.2
          ·have:=ho.frz hown j c1.1 c1.2 g3;omega
          ·rcases Nat.lt_or_ge j (p.off+a.off+m) with g | g
           ·omega
           ·have:j < fz.2:=by
             rcases Nat.lt_or_ge j fz.2 with g' | g'
             ·exact g'
             ·have:=Nat.max_le.2 ⟨g',g⟩;omega
            omega
        ·intro _ _
         right
         have:=ho.fit
         rcases ho.sb hown hsb with e | ⟨e1,e2⟩
         ·rw [e];simp;omega
         ·have hne:(fz.1==fz.2)=false:=by simp;omega
          rw [hne]
          simp only [Bool.false_eq_true,if_false]
          omega
       ·have hfr:(freeze ⟨p.blk,p.off+a.off,none⟩ m).run P w=.ok () (w.freeze ⟨p.blk,p.off+a.off,none⟩ m):=rfl
        have n1:¬ ((m:Int) < 0):=by omega
        have hb48:¬ ((m:Int) > IntKind.i64.max):=by omega
        rw [xN]
        rw [if_neg n1,if_neg hb48,if_neg h0]
        simp only [Sem.run_bind,hel,hvar,Result.andThen_ok,if_true,Int.toNat_natCast,hld,hfr,Sem.run_pure]
      ·cases hf
     ·cases hf
    ·cases hf
 ·cases hf
end
end Go.AM
namespace Go.AM
section
variable {E:Env} {P:Program} {nm:Nm} {K:Kp} {base:World} {φ:Emb} {A A':St} {w:World} {ρ ρ':Operand->Value} {nx:Nx}
theorem xP (ok:EnvOk E P nm) (h:WR nm K base φ A w) {b:Builtin} {ts:List TypeId} {args:List Value} {args':Array Value} {ty:TypeId} {cs:Array Bool} (ha:LR nm φ args args'.toList)
  (hf:bK E A b ts ty args=some (nx,A')):Goal P nm K base φ A w (builtin b ts.toArray ty cs args') nx A':=by
 unfold bK at hf
 split at hf
 ·exact xE ok h ha hf
 ·exact xF ok h ha hf
 ·exact xG ok h ha hf
 ·exact xH ok h ha hf
 ·exact xL ok h ha hf
 ·exact xM ok h ha hf
 ·exact qQ ok h ha (.inl rfl) hf
 ·exact qQ ok h ha (.inr rfl) hf
 ·cases hf
  exact ⟨φ,w,Emb.ext_refl _ _,Nat.le_refl _,h,rfl⟩
 ·exact xI h ha hf
 ·exact xJ h ha hf
 ·split at hf
  ·cases hf
  ·exact xO ok h ha (by simp) hf
 ·cases hf
theorem qS (ok:EnvOk E P nm) (h:WR nm K base φ A w) {f:FuncId} {args:List Value} {args':Array Value} (ha:LR nm φ args args'.toList)
  (hf:de E A f args=some (nx,A')):Goal P nm K base φ A w (callFunc f args') nx A':=by
 unfold de at hf
 split at hf
 ·rename_i fn hfn
  have hfn':=ok.fn _ _ hfn
  have hname:=ok.names _ _ hfn'
  split at hf
  ·rename_i c hb
   cases hf
   have h1:fn.name ≠ "runtime.NumGoroutine" := by simpa using hname
   refine ⟨φ,w,Emb.ext_refl _ _,Nat.le_refl _,h,args',ha,?_,fn,hfn',by simp [hb]⟩
   simp [callFunc,hfn',h1,hb]
  ·rename_i hb
   split at hf
   ·rename_i v A1 hv
    cases hf
    obtain ⟨g1,rfl,v',g2,g3⟩:=xD (P:=P) h ha hv
    obtain ⟨e1,e2⟩:=ok.ext f fn hfn' hb g1
    refine ⟨φ,w,Emb.ext_refl _ _,Nat.le_refl _,h,v',g2,?_⟩
    rw [run_callFunc_extern hfn' hname (by simp [hb]) e1 e2,g3]
    rfl
   ·cases hf
 ·cases hf
theorem xQ (ok:EnvOk E P nm) {t:TypeId} {i:TypeInfo} {m:Method} {f:FuncId} {ptr:Bool} {d:TypeDesc} {name:String} {v:Value} (hi:E.inf t=some i) (hm:i.methods.find? (·.name==name)=some m)
  (hp:m.path.isEmpty=true) (hf:m.func=some (f,ptr)) (hu:E.und t=some d) (hd:(∃ e,d=.pointer e)/\ptr=true\/(∀ e,d≠.pointer e)/\ptr=false) (n:Nat) :
  (Go.method (n+1) t v name).run P w=.ok (f,v) w:=by
 have hpath:m.path.toList=[]:=by simpa using hp
 rcases hd with ⟨⟨e,rfl⟩,rfl⟩ | ⟨hne,rfl⟩
 ·simp only [Go.method,Sem.run_bind,ok.run_inf hi w,Result.andThen_ok,hm,hpath,follow,Sem.run_pure,hf,receiverAt,ok.run_und hu w,Place.get]
 ·cases d <;> first | exact absurd rfl (hne _) | simp only [Go.method,Sem.run_bind,ok.run_inf hi w,Result.andThen_ok,hm,hpath,follow,Sem.run_pure,hf,receiverAt,ok.run_und hu w,Place.get]
theorem xR (ok:EnvOk E P nm) (h:WR nm K base φ A w) {recv recv':Value} {name:String} {args:List Value} {args':Array Value} (hr:VR nm φ recv recv') (ha:LR nm φ args args'.toList)
  (hf:fe E A recv name args=some (nx,A')):Goal P nm K base φ A w (callMethod recv' name args') nx A':=by
 unfold fe at hf
 split at hf
 ·rename_i t v
  cases hr with
  | iface t v v' hv =>
   split at hf
   ·rename_i i hi
    split at hf
    ·rename_i m hm
     split at hf
     ·rename_i hp
      have go:∀ (f:FuncId) (ptr:Bool) (d:TypeDesc),m.func=some (f,ptr)->E.und t=some d->((∃ e,d=.pointer e)/\ptr=true\/(∀ e,d≠.pointer e)/\ptr=false) ->
        de E A f (v::args)=some (nx,A')->Goal P nm K base φ A w (callMethod (.iface t v') name args') nx A':=by
       intro f ptr d hmf hu hd hc
       obtain ⟨φ',w',g1,g2,g3,g4⟩:=qS (args':=#[v']++args') ok h (by simpa using LR.cons hv ha) hc
       refine ⟨φ',w',g1,g2,g3,?_⟩
       have hrun:∀ w2:World,(Go.method (P.types.size+Made.depth) t v' name).run P w2=.ok (f,v') w2:=fun w2=>by
        have hdep:P.types.size+Made.depth=(P.types.size+(Made.depth - 1))+1:=rfl
        rw [hdep]
        exact xQ ok hi hm hp hmf hu hd _
       have e:(callMethod (.iface t v') name args').run P w=(callFunc f (#[v']++args')).run P w:=by
        simp only [callMethod,Sem.run_bind,run_program,Result.andThen_ok,hrun]
       cases nx <;> simp only [NxR] at g4 ⊢ <;> simpa [e] using g4
      split at hf
      ·rename_i f ptr hmf
       split at hf
       ·rename_i hu;exact go f _ _ hmf hu (.inl ⟨⟨_,rfl⟩,rfl⟩) hf
       ·cases hf
       ·rename_i d hd hu;exact go f _ _ hmf hu (.inr ⟨fun e he=>hd e he,rfl⟩) hf
       ·cases hf
      ·cases hf
     ·cases hf
    ·cases hf
   ·cases hf
 ·cases hr
  cases hf
  exact ez h (.of_plainV jG) (jH ok)
 ·cases hf
theorem qT (ok:EnvOk E P nm) (h:WR nm K base φ A w) {t t':Target} {args:List Value} {args':Array Value} (ht:TR nm φ t t') (ha:LR nm φ args args'.toList)
  (hf:eD E A t args=some (nx,A')):Goal P nm K base φ A w (invoke t' args') nx A':=by
 unfold eD at hf
 split at hf
 ·cases ht
  cases hf
  exact ez h (.of_plainV jG) (jH ok)
 ·cases ht with
  | fn f f' c c' h1 h2 =>
   cases h1
   exact qS ok h (by simpa using LR.append ha h2) hf
 ·cases ht with
  | fn f f' c c' h1 h2 =>
   cases h1
   split at hf
   ·rename_i recv rest
    obtain ⟨r',l,e,g1,g2⟩:=ha.cons_inv
    have hargs:args'=#[r']++l.toArray:=by
     apply Array.ext'
     simp [e]
    subst hargs
    have h0:(#[r']++l.toArray)[0]? = some r':=by simp
    have hx:(#[r']++l.toArray).extract 1 (#[r']++l.toArray).size=l.toArray:=by
     apply Array.ext'
     simp
    unfold invoke
    simp only [h0,hx]
    exact xR (args':=l.toArray) ok h g1 (by simpa using g2) hf
   ·cases hf
 ·cases ht with
  | fn f f' c c' h1 h2 =>
   cases hf
   cases h1 with
   | yield l l' p g1 g2 =>
    subst g2
    exact ⟨φ,w,Emb.ext_refl _ _,Nat.le_refl _,h,args',p,g1,ha,rfl⟩
 ·rename_i b ts ty cs
  cases ht
  have:=xP (ts:=ts.toList) (cs:=cs) (ty:=ty) ok h ha hf
  simpa [invoke] using this
 ·cases hf
theorem VR.nilf_inv {c:Value} (h:VR nm φ .nilFunc c):c=.nilFunc:=by cases h;rfl
theorem mZ {α:Type} (xs:Array α) (f g:α->Value) (h:∀ x,x∈xs->VR nm φ (f x) (g x)):AR nm φ (xs.map f) (xs.map g):=by
 have:=LR.map (nm:=nm) (φ:=φ) (f:=f) (g:=g) xs.toList (fun x hx=>h x (by simpa using hx))
 simpa [AR] using this
theorem qU {c:Call} {ty:TypeId} {d:Deferred} (hρ:∀ x,x∈(Op.call c).operands.toList->VR nm φ (ρ x) (ρ' x)) (hf:dP ρ c ty=some d) :
  ∃ d',DR nm φ d d'/\∀ w:World,(resolve ρ' c ty).run P w=.ok d' w:=by
 have hargs:AR nm φ (c.args.map ρ) (c.args.map ρ'):=mZ _ _ _ fun x hx=>hρ x (by simp [Op.operands,Call.operands,hx])
 unfold dP at hf
 split at hf
 ·rename_i b hc
  cases hf
  exact ⟨_,⟨.builtin _ _ _ _,hargs⟩,fun w=>by simp only [resolve,hc];rfl⟩
 ·rename_i recv name hc
  cases hf
  have hr:=hρ recv (by simp [Op.operands,Call.operands,hc])
  refine ⟨_,⟨.fn _ _ _ _ (.method name) .nil,?_⟩,fun w=>by simp only [resolve,hc];rfl⟩
  simpa [AR] using LR.cons hr hargs
 ·rename_i f hc
  have hr:=hρ f (by simp [Op.operands,Call.operands,hc])
  split at hf
  ·rename_i fn first cap hv
   cases hf
   rw [hv] at hr
   obtain ⟨f',a',b',e,h1,h2,h3⟩:=hr.func_inv
   refine ⟨_,⟨.fn _ _ _ _ h1 h3,?_⟩,fun w=>by simp only [resolve,hc,e];rfl⟩
   simpa [AR] using LR.append h2 hargs
  ·rename_i hv
   cases hf
   rw [hv] at hr
   have e:ρ' f=.nilFunc:=hr.nilf_inv
   exact ⟨_,⟨.nil,hargs⟩,fun w=>by simp only [resolve,hc,e];rfl⟩
  ·cases hf
theorem xS (ok:EnvOk E P nm) (h:WR nm K base φ A w) {o:Oper} {c:Call} (ho:o.op=.call c) (hρ:∀ x,x∈(Op.call c).operands.toList->VR nm φ (ρ x) (ρ' x))
  (hf:eE E A ρ o c=some (nx,A')):Goal P nm K base φ A w (execOp ρ' o) nx A':=by
 unfold eE at hf
 split at hf
 ·rename_i d hd
  obtain ⟨d',h1,h2⟩:=qU (P:=P) hρ hd
  obtain ⟨φ',w',g1,g2,g3,g4⟩:=qT ok h h1.target h1.args hf
  refine ⟨φ',w',g1,g2,g3,?_⟩
  have e:(execOp ρ' o).run P w=(invoke d'.target d'.args).run P w:=by
   unfold execOp
   simp only [ho,Sem.run_bind,h2,Result.andThen_ok]
  cases nx <;> simp only [NxR] at g4 ⊢ <;> simpa [e] using g4
 ·cases hf
theorem xT (h:WR nm K base φ A w) {o:Oper} {c:Call} (ho:o.op=.defer c) (hρ:∀ x,x∈(Op.call c).operands.toList->VR nm φ (ρ x) (ρ' x))
  (hf:mj A ρ o c=some (nx,A')):Goal P nm K base φ A w (execOp ρ' o) nx A':=by
 unfold mj at hf
 split at hf
 ·rename_i d hd
  cases hf
  obtain ⟨d',h1,h2⟩:=qU (P:=P) hρ hd
  refine ⟨φ,w,Emb.ext_refl _ _,Nat.le_refl _,h,d',h1,?_⟩
  unfold execOp
  simp only [ho,Sem.run_bind,h2,Result.andThen_ok,Sem.run_pure]
 ·cases hf
theorem xU (h:WR nm K base φ A w) {x:Operand} (hv:VR nm φ (ρ x) (ρ' x)) (hf:mn A ρ x=some (nx,A')):Goal P nm K base φ A w (Instr.panic (ρ' x) >>= fun y=>pure (Next.value y)) nx A':=by
 unfold mn at hf
 split at hf
 ·rename_i t v e
  cases hf
  rw [e] at hv
  generalize ρ' x=c at hv
  cases hv with
  | iface t v v' hv=>exact ez h (.iface t v v' hv) rfl
 ·cases hf
end
end Go.AM
namespace Go.AM
section
variable {E:Env} {P:Program} {nm:Nm} {K:Kp} {base:World} {φ:Emb} {A A':St} {w:World} {ρ ρ':Operand->Value} {nx:Nx}
theorem VR.nili_inv {c:Value} (h:VR nm φ .nilIface c):c=.nilIface:=by cases h;rfl
theorem gP {a a':Value} (h:VR nm φ a a') (b:Bool):VR nm φ (.tuple #[a,.bool b]) (.tuple #[a',.bool b]):=.tuple' (.cons h (.cons (.bool b) .nil))
theorem xV (ok:EnvOk E P nm) (h:WR nm K base φ A w) (x:Operand) (xt t:TypeId) (cok:Bool) (hv:VR nm φ (ρ x) (ρ' x)) (hf:iq E A ρ x t cok=some (nx,A')) :
  Goal P nm K base φ A w (Instr.typeAssert (ρ' x) xt t cok >>= fun y=>pure (Next.value y)) nx A':=by
 unfold iq at hf
 revert hv hf
 generalize ρ' x=c
 generalize ρ x=v
 intro hv hf
 split at hf
 ·rename_i z hu hz
  split at hf
  ·cases hf
   rw [hv.nili_inv]
   refine aN h (gP (.of_plainV (dR hz)) false) ?_
   simp_all [Instr.typeAssert,ok.run_und hu w,ok.run_zero hz w]
  ·cases hf
 ·rename_i want ty v z hu hz
  obtain ⟨v',rfl,hv'⟩:=hv.iface_inv
  split at hf
  ·rename_i i hi
   split at hf
   ·rename_i hm
    cases hf
    cases cok with
    | true=>exact aN h (gP (.iface _ _ _ hv') true) (by simp [Instr.typeAssert,ok.run_und hu w,ok.run_inf hi w,hm])
    | false=>exact aN h (.iface _ _ _ hv') (by simp [Instr.typeAssert,ok.run_und hu w,ok.run_inf hi w,hm])
   ·rename_i m hm
    split at hf
    ·cases hf
     refine aN h (gP (.of_plainV (dR hz)) false) ?_
     simp_all [Instr.typeAssert,ok.run_und hu w,ok.run_inf hi w,ok.run_zero hz w]
    ·cases hf
  ·cases hf
 ·rename_i d z hni hu hz
  split at hf
  ·cases hf
   rw [hv.nili_inv]
   refine aN h (gP (.of_plainV (dR hz)) false) ?_
   cases d <;> first | exact absurd rfl (hni _) | simp_all [Instr.typeAssert,ok.run_und hu w,ok.run_zero hz w]
  ·cases hf
 ·rename_i d ty v z hni hu hz
  obtain ⟨v',rfl,hv'⟩:=hv.iface_inv
  split at hf
  ·rename_i e
   subst e
   cases hf
   cases cok with
   | true =>
    refine aN h (gP hv' true) ?_
    cases d <;> first | exact absurd rfl (hni _) | simp [Instr.typeAssert,ok.run_und hu w]
   | false =>
    refine aN h hv' ?_
    cases d <;> first | exact absurd rfl (hni _) | simp [Instr.typeAssert,ok.run_und hu w]
  ·rename_i e
   split at hf
   ·cases hf
    refine aN h (gP (.of_plainV (dR hz)) false) ?_
    cases d <;> first | exact absurd rfl (hni _) | simp_all [Instr.typeAssert,ok.run_und hu w,ok.run_zero hz w]
   ·cases hf
 ·cases hf
theorem qV {n o:Nat} {e:TypeId}:(choose (.appendCap n o e)).run P w=.ok (grownCap w n o e) w.drew:=run_choose _ _ _ |>.trans rfl
theorem xW (o o':Obj):aZ (w.alloc o) w.heap.size o'=w.alloc o':=by
 unfold aZ World.alloc
 congr 1
 apply Array.ext_getElem?
 intro j
 rw [Array.getElem?_setIfInBounds]
 by_cases e:w.heap.size=j
 ·subst e;simp
 ·rw [if_neg e,Array.getElem?_push,Array.getElem?_push]
  simp [Ne.symm e]
theorem qW (h:WR nm K base φ A w) {e:TypeId} {vs cvs:List Value} {pad:Array Value} {fz:Nat×Nat} {sb:Bool} {cap:Nat} (hv:LR nm φ vs cvs) (hcap:vs.length<=cap) (hpad:cvs.length+pad.size=cap)
  (hfz:∀ j,fz.1<=j->j < fz.2->cap<=j) (hsb:sb=false->fz.1=fz.2) {n:Nat} (hn:n=vs.length) :
  ∃ φ',Emb.ext A.next φ φ' /\
   WR nm K base φ' { A with next:=A.next+1,h:=A.h.set A.next (.row { own:=true,size:=n,cells:=T.ofList vs,elem:=e,esz:=1,opn:=true,grp:=A.next,frz:=0,sb }) } (w.drew.alloc (.cells (cvs.toArray++pad) e fz)) /\
   VR nm φ' (.slice (some ⟨A.next,0,none⟩) n n) (.slice (some ⟨w.heap.size,0,none⟩) n cap):=by
 subst hn
 have hnx:=h.dom A.next (Nat.le_refl _)
 have hlen:=hv.length
 let p:=cQ w cap 1
 refine ⟨φ.upd A.next p,Emb.upd_ext _ _ _,?_,?_⟩
 ·refine (h.drew (w.drawn+1)).new A.next p _ _ (A.next+1) hnx (Nat.le_succ _) (Nat.lt_succ_self _) rfl ?_ rfl
  refine ⟨cvs.toArray++pad,fz,{ blk:=?_,csz:=?_,opn:=rfl,esz:=fun _=>rfl,fit:=?_,cell:=?_,frz:=?_,sb:=?_,exact:=fun g=>by cases g }⟩
  ·simp [p,cQ]
  ·simp [p,cQ,hpad]
  ·simp [p,cQ,hpad];omega
  ·intro i hi
   have hi':i < vs.length:=hi
   refine ⟨_,(T.get_ofList _ _).trans (List.getElem?_eq_getElem hi'),?_⟩
   obtain ⟨v',e1,e2⟩:=(hv.mono (Emb.upd_le p hnx)).get? (List.getElem?_eq_getElem hi')
   have:(cvs.toArray++pad).getD (p.off+i) undef=v':=by
    simp only [p,cQ,Nat.zero_add]
    rw [Array.getD_eq_getD_getElem?,Array.getElem?_append_left (by simp;omega)]
    simp [e1]
   rw [this];exact e2
  ·intro _ j g1 g2 g3
   have:=hfz j g1 g2
   simp [hpad] at g3
   omega
  ·intro _ g;exact .inl (hsb g)
 ·refine .slc ⟨A.next,0,none⟩ ⟨w.heap.size,0,none⟩ _ _ cap p (Emb.upd_same _ _ _) rfl (.inr rfl) (.inr rfl) (.inr rfl) (fun g=>by cases g) (fun _=>⟨hcap,?_⟩) (Nat.le_refl _)
  show 0+cap * 1<=cap
  omega
theorem m0 (o:Obj) (w:World):(newObj o).run P w=.ok w.heap.size (w.alloc o):=rfl
theorem run_mark {cs:Array Value} {e:TypeId} (w:World):(markStringish ⟨w.heap.size,0,none⟩).run P (w.alloc (.cells cs e))=.ok () (w.alloc (.cells cs e (cs.size,cs.size+1))):=by
 have hb:(w.alloc (.cells cs e)).heap[w.heap.size]? = some (.cells cs e (0,0)):=by
  show (w.heap.push _)[w.heap.size]? = _
  simp
 have hsh:(w.alloc (.cells cs e)).shape? w.heap.size=some (e,cs.size):=by unfold World.shape?;rw [hb]
 unfold markStringish
 simp only [Sem.run_bind,run_shape,hsh,Result.andThen_ok,run_freeze]
 rw [qR hb (by omega),xW]
 simp
theorem xX {e:TypeId} {s:ByteArray}:(Conv.stringToBytes e s).run P w=.ok (.slice (some ⟨w.heap.size,0,none⟩) s.size (grownCap w s.size 0 e))
  (w.drew.alloc (.cells ((s.data.toList.map fun c:UInt8=>Value.int .u8 c.toNat).toArray++Array.replicate (grownCap w s.size 0 e - s.size) (.int .u8 0)) e (grownCap w s.size 0 e,grownCap w s.size 0 e+1))):=by
 have hge:=grownCap_ge w s.size 0 e
 have hcells:(s.data.map fun b:UInt8=>Value.int .u8 b.toNat)=(s.data.toList.map fun c:UInt8=>Value.int .u8 c.toNat).toArray:=by
  apply Array.ext';simp
 have hsz:((s.data.toList.map fun c:UInt8=>Value.int .u8 c.toNat).toArray++Array.replicate (grownCap w s.size 0 e - s.size) (Value.int .u8 0)).size=grownCap w s.size 0 e:=by
  have:s.data.size=s.size:=rfl
  simp;omega
 have hm:=run_mark (P:=P) (cs:=(s.data.toList.map fun c:UInt8=>Value.int .u8 c.toNat).toArray++Array.replicate (grownCap w s.size 0 e - s.size) (Value.int .u8 0)) (e:=e) w.drew
 rw [hsz] at hm
 unfold Conv.stringToBytes
 simp only [Sem.run_bind,qV,Result.andThen_ok,newRow,m0,Sem.run_pure,hcells,hm]
 rfl
theorem xY (s:ByteArray):∀ (b i:Nat) (acc:Array Value),(∃ ns:List Int,acc.toList=ns.map (Value.int .i32))->∃ ns:List Int,(Conv.runesFrom s b i acc).toList=ns.map (Value.int .i32):=by
 intro b
 induction b with
 | zero=>intro i acc h;exact h
 | succ b ih =>
  intro i acc h
  unfold Conv.runesFrom
  split
  ·obtain ⟨ns,e⟩:=h
   exact ih _ _ ⟨ns++[Int.ofNat (Utf8.decode s i).1],by rw [Array.toList_push,e,List.map_append];rfl⟩
  ·exact h
theorem xZ (ns:List Int) (k:IntKind):LR nm φ (ns.map (Value.int k)) (ns.map (Value.int k)):=LR.map _ fun n _=>.int k n
theorem xa (ok:EnvOk E P nm) (h:WR nm K base φ A w) {o:Oper} (src dst:TypeId) (x:Operand) (ho:o.op=.convert src dst x) (hv:VR nm φ (ρ x) (ρ' x)) (hf:df E A ρ o src dst x=some (nx,A')) :
  Goal P nm K base φ A w (execOp ρ' o) nx A':=by
 have hexec:execOp ρ' o=(convert src dst (ρ' x) >>= fun y=>pure (Next.value y)):=by unfold execOp;simp only [ho]
 have hpure:∀ {nx},cT E A ρ o=some (nx,A')->Goal P nm K base φ A w (execOp ρ' o) nx A':=fun hh=>nD ok h o (fun y hy=>by
  rw [ho] at hy;simp [Op.operands] at hy;subst hy;exact hv) hh
 unfold df at hf
 split at hf
 ·rename_i e hs hd
  rw [hexec]
  split at hf
  ·rename_i he
   split at hf
   ·rename_i l hl
    cases hf
    rcases mX h hl hv with ⟨s,g1,g2,rfl⟩ | ⟨m,c,g1,g2,rfl⟩ | ⟨a,a',n,c,c',ns,g1,g2,g3,g4,g5⟩
    ·rw [g2]
     refine aN h (.str s) ?_
     have:mkStr s.data.toList=.string s:=by unfold mkStr;rw [mk_data]
     simp [convert,ok.run_und hs w,ok.run_und hd w]
    ·have:=qP (P:=P) h hl hv (by rw [g1];simp)
     rw [g2] at this ⊢
     refine aN h (.str _) ?_
     rw [run_convert_bytes_string w src dst e none m c (ok.und hs) (ok.und he) (ok.und hd)]
     exact this
    ·have:=qP (P:=P) h hl hv (by rw [g1];simp)
     rw [g2] at this ⊢
     refine aN h (.str _) ?_
     rw [run_convert_bytes_string w src dst e (some a') n c' (ok.und hs) (ok.und he) (ok.und hd)]
     exact this
   ·cases hf
  ·cases hf
 ·rename_i e s hs hd hx
  rw [hexec]
  rw [hx] at hv
  have hsv:=hv.str_inv
  rw [hsv]
  split at hf
  ·rename_i he
   cases hf
   have hge:=grownCap_ge w s.size 0 e
   obtain ⟨φ',g1,g2,g3⟩:=qW (e:=e) (cap:=grownCap w s.size 0 e) (fz:=(grownCap w s.size 0 e,grownCap w s.size 0 e+1)) (sb:=true) h
    (vs:=s.data.toList.map fun c=>.int .u8 c.toNat) (cvs:=s.data.toList.map fun c=>.int .u8 c.toNat) (pad:=Array.replicate (grownCap w s.size 0 e - s.size) (.int .u8 0)) (LR.map _ fun b _=>.int _ _) (by simpa using hge)
    (by simp;have:s.data.size=s.size:=rfl;omega) (fun j k1 k2=>k1) (by simp) (n:=s.size) (by simp)
   refine cf g1 (Nat.le_succ _) g2 g3 ?_
   have hconv:(convert src dst (.string s)).run P w=(Conv.stringToBytes e s).run P w:=by
    simp [convert,ok.run_und hs w,ok.run_und hd w,ok.run_und he w]
   rw [hconv]
   exact xX
  ·rename_i he
   cases hf
   obtain ⟨ns,hns⟩:=xY s s.size 0 #[] ⟨[],rfl⟩
   have harr:Conv.runesFrom s s.size 0 #[]=(ns.map (Value.int .i32)).toArray:=Array.ext' (by simpa using hns)
   rw [harr]
   have hge:=grownCap_ge w ns.length 0 e
   obtain ⟨φ',g1,g2,g3⟩:=qW (e:=e) (cap:=grownCap w ns.length 0 e) (fz:=(0,0)) (sb:=false) h
    (vs:=ns.map (Value.int .i32)) (cvs:=ns.map (Value.int .i32)) (pad:=Array.replicate (grownCap w ns.length 0 e - ns.length) (.int .i32 0)) (xZ ns .i32) (by simpa using hge)
    (by simp;omega) (fun j k1 k2=>by simp at k2) (by simp) (n:=(ns.map (Value.int .i32)).length) rfl
   refine cf g1 (Nat.le_succ _) g2 g3 ?_
   have hconv:(convert src dst (.string s)).run P w=(Conv.stringToRunes e s).run P w:=by
    simp [convert,ok.run_und hs w,ok.run_und hd w,ok.run_und he w]
   rw [hconv]
   simp only [Conv.stringToRunes,harr,List.size_toArray,List.length_map,Sem.run_bind,qV,Result.andThen_ok,newRow,m0,Sem.run_pure]
   rfl
  ·cases hf
 ·rename_i u a hs hd hx
  rw [hexec]
  rw [hx] at hv
  obtain ⟨p,hp,hsp,e⟩:=hv.ptr_inv
  rw [e]
  split at hf
  ·rename_i r hr
   split at hf
   ·rename_i hc
    simp only [Bool.and_eq_true,Bool.not_eq_true'] at hc
    obtain ⟨⟨hop,hsu⟩,hlies⟩:=hc
    cases hf
    obtain ⟨q,hq,⟨cs,fz,hrow⟩,_⟩:=h.obj a.block _ (dk hr) rfl
    rw [hp] at hq;cases hq
    obtain ⟨hoff,hsize⟩:=hrow.exact hop
    obtain ⟨n,hn⟩:=Option.isSome_iff_exists.1 hsu
    refine aN h (.ptr a p hp hsp) ?_
    have hsh:w.shape? p.blk=some (r.elem,cs.size):=by simp [World.shape?,hrow.blk]
    have hvar:(variablesAt ⟨p.blk,p.off+a.off,none⟩ u 1).run P w=.ok true w:=by
     rw [ok.prog,hsize] at hlies
     rw [hoff,Nat.zero_add]
     simp [variablesAt,hsh,hlies]
    simp [convert,ok.run_und hs w,ok.run_und hd w,Conv.unsafePointer,Conv.seenAt,viewAt,hsh,ok.run_size hn w,hvar]
   ·cases hf
  ·cases hf
 ·rename_i t a hs hd hx
  rw [hexec]
  rw [hx] at hv
  obtain ⟨p,hp,hsp,e⟩:=hv.ptr_inv
  rw [e]
  split at hf
  ·rename_i r n hr hn
   split at hf
   ·rename_i hc
    simp only [Bool.and_eq_true,Bool.not_eq_true',bne_iff_ne] at hc
    obtain ⟨⟨hop,hn0⟩,hlt⟩:=hc
    cases hf
    obtain ⟨q,hq,⟨cs,fz,hrow⟩,_⟩:=h.obj a.block _ (dk hr) rfl
    rw [hp] at hq;cases hq
    obtain ⟨hoff,hsize⟩:=hrow.exact hop
    refine aN h (.ptr a p hp hsp) ?_
    have hsh:w.shape? p.blk=some (r.elem,cs.size):=by simp [World.shape?,hrow.blk]
    have hlt':a.off < cs.size:=by
     rw [<- hsize];exact (by simpa using hlt)
    have hle:¬ (cs.size<=p.off+a.off):=by omega
    simp [convert,ok.run_und hs w,ok.run_und hd w,Conv.unsafePointer,Conv.seenAt,viewAt,cellsIn,hsh,ok.run_size hn w,hn0,hle]
   ·cases hf
  ·cases hf
 ·exact hpure hf
end
end Go.AM
namespace Go.AM
section
variable {E:Env} {P:Program} {nm:Nm} {K:Kp} {base:World} {φ:Emb} {A A':St} {w:World} {ρ ρ':Operand->Value} {nx:Nx}
theorem iU {s:Sem Next} (h:WR nm K base φ A w) (f:∃ v o,nx=.val (v A.next)/\A'={ A with next:=A.next+1,h:=A.h.set A.next (o A.next) }/\Fresh P nm φ w s v o):Goal P nm K base φ A w s nx A':=by
 obtain ⟨v,o,rfl,rfl,f⟩:=f
 exact f.goal h
theorem qX (ok:EnvOk E P nm) (h:WR nm K base φ A w) (o:Oper) (hρ:∀ x,x∈o.op.operands.toList->VR nm φ (ρ x) (ρ' x)) (hx:opD E A ρ o=some (nx,A')) :
  Goal P nm K base φ A w (execOp ρ' o) nx A':=by
 unfold opD at hx
 cases hop:o.op <;> simp only [hop] at hx
 case move x =>
  cases hx
  have e:execOp ρ' o=pure (Next.value (ρ' x)):=by unfold execOp;simp only [hop]
  rw [e];exact bY h (hρ x (by rw [hop];simp [Op.operands]))
 case assign x =>
  cases hx
  have e:execOp ρ' o=pure (Next.value (ρ' x)):=by unfold execOp;simp only [hop]
  rw [e];exact bY h (hρ x (by rw [hop];simp [Op.operands]))
 case pick c a b =>
  have e:execOp ρ' o=(asBool (ρ' c) >>= fun t=>pure (Next.value (if t then ρ' a else ρ' b))):=by unfold execOp;simp only [hop]
  rw [e];exact xz h c a b (hρ c (by rw [hop];simp [Op.operands])) (hρ a (by rw [hop];simp [Op.operands])) (hρ b (by rw [hop];simp [Op.operands])) hx
 case alloc t =>
  have e:execOp ρ' o=(Instr.alloc t true (.tuple #[]) >>= fun x=>pure (Next.value x)):=by unfold execOp;simp only [hop]
  rw [e];exact iU h (qu ok t hx)
 case box t x =>
  have e:execOp ρ' o=(Instr.box t (ρ' x) >>= fun x=>pure (Next.value x)):=by unfold execOp;simp only [hop]
  rw [e];exact iU h (qx t x (hρ x (by rw [hop];simp [Op.operands])) hx)
 case build t parts =>
  have e:execOp ρ' o=(Instr.build t (parts.map fun (i,x)=>(i,ρ' x)) >>= fun x=>pure (Next.value x)):=by unfold execOp;simp only [hop]
  rw [e];exact yG ok h t parts (fun x hm=>hρ x (by rw [hop];simpa [Op.operands] using hm)) hx
 case buildSlice t len parts =>
  have e:execOp ρ' o=(Instr.buildSlice t len (parts.map fun (i,x)=>(i,ρ' x)) >>= fun x=>pure (Next.value x)):=by unfold execOp;simp only [hop]
  rw [e];exact iU h (rC ok t len parts (fun x hm=>hρ x (by rw [hop];simpa [Op.operands] using hm)) hx)
 case load t a =>
  have e:execOp ρ' o=(Instr.loadAt t (ρ' a) >>= fun x=>pure (Next.value x)):=by unfold execOp;simp only [hop]
  rw [e];exact yA ok h t a (hρ a (by rw [hop];simp [Op.operands])) hx
 case store t a x =>
  have e:execOp ρ' o=(Instr.storeAt t (ρ' a) (ρ' x) >>= fun _=>pure Next.skip):=by unfold execOp;simp only [hop]
  rw [e];exact yB ok h t a x (hρ a (by rw [hop];simp [Op.operands])) (hρ x (by rw [hop];simp [Op.operands])) hx
 case nilCheck x=>exact yI ok h x (hρ x (by rw [hop];simp [Op.operands])) hx o hop
 case binOp op t x y u=>exact yK ok h o op t x y u hop hρ hx
 case unOp=>exact nD ok h o hρ hx
 case convert src dst x=>exact xa ok h src dst x hop (hρ x (by rw [hop];simp [Op.operands])) hx
 case makeInterface t x =>
  have e:execOp ρ' o=(Instr.makeInterface t (ρ' x) >>= fun x=>pure (Next.value x)):=by unfold execOp;simp only [hop]
  rw [e];exact yE ok h t x (hρ x (by rw [hop];simp [Op.operands])) hx
 case makeFunc fn first captured =>
  have e:execOp ρ' o=(Instr.makeFunc fn (first.map ρ') (captured.map ρ') >>= fun x=>pure (Next.value x)):=by unfold execOp;simp only [hop]
  rw [e]
  have h1:AR nm φ (first.map ρ) (first.map ρ'):=mZ _ _ _ fun x hm=>hρ x (by rw [hop];simp [Op.operands,hm])
  have h2:AR nm φ (captured.map ρ) (captured.map ρ'):=mZ _ _ _ fun x hm=>hρ x (by rw [hop];simp [Op.operands,hm])
  unfold kP at hx
  split at hx
  ·cases hx;exact bY h (.func' (.func _) h1 h2)
  ·cases hx;exact bY h (.func' (.method _) h1 h2)
  ·cases hx
 case makeMap t r =>
  have e:execOp ρ' o=(Instr.makeMap t (r.map ρ') >>= fun x=>pure (Next.value x)):=by unfold execOp;simp only [hop]
  rw [e];exact iU h (rE t r hx)
 case makeSlice t l c =>
  have e:execOp ρ' o=(Instr.makeSlice t (ρ' l) (ρ' c) >>= fun x=>pure (Next.value x)):=by unfold execOp;simp only [hop]
  rw [e];exact iU h (rD ok t l c (hρ l (by rw [hop];simp [Op.operands])) (hρ c (by rw [hop];simp [Op.operands])) hx)
 case slice t x lo hi mx =>
  have e:execOp ρ' o=(Instr.sliceAt t (ρ' x) (lo.map ρ') (hi.map ρ') (mx.map ρ') >>= fun x=>pure (Next.value x)):=by unfold execOp;simp only [hop]
  rw [e];exact yN ok h t x lo hi mx (hρ x (by rw [hop];simp [Op.operands])) (fun y hy=>hρ y (by rw [hop];simp [Op.operands,hy])) (fun y hy=>hρ y (by rw [hop];simp [Op.operands,hy])) (fun y hy=>hρ y (by rw [hop];simp [Op.operands,hy])) hx
 case fieldAddr s x f =>
  have e:execOp ρ' o=(Instr.fieldAt s (ρ' x) f >>= fun x=>pure (Next.value x)):=by unfold execOp;simp only [hop]
  rw [e];exact yO ok h s x f (hρ x (by rw [hop];simp [Op.operands])) hx
 case field t x f =>
  have e:execOp ρ' o=(Instr.field t (ρ' x) f >>= fun x=>pure (Next.value x)):=by unfold execOp;simp only [hop]
  rw [e];exact yC ok h t x f (hρ x (by rw [hop];simp [Op.operands])) hx
 case indexAddr t x ix =>
  have e:execOp ρ' o=(Instr.indexAt t (ρ' x) (ρ' ix) >>= fun x=>pure (Next.value x)):=by unfold execOp;simp only [hop]
  rw [e];exact yP ok h t x ix (hρ x (by rw [hop];simp [Op.operands])) (hρ ix (by rw [hop];simp [Op.operands])) hx
 case index t x ix =>
  have e:execOp ρ' o=(Instr.index t (ρ' x) (ρ' ix) >>= fun x=>pure (Next.value x)):=by unfold execOp;simp only [hop]
  rw [e];exact yR ok h t x ix (hρ x (by rw [hop];simp [Op.operands])) (hρ ix (by rw [hop];simp [Op.operands])) hx
 case lookup t m ix cok =>
  have e:execOp ρ' o=(Instr.lookup t (ρ' m) (ρ' ix) cok >>= fun x=>pure (Next.value x)):=by unfold execOp;simp only [hop]
  rw [e];exact wb ok h t m ix cok (hρ m (by rw [hop];simp [Op.operands])) (hρ ix (by rw [hop];simp [Op.operands])) hx
 case mapUpdate t m k x =>
  have e:execOp ρ' o=(Instr.mapUpdate t (ρ' m) (ρ' k) (ρ' x) >>= fun _=>pure Next.skip):=by unfold execOp;simp only [hop]
  rw [e];exact qG ok h t m k x (hρ m (by rw [hop];simp [Op.operands])) (hρ k (by rw [hop];simp [Op.operands])) (hρ x (by rw [hop];simp [Op.operands])) hx
 case insert t m k x =>
  have e:execOp ρ' o=(Instr.mapUpdate t (ρ' m) (ρ' k) (ρ' x) >>= fun _=>pure Next.skip):=by unfold execOp;simp only [hop]
  rw [e];exact qG ok h t m k x (hρ m (by rw [hop];simp [Op.operands])) (hρ k (by rw [hop];simp [Op.operands])) (hρ x (by rw [hop];simp [Op.operands])) hx
 case mapEntry t m k =>
  have e:execOp ρ' o=(Instr.mapEntry t (ρ' m) (ρ' k) >>= fun x=>pure (Next.value x)):=by unfold execOp;simp only [hop]
  rw [e];exact we ok h t m k (hρ m (by rw [hop];simp [Op.operands])) (hρ k (by rw [hop];simp [Op.operands])) hx
 case entryStore t m s x =>
  have e:execOp ρ' o=(Instr.entryStore t (ρ' m) (ρ' s) (ρ' x) >>= fun _=>pure Next.skip):=by unfold execOp;simp only [hop]
  rw [e];exact wg h t m s x (hρ m (by rw [hop];simp [Op.operands])) (hρ s (by rw [hop];simp [Op.operands])) (hρ x (by rw [hop];simp [Op.operands])) hx
 case range t x =>
  have e:execOp ρ' o=(Instr.range t (ρ' x) >>= fun x=>pure (Next.value x)):=by unfold execOp;simp only [hop]
  rw [e];exact wh ok h t x (hρ x (by rw [hop];simp [Op.operands])) hx
 case next it isStr =>
  have e:execOp ρ' o=(Instr.next (ρ' it) isStr o.type >>= fun x=>pure (Next.value x)):=by unfold execOp;simp only [hop]
  rw [e];exact wj h o.type it isStr (hρ it (by rw [hop];simp [Op.operands])) hx
 case entry it =>
  have e:execOp ρ' o=(Instr.entry (ρ' it) >>= fun x=>pure (Next.value x)):=by unfold execOp;simp only [hop]
  rw [e];exact wm h it (hρ it (by rw [hop];simp [Op.operands])) hx
 case typeAssert x xt t cok =>
  have e:execOp ρ' o=(Instr.typeAssert (ρ' x) xt t cok >>= fun x=>pure (Next.value x)):=by unfold execOp;simp only [hop]
  rw [e];exact xV ok h x xt t cok (hρ x (by rw [hop];simp [Op.operands])) hx
 case extract t i =>
  have e:execOp ρ' o=(Instr.extract (ρ' t) i >>= fun x=>pure (Next.value x)):=by unfold execOp;simp only [hop]
  rw [e];exact yD h t i (hρ t (by rw [hop];simp [Op.operands])) hx
 case call c=>exact xS ok h hop (fun x hm=>hρ x (by rw [hop];exact hm)) hx
 case defer c=>exact xT h hop (fun x hm=>hρ x (by rw [hop];simpa [Op.operands] using hm)) hx
 case panic x =>
  have e:execOp ρ' o=(Instr.panic (ρ' x) >>= fun x=>pure (Next.value x)):=by unfold execOp;simp only [hop]
  rw [e];exact xU h (hρ x (by rw [hop];simp [Op.operands])) hx
 all_goals cases hx
theorem xb (ok:EnvOk E P nm) (o:Oper) (hal:bP o=true) (hρ:∀ x,x∈o.op.operands.toList->VR nm φ (ρ x) (ρ' x)) (hx:opD E A ρ o=some (nx,A')) :
  ∃ v u,nx=.val (v A.next)/\A'={ A with next:=A.next+1,h:=A.h.set A.next (u A.next) }/\Fresh P nm φ w (execOp ρ' o) v u:=by
 unfold opD at hx
 unfold bP at hal
 cases hop:o.op <;> simp only [hop] at hx hal <;> first | (cases hal;done) | skip
 case alloc t =>
  have e:execOp ρ' o=(Instr.alloc t true (.tuple #[]) >>= fun x=>pure (Next.value x)):=by unfold execOp;simp only [hop]
  rw [e];exact qu ok t hx
 case box t x =>
  have e:execOp ρ' o=(Instr.box t (ρ' x) >>= fun x=>pure (Next.value x)):=by unfold execOp;simp only [hop]
  rw [e];exact qx t x (hρ x (by rw [hop];simp [Op.operands])) hx
 case buildSlice t len parts =>
  have e:execOp ρ' o=(Instr.buildSlice t len (parts.map fun (i,x)=>(i,ρ' x)) >>= fun x=>pure (Next.value x)):=by unfold execOp;simp only [hop]
  rw [e];exact rC ok t len parts (fun x hm=>hρ x (by rw [hop];simpa [Op.operands] using hm)) hx
 case makeMap t r =>
  have e:execOp ρ' o=(Instr.makeMap t (r.map ρ') >>= fun x=>pure (Next.value x)):=by unfold execOp;simp only [hop]
  rw [e];exact rE t r hx
 case makeSlice t l c =>
  have e:execOp ρ' o=(Instr.makeSlice t (ρ' l) (ρ' c) >>= fun x=>pure (Next.value x)):=by unfold execOp;simp only [hop]
  rw [e];exact rD ok t l c (hρ l (by rw [hop];simp [Op.operands])) (hρ c (by rw [hop];simp [Op.operands])) hx
end
end Go.AM
namespace Go.AM
section
variable {E:Env} {P:Program} {nm:Nm} {K:Kp} {base:World} {φ ψ:Emb} {A A':St} {w:World}
inductive MR (nm:Nm) (φ:Emb):List DI->List Deferred->Prop where
 | nil:MR nm φ [] []
 | cons (m:Nat) (p:Pl) (ms:List DI) (ds:List Deferred):φ m=some p->MR nm φ ms ds->MR nm φ (.mark m::ms) ({ target:=.collected p.blk,args:=#[] }::ds)
 | fn (g:FuncId) (cap args:List Value) (cap' args':Array Value) (ms:List DI) (ds:List Deferred):LR nm φ cap cap'.toList->LR nm φ args args'.toList->MR nm φ ms ds ->
   MR nm φ (.fn g cap args::ms) ({ target:=.fn (.func g) cap',args:=args' }::ds)
theorem MR.mono (h:φ.le ψ) {ms:List DI} {ds:List Deferred} (r:MR nm φ ms ds):MR nm ψ ms ds:=by
 induction r with
 | nil=>exact .nil
 | cons m p ms ds h1 _ ih=>exact .cons m p ms ds (h _ _ h1) ih
 | fn g cap args cap' args' ms ds h1 h2 _ ih=>exact .fn g cap args cap' args' ms ds (h1.mono h) (h2.mono h) ih
inductive ChR (nm:Nm) (φ:Emb):List PE->List PanicEntry->Prop where
 | nil:ChR nm φ [] []
 | cons (v v':Value) (re:Bool) (l:List PE) (l':List PanicEntry):VR nm φ v v'->ChR nm φ l l'->ChR nm φ (⟨v,re⟩::l) ({ v:=v',recovered:=re }::l')
theorem ChR.mono (h:φ.le ψ) {l:List PE} {l':List PanicEntry} (r:ChR nm φ l l'):ChR nm ψ l l':=by
 induction r with
 | nil=>exact .nil
 | cons v v' re l l' h1 _ ih=>exact .cons v v' re l l' (h1.mono h) ih
structure FrR (nm:Nm) (φ:Emb) (nt:Nat) (fr:Fr) (a:Act):Prop where
 size:a.tmps.size=nt
 tm:∀ t,VR nm φ ((fr.tm.get t).getD undef) (a.tmps.getD t undef)
 marks:MR nm φ fr.marks a.defers
theorem FrR.mono (h:φ.le ψ) {nt:Nat} {fr:Fr} {a:Act} (r:FrR nm φ nt fr a):FrR nm ψ nt fr a:=⟨r.size,fun t=>(r.tm t).mono h,r.marks.mono h⟩
def Gl (E:Env) (φ:Emb):Prop:=∀ g,g < E.ng->∃ p,φ g=some p/\p.blk=g/\p.off=0
theorem Gl.mono (h:φ.le ψ) (r:Gl E φ):Gl E ψ:=fun g hg=>let ⟨p,h1,h2⟩:=r g hg;⟨p,h _ _ h1,h2⟩
theorem m5 {nt:Nat} {fr:Fr} {a:Act} (hf:FrR nm φ nt fr a) (hg:Gl E φ) (x:Operand) (hx:dh E x=true):VR nm φ (aD fr x) (a.eval x):=by
 cases x with
 | tmp t=>exact hf.tm t
 | const v=>exact .of_plainV hx
 | global g =>
  obtain ⟨p,h1,h2,h3⟩:=hg g (by simpa [dh] using hx)
  have:=VR.ptr (nm:=nm) (φ:=φ) ⟨g,0,none⟩ p h1 rfl
  simpa [aD,Act.eval,h2,h3] using this
 | func f=>exact .func' (.func f) .nil .nil
theorem m6 (ok:EnvOk E P nm) (h:WR nm K base φ A w) (hg:Gl E φ) {nt:Nat} {fr:Fr} {a:Act} (hf:FrR nm φ nt fr a) {o:Oper} {nx:Nx} (hx:opX E A (aD fr) o=some (nx,A')) :
  Goal P nm K base φ A w (execOp a.eval o) nx A':=by
 unfold opX at hx
 split at hx
 ·rename_i hl
  exact qX ok h o (fun x hm=>m5 hf hg x (List.all_eq_true.1 hl x hm)) hx
 ·cases hx
theorem FrR.put {nt:Nat} {fr fr':Fr} {a:Act} (hf:FrR nm φ nt fr a) {d:Option Tmp} {v v':Value} (hv:VR nm φ v v') (hp:Fr.put nt fr d v=some fr'):FrR nm φ nt fr' (a.put d v'):=by
 unfold Fr.put at hp
 cases d with
 | none=>cases hp;exact hf
 | some d =>
  simp only [] at hp
  split at hp
  ·rename_i hd
   cases hp
   have hlt:d < a.tmps.size:=by rw [hf.size];simpa using hd
   refine ⟨by simp [Act.put,hf.size],fun t=>?_,hf.marks⟩
   by_cases e:t=d
   ·subst e
    have e1:(a.put (some t) v').tmps.getD t undef=v':=by
     show (a.tmps.setIfInBounds t v').getD t undef=v'
     simp [Array.getD_eq_getD_getElem?,hlt]
    have e2:(({ fr with tm:=fr.tm.set t v }:Fr).tm.get t).getD undef=v:=by
     show ((fr.tm.set t v).get t).getD undef=v
     rw [T.get_set_same];rfl
    rw [e1,e2]
    exact hv
   ·have e1:(a.put (some d) v').tmps.getD t undef=a.tmps.getD t undef:=by
     show (a.tmps.setIfInBounds d v').getD t undef=_
     simp [Array.getD_eq_getD_getElem?,Ne.symm e]
    have e2:(({ fr with tm:=fr.tm.set d v }:Fr).tm.get t).getD undef=(fr.tm.get t).getD undef:=by
     show ((fr.tm.set d v).get t).getD undef=_
     rw [T.get_set_other _ _ e]
    rw [e1,e2]
    exact hf.tm t
  ·cases hp
theorem m7 {nt:Nat} {fr:Fr} {a:Act} (hf:FrR nm φ nt fr a) (ops:Array Oper) (o:Oper):Region.wanted o (yielded ops a.tmps)=az ops o fr:=by
 unfold Region.wanted az
 cases hgd:o.guard with
 | none=>rfl
 | some g =>
  obtain ⟨j,want⟩:=g
  simp only []
  unfold yielded
  cases hd:(ops[j]?).bind (·.dst) with
  | none=>rfl
  | some t =>
   simp only [Option.bind_some]
   have ht:=hf.tm t
   cases h1:fr.tm.get t with
   | none =>
    rw [h1] at ht
    simp only [Option.getD_none] at ht
    cases h2:a.tmps[t]? with
    | none=>rfl
    | some c =>
     have:a.tmps.getD t undef=c:=by rw [Array.getD_eq_getD_getElem?,h2];rfl
     rw [this] at ht
     cases ht
     rfl
   | some v =>
    rw [h1] at ht
    simp only [Option.getD_some] at ht
    cases h2:a.tmps[t]? with
    | none =>
     have:a.tmps.getD t undef=undef:=by rw [Array.getD_eq_getD_getElem?,h2];rfl
     rw [this] at ht
     cases ht
     rfl
    | some c =>
     have:a.tmps.getD t undef=c:=by rw [Array.getD_eq_getD_getElem?,h2];rfl
     rw [this] at ht
     cases ht <;> first | rfl | (simp only [];cases want <;> rename_i b <;> cases b <;> rfl)
def b7 (E:Env) (P:Program) (nm:Nm) (call:FuncId->List Value->St->Option (Value×St)):Prop :=
 ∀ f args A v A',call f args A=some (v,A')->∀ (K:Kp) (base:World) (φ:Emb) (w:World) (args':Array Value),WR nm K base φ A w->Gl E φ->LR nm φ args args'.toList ->
  Calls P f args' w fun e w'=>∃ φ' v',Emb.ext A.next φ φ'/\A.next<=A'.next/\WR nm K base φ' A' w'/\VR nm φ' v v'/\e=.returned v'
def iV (E:Env) (P:Program) (nm:Nm) (call:FuncId->List Value->St->Option (List PE×St)):Prop :=
 ∀ f args A ch A',call f args A=some (ch,A')->∀ (K:Kp) (base:World) (φ:Emb) (w:World) (args':Array Value),WR nm K base φ A w->Gl E φ->LR nm φ args args'.toList ->
  Calls P f args' w fun e w'=>∃ φ' ch',Emb.ext A.next φ φ'/\A.next<=A'.next/\WR nm K base φ' A' w'/\ChR nm φ' ch ch'/\e=.panicked ch'
structure Aft (nm:Nm) (K:Kp) (base:World) (φ:Emb) (A:St) (nt:Nat) (fr':Fr) (A':St) (a':Act) (w':World):Prop where
 ex:∃ φ',Emb.ext A.next φ φ'/\A.next<=A'.next/\WR nm K base φ' A' w'/\FrR nm φ' nt fr' a'
theorem fY {nt:Nat} {fr fr1:Fr} {d:Option Tmp} {v:Value} {A1:St} (h:cV nt fr d v A=some (fr1,A1)):Fr.put nt fr d v=some fr1/\A1=A:=by
 unfold cV at h
 split at h
 ·rename_i f hf;cases h;exact ⟨hf,rfl⟩
 ·cases h
theorem qY (ok:EnvOk E P nm) (h:WR nm K base φ A w) {fr:Fr} {a:Act} {o:Oper} {nx:Nx} (hρ:∀ x,x∈o.op.operands.toList->dh E x=true->VR nm φ (aD fr x) (a.eval x)) (hx:opX E A (aD fr) o=some (nx,A')) :
  Goal P nm K base φ A w (execOp a.eval o) nx A':=by
 unfold opX at hx
 split at hx
 ·rename_i hl
  exact qX ok h o (fun x hm=>hρ x hm (List.all_eq_true.1 hl x hm)) hx
 ·cases hx
theorem qZ (ok:EnvOk E P nm) {rec_:Rec} (hc:b7 E P nm rec_.call) (h:WR nm K base φ A w) (hg:Gl E φ) {nt:Nat} {fr fr1:Fr} {a:Act} {o:Oper} {A1:St}
  (hρ:∀ x,x∈o.op.operands.toList->dh E x=true->VR nm φ (aD fr x) (a.eval x))
  (hx:bL E rec_ nt o fr A=some (fr1,A1)) {next:Act->World->Prop} {Q:Exit->Act->World->Prop}
  (hnext:∀ v v' φ' w',Emb.ext A.next φ φ'->A.next<=A1.next->WR nm K base φ' A1 w'->VR nm φ' v v'->Fr.put nt fr o.dst v=some fr1->next (a.put o.dst v') w'):o.wp P a w next Q:=by
 unfold bL at hx
 split at hx
 ·cases hx
 rename_i nx A2 hop
 obtain ⟨φ',w',g1,g2,g3,g4⟩:=qY ok h hρ hop
 have hle:=h.le g1
 unfold Oper.wp
 unfold cE at hx
 split at hx
 ·rename_i v
  obtain ⟨v',k1,k2⟩:=g4
  obtain ⟨hp,rfl⟩:=fY hx
  rw [k2]
  exact hnext v v' φ' w' g1 g2 g3 k1 hp
 ·obtain ⟨hp,rfl⟩:=fY hx
  have k2:(execOp a.eval o).run P w=.ok .skip w':=g4
  rw [k2]
  exact hnext undef undef φ' w' g1 g2 g3 .undef hp
 ·rename_i f args
  obtain ⟨args',k1,k2,_⟩:=g4
  rw [k2]
  unfold di at hx
  split at hx
  ·rename_i v A3 hcall
   obtain ⟨hp,rfl⟩:=fY hx
   refine Calls.mono (hc f args A2 v A1 hcall K base φ' w' args' g3 (hg.mono hle) k1) ?_
   rintro e w'' ⟨φ'',v',e1,e2,e3,e4,rfl⟩
   exact hnext v v' φ'' w'' (Emb.ext_trans g1 e1 g2) (Nat.le_trans g2 e2) e3 e4 hp
  ·cases hx
 ·cases hx
theorem xd (ok:EnvOk E P nm) {rec_:Rec} (hc:b7 E P nm rec_.call) (h:WR nm K base φ A w) (hg:Gl E φ) {nt:Nat} {fr fr1:Fr} {a:Act} (hf:FrR nm φ nt fr a) {o:Oper} {A1:St}
  (hx:bL E rec_ nt o fr A=some (fr1,A1)) {next:Act->World->Prop} {Q:Exit->Act->World->Prop} (hnext:∀ a1 w1,Aft nm K base φ A nt fr1 A1 a1 w1->next a1 w1):o.wp P a w next Q :=
 qZ ok hc h hg (fun x _ hl=>m5 hf hg x hl) hx fun _ _ φ' _ e1 e2 e3 e4 e5=>hnext _ _ ⟨φ',e1,e2,e3,(hf.mono (h.le e1)).put e4 e5⟩
theorem xe (ok:EnvOk E P nm) (h:WR nm K base φ A w) (hg:Gl E φ) {nt:Nat} {fr fr1:Fr} {a:Act} (hf:FrR nm φ nt fr a) {o:Oper} {A1:St}
  (hx:gg E nt o fr A=some (fr1,A1)) {next:Act->World->Prop} {Q:Exit->Act->World->Prop} (hnext:∀ a1 w1,Aft nm K base φ A nt fr1 A1 a1 w1->next a1 w1):o.wp P a w next Q:=by
 unfold gg at hx
 split at hx
 ·rename_i d A2 hop
  split at hx
  ·rename_i g cap htar
   obtain ⟨φ',w',g1,g2,g3,d',k1,k2⟩:=m6 ok h hg hf hop
   obtain ⟨hp,rfl⟩:=fY hx
   unfold Oper.wp
   rw [k2]
   refine hnext _ _ ⟨φ',g1,g2,g3,?_⟩
   have hf':=hf.mono (h.le g1)
   obtain ⟨t',as'⟩:=d'
   have ht:=k1.target
   rw [htar] at ht
   cases ht with
   | fn f f' c c' h1 h2 =>
    cases h1
    exact FrR.put (fr:={ fr with marks:=.fn g cap.toList d.args.toList::fr.marks }) (a:={ a with defers:=_::a.defers }) ⟨hf'.size,hf'.tm,.fn g _ _ _ _ _ _ h2 k1.args hf'.marks⟩ .undef hp
  ·cases hx
 ·cases hx
theorem m8 (ok:EnvOk E P nm) {rec_:Rec} (hc:b7 E P nm rec_.call) (h:WR nm K base φ A w) (hg:Gl E φ) {nt:Nat} {fr fr1:Fr} {a:Act} (hf:FrR nm φ nt fr a) {o:Oper} {A1:St}
  (hx:dF E rec_ nt o fr A=some (fr1,A1)) {next:Act->World->Prop} {Q:Exit->Act->World->Prop} (hnext:∀ a1 w1,Aft nm K base φ A nt fr1 A1 a1 w1->next a1 w1):o.wp P a w next Q:=by
 unfold dF at hx
 split at hx
 ·rename_i r hd
  cases hx
  exact xd ok hc h hg hf hd hnext
 ·exact xe ok h hg hf hx hnext
theorem xg (ok:EnvOk E P nm) {rec_:Rec} (hc:iV E P nm rec_.callP) (h:WR nm K base φ A w) (hg:Gl E φ) {nt:Nat} {fr:Fr} {a:Act} (hf:FrR nm φ nt fr a) {o:Oper} {ch:List PE} {A1:St}
  (hx:iy E rec_ o fr A=some (ch,A1)) {next:Act->World->Prop} {Q:Exit->Act->World->Prop}
  (hQ:∀ φ' ch' w',Emb.ext A.next φ φ'->A.next<=A1.next->WR nm K base φ' A1 w'->ChR nm φ' ch ch'->Q (.panic ch') a w'):o.wp P a w next Q:=by
 unfold iy at hx
 split at hx
 ·rename_i v A2 hop
  cases hx
  obtain ⟨φ',w',g1,g2,g3,v',k1,k2⟩:=m6 ok h hg hf hop
  unfold Oper.wp
  rw [k2]
  exact hQ φ' _ w' g1 g2 g3 (.cons v v' false [] [] k1 .nil)
 ·rename_i f args A2 hop
  obtain ⟨φ',w',g1,g2,g3,args',k1,k2,_⟩:=m6 ok h hg hf hop
  unfold Oper.wp
  rw [k2]
  refine Calls.mono (hc f args A2 ch A1 hx K base φ' w' args' g3 (hg.mono (h.le g1)) k1) ?_
  rintro e w'' ⟨φ'',ch',e1,e2,e3,e4,rfl⟩
  exact hQ φ'' ch' w'' (Emb.ext_trans g1 e1 g2) (Nat.le_trans g2 e2) e3 e4
 ·cases hx
theorem xh (ok:EnvOk E P nm) {rec_:Rec} (hc:b7 E P nm rec_.call) {nt:Nat} {ops:Array Oper} {Q:Exit->Act->World->Prop}:∀ (os:List Oper) (i:Nat) (φ:Emb) (A:St) (w:World) (fr fr1:Fr) (A1:St) (a:Act),
  ops.toList.drop i=os->WR nm K base φ A w->Gl E φ->FrR nm φ nt fr a->dj E rec_ nt ops os fr A=some (fr1,A1) ->
  (∀ a1 w1,Aft nm K base φ A nt fr1 A1 a1 w1->Q .normal a1 w1)->wpOps P ops Q (List.range' i os.length) a w:=by
 intro os
 induction os with
 | nil =>
  intro i φ A w fr fr1 A1 a hd h hg hf hx hQ
  simp only [dj,Option.some.injEq,Prod.mk.injEq] at hx
  obtain ⟨rfl,rfl⟩:=hx
  exact hQ _ _ ⟨φ,Emb.ext_refl _ _,Nat.le_refl _,h,hf⟩
 | cons o os ih =>
  intro i φ A w fr fr1 A1 a hd h hg hf hx hQ
  have hi:ops[i]? = some o:=by
   have:(ops.toList.drop i)[0]? = some o:=by rw [hd];rfl
   simpa using this
  have hd':ops.toList.drop (i+1)=os:=by
   have:(ops.toList.drop i).drop 1=os:=by rw [hd];rfl
   simpa [List.drop_drop] using this
  simp only [List.length_cons,List.range'_succ,wpOps,hi]
  rw [m7 hf ops o]
  unfold dj at hx
  split at hx
  ·rename_i hgo
   rw [if_pos hgo]
   left
   split at hx
   ·rename_i fr2 A2 hop
    refine m8 ok hc h hg hf hop ?_
    rintro a1 w1 ⟨φ',e1,e2,e3,e4⟩
    refine ih (i+1) φ' A2 w1 fr2 fr1 A1 a1 hd' e3 (hg.mono (h.le e1)) e4 hx ?_
    rintro a2 w2 ⟨φ'',k1,k2,k3,k4⟩
    exact hQ _ _ ⟨φ'',Emb.ext_trans e1 k1 e2,Nat.le_trans e2 k2,k3,k4⟩
   ·cases hx
  ·rename_i hgo
   rw [if_neg hgo]
   split at hx
   ·rename_i fr2 hp
    exact ih (i+1) φ A w fr2 fr1 A1 _ hd' h hg (hf.put .undef hp) hx hQ
   ·cases hx
theorem xi {o:Oper} {a:Act} {n:Act->World->Prop} {Q:Exit->Act->World->Prop} {X:World->Prop} (h:o.wp P a w n Q):(match (execOp a.eval o).run P w with
  | .ok .recover w'=>X w'
  | r=>o.upon P a n Q r):=by
 unfold Oper.wp at h
 split
 ·rename_i hr
  rw [hr] at h
  exact h.elim
 ·exact h
theorem xk (ok:EnvOk E P nm) {rec_:Rec} (hc:b7 E P nm rec_.call) {nt:Nat} {ops:Array Oper} {cs:List Frame} {Q:Exit->Act->List Frame->World->Prop}:∀ (os:List Oper) (i:Nat) (φ:Emb) (A:St) (w:World) (fr fr1:Fr) (A1:St) (a:Act),
  ops.toList.drop i=os->WR nm K base φ A w->Gl E φ->FrR nm φ nt fr a->dj E rec_ nt ops os fr A=some (fr1,A1) ->
  (∀ a1 w1,Aft nm K base φ A nt fr1 A1 a1 w1->Q .normal a1 cs w1)->wpOpsS P ops Q (List.range' i os.length) a cs w:=by
 intro os
 induction os with
 | nil =>
  intro i φ A w fr fr1 A1 a hd h hg hf hx hQ
  simp only [dj,Option.some.injEq,Prod.mk.injEq] at hx
  obtain ⟨rfl,rfl⟩:=hx
  exact hQ _ _ ⟨φ,Emb.ext_refl _ _,Nat.le_refl _,h,hf⟩
 | cons o os ih =>
  intro i φ A w fr fr1 A1 a hd h hg hf hx hQ
  have hi:ops[i]? = some o:=by
   have:(ops.toList.drop i)[0]? = some o:=by rw [hd];rfl
   simpa using this
  have hd':ops.toList.drop (i+1)=os:=by
   have:(ops.toList.drop i).drop 1=os:=by rw [hd];rfl
   simpa [List.drop_drop] using this
  simp only [List.length_cons,List.range'_succ,wpOpsS,hi]
  rw [m7 hf ops o]
  unfold dj at hx
  split at hx
  ·rename_i hgo
   rw [if_pos hgo]
   split at hx
   ·rename_i fr2 A2 hop
    refine xi (m8 ok hc h hg hf hop ?_)
    rintro a1 w1 ⟨φ',e1,e2,e3,e4⟩
    refine ih (i+1) φ' A2 w1 fr2 fr1 A1 a1 hd' e3 (hg.mono (h.le e1)) e4 hx ?_
    rintro a2 w2 ⟨φ'',k1,k2,k3,k4⟩
    exact hQ _ _ ⟨φ'',Emb.ext_trans e1 k1 e2,Nat.le_trans e2 k2,k3,k4⟩
   ·cases hx
  ·rename_i hgo
   rw [if_neg hgo]
   split at hx
   ·rename_i fr2 hp
    exact ih (i+1) φ A w fr2 fr1 A1 _ hd' h hg (hf.put .undef hp) hx hQ
   ·cases hx
theorem xl (ok:EnvOk E P nm) {rec_:Rec} (hc:b7 E P nm rec_.call) (hcp:iV E P nm rec_.callP) {nt:Nat} {ops:Array Oper} {Q:Exit->Act->World->Prop} {ch:List PE}:∀ (os:List Oper) (i:Nat) (φ:Emb) (A:St) (w:World) (fr fr1:Fr) (A1:St) (a:Act),
  ops.toList.drop i=os->WR nm K base φ A w->Gl E φ->FrR nm φ nt fr a->gi E rec_ nt ops os fr A=some (ch,fr1,A1) ->
  (∀ φ' ch' a1 w1,Emb.ext A.next φ φ'->A.next<=A1.next->WR nm K base φ' A1 w1->FrR nm φ' nt fr1 a1->ChR nm φ' ch ch'->Q (.panic ch') a1 w1)->wpOps P ops Q (List.range' i os.length) a w:=by
 intro os
 induction os with
 | nil =>
  intro i φ A w fr fr1 A1 a hd h hg hf hx hQ
  cases hx
 | cons o os ih =>
  intro i φ A w fr fr1 A1 a hd h hg hf hx hQ
  have hi:ops[i]? = some o:=by
   have:(ops.toList.drop i)[0]? = some o:=by rw [hd];rfl
   simpa using this
  have hd':ops.toList.drop (i+1)=os:=by
   have:(ops.toList.drop i).drop 1=os:=by rw [hd];rfl
   simpa [List.drop_drop] using this
  simp only [List.length_cons,List.range'_succ,wpOps,hi]
  rw [m7 hf ops o]
  unfold gi at hx
  split at hx
  ·rename_i hgo
   rw [if_pos hgo]
   left
   split at hx
   ·rename_i fr2 A2 hop
    refine m8 ok hc h hg hf hop ?_
    rintro a1 w1 ⟨φ',e1,e2,e3,e4⟩
    refine ih (i+1) φ' A2 w1 fr2 fr1 A1 a1 hd' e3 (hg.mono (h.le e1)) e4 hx ?_
    intro φ'' ch' a2 w2 k1 k2 k3 k4 k5
    exact hQ φ'' ch' a2 w2 (Emb.ext_trans e1 k1 e2) (Nat.le_trans e2 k2) k3 k4 k5
   ·split at hx
    ·rename_i ch2 A2 hpan
     cases hx
     refine xg ok hcp h hg hf hpan ?_
     intro φ' ch' w' e1 e2 e3 e4
     exact hQ φ' ch' a w' e1 e2 e3 (hf.mono (h.le e1)) e4
    ·cases hx
  ·rename_i hgo
   rw [if_neg hgo]
   split at hx
   ·rename_i fr2 hp
    exact ih (i+1) φ A w fr2 fr1 A1 _ hd' h hg (hf.put .undef hp) hx hQ
   ·cases hx
end
end Go.AM
namespace Go.AM
theorem m9 {n:Nat} (ih:∀ a b,veq n a b=true->a=b):∀ (a b:List Value),a.length=b.length->(a.zip b).all (fun p=>veq n p.1 p.2)=true->a=b
 | [],[],_,_=>rfl
 | [],_::_,h,_=>by simp at h
 | _::_,[],h,_=>by simp at h
 | x::a,y::b,h,g=>by
  simp only [List.zip_cons_cons,List.all_cons,Bool.and_eq_true] at g
  rw [ih x y g.1,m9 ih a b (by simpa using h) g.2]
theorem jx {n:Nat} (ih:∀ a b,veq n a b=true->a=b) (a b:Array Value) (h:(a.size==b.size&&(a.toList.zip b.toList).all fun p=>veq n p.1 p.2)=true):a=b:=by
 simp only [Bool.and_eq_true,beq_iff_eq] at h
 apply Array.ext'
 exact m9 ih _ _ (by simpa using h.1) h.2
theorem q7 {a b:ByteArray} (h:a.data.toList=b.data.toList):a=b:=by
 cases a;cases b
 congr 1
 exact Array.ext' h
theorem gQ:∀ (n:Nat) (a b:Value),veq n a b=true->a=b:=by
 intro n
 induction n with
 | zero =>
  intro a b h
  cases a <;> cases b <;> first | (simp [veq] at h;done) | skip
  case bool=>simp [veq] at h;rw [h]
  case int=>simp [veq] at h;rw [h.1,h.2]
  case string x y=>simp only [veq,decide_eq_true_eq] at h;rw [q7 h]
  case pointer x y=>cases x <;> cases y <;> simp [veq] at h <;> first | rfl | rw [h]
  case slice x l c y m d=>cases x <;> cases y <;> simp [veq] at h <;> first | (rw [h.1,h.2];done) | (obtain ⟨⟨h1,h2⟩,h3⟩:=h;rw [h1,h2,h3])
  case map x y=>cases x <;> cases y <;> simp [veq] at h <;> first | rfl | rw [h]
  case nilFunc=>rfl
  case nilIface=>rfl
 | succ n ih =>
  intro a b h
  cases a <;> cases b <;> first | (simp [veq] at h;done) | skip
  case bool=>simp [veq] at h;rw [h]
  case int=>simp [veq] at h;rw [h.1,h.2]
  case string x y=>simp only [veq,decide_eq_true_eq] at h;rw [q7 h]
  case pointer x y=>cases x <;> cases y <;> simp [veq] at h <;> first | rfl | rw [h]
  case slice x l c y m d=>cases x <;> cases y <;> simp [veq] at h <;> first | (rw [h.1,h.2];done) | (obtain ⟨⟨h1,h2⟩,h3⟩:=h;rw [h1,h2,h3])
  case map x y=>cases x <;> cases y <;> simp [veq] at h <;> first | rfl | rw [h]
  case nilFunc=>rfl
  case nilIface=>rfl
  case iface t v u w =>
   simp only [veq,Bool.and_eq_true,decide_eq_true_eq] at h
   rw [h.1,ih _ _ h.2]
  case agg x y=>simp only [veq] at h;rw [jx ih x y h]
  case tuple x y=>simp only [veq] at h;rw [jx ih x y h]
  case func f x c g y d =>
   simp only [veq] at h
   rw [Bool.and_eq_true,Bool.and_eq_true] at h
   obtain ⟨⟨h1,h2⟩,h3⟩:=h
   rw [jx ih x y h2,jx ih c d h3,of_decide_eq_true h1]
section
variable {E:Env} {A A':St} {ρ:Operand->Value} {nx:Nx}
theorem ma {o:Oper} (h:cT E A ρ o=some (nx,A')):A'=A:=by
 unfold cT at h
 repeat' split at h
 all_goals first | (cases h;done) | (cases h;rfl)
theorem q8 {o : Oper} (hf:cF E o=true) (h:opX E A ρ o=some (nx,A')):A'=A:=by
 unfold opX at h
 split at h
 case isFalse=>cases h
 unfold opD at h
 unfold cF at hf
 cases hop:o.op <;> simp only [hop] at h hf <;> first | (cases hf;done) | skip
 case move=>cases h;rfl
 case assign=>cases h;rfl
 case pick => unfold gW at h;repeat' split at h
              all_goals first | (cases h;done) | (cases h;rfl)
 case build => unfold ed at h;repeat' split at h
               all_goals first | (cases h;done) | (cases h;rfl)
 case load => unfold gX at h;repeat' split at h
              all_goals first | (cases h;done) | (cases h;rfl)
 case nilCheck => unfold ff at h;repeat' split at h
                  all_goals first | (cases h;done) | (cases h;rfl)
 case binOp =>
  unfold dE at h
  split at h
  ·cases h;rfl
  ·split at h
   ·rename_i r hr
    cases h
    exact ma hr
   ·repeat' split at h
    all_goals first | (cases h;done) | (cases h;rfl)
 case unOp=>exact ma h
 case convert src dst x =>
  unfold df at h
  split at h
  ·repeat' split at h
   all_goals first | (cases h;done) | (cases h;rfl)
  ·rename_i hd hx
   rw [hd] at hf
   cases hf
  ·repeat' split at h
   all_goals first | (cases h;done) | (cases h;rfl)
  ·repeat' split at h
   all_goals first | (cases h;done) | (cases h;rfl)
  ·exact ma h
 case makeInterface => unfold ic at h;repeat' split at h
                       all_goals first | (cases h;done) | (cases h;rfl)
 case makeFunc => unfold kP at h;repeat' split at h
                  all_goals first | (cases h;done) | (cases h;rfl)
 case slice => unfold gY at h;repeat' split at h
               all_goals first | (cases h;done) | (cases h;rfl)
 case fieldAddr => unfold ie at h;repeat' split at h
                   all_goals first | (cases h;done) | (cases h;rfl)
 case field => unfold gZ at h;repeat' split at h
               all_goals first | (cases h;done) | (cases h;rfl)
 case indexAddr => unfold gf at h;repeat' split at h
                   all_goals first | (cases h;done) | (cases h;rfl)
 case index => unfold ig at h;repeat' split at h
               all_goals first | (cases h;done) | (cases h;rfl)
 case lookup =>
  unfold ij at h
  split at h
  case h_2=>cases h
  split at h
  case h_2=>cases h
  split at h
  case isFalse=>cases h
  simp only [] at h
  generalize (match ρ _ with
   | .map none=>some []
   | .map (some r)=>match A.h.get r with
    | some (.map es _)=>some es
    | _=>none
   | _=>none:Option (List MapEntry))=es at h
  repeat' split at h
  all_goals first | (cases h;done) | (cases h;rfl)
 case typeAssert => unfold iq at h;repeat' split at h
                    all_goals first | (cases h;done) | (cases h;rfl)
 case extract => unfold iu at h;repeat' split at h
                 all_goals first | (cases h;done) | (cases h;rfl)
 case call c =>
  obtain ⟨callee,args,argTypes⟩:=c
  cases callee with
  | value f=>cases hf
  | invoke r m=>cases hf
  | builtin b =>
   unfold eE at h
   simp only [dP] at h
   unfold eD at h
   simp only [] at h
   unfold bK at h
   cases b <;> simp only [] at hf h <;> first | (cases hf;done) | skip
   case len => unfold dC at h;repeat' split at h
               all_goals first | (cases h;done) | (cases h;rfl)
   case cap => unfold gV at h;repeat' split at h
               all_goals first | (cases h;done) | (cases h;rfl)
   case min => unfold iZ at h;repeat' split at h
               all_goals first | (cases h;done) | (cases h;rfl)
   case max => unfold iZ at h;repeat' split at h
               all_goals first | (cases h;done) | (cases h;rfl)
   case unsafeSliceData => unfold kD at h;repeat' split at h
                           all_goals first | (cases h;done) | (cases h;rfl)
end
end Go.AM
namespace Go.AM
section
variable {E:Env} {P:Program} {nm:Nm} {ops:Array Oper}
theorem foldl_push (g:Array Nat->Oper->Nat):∀ (l:List Oper) (acc:Array Nat),
  (l.foldl (fun acc o=>acc.push (g acc o)) acc).size=acc.size+l.length/\(∀ k,k < acc.size->(l.foldl (fun acc o=>acc.push (g acc o)) acc).getD k 0=acc.getD k 0) /\
  ∀ m o,l[m]? = some o->∃ acc':Array Nat,acc'.size=acc.size+m/\(∀ k,k < acc'.size->(l.foldl (fun acc o=>acc.push (g acc o)) acc).getD k 0=acc'.getD k 0) /\
   (l.foldl (fun acc o=>acc.push (g acc o)) acc).getD (acc.size+m) 0=g acc' o
 | [],acc=>⟨rfl,fun _ _=>rfl,fun m o h=>by simp at h⟩
 | x::l,acc=>by
  obtain ⟨h1,h2,h3⟩:=foldl_push g l (acc.push (g acc x))
  have hp:∀ k,k < acc.size->(acc.push (g acc x)).getD k 0=acc.getD k 0:=by
   intro k hk
   simp only [Array.getD_eq_getD_getElem?,Array.getElem?_push]
   rw [if_neg (by omega)]
  simp only [List.foldl_cons,List.length_cons]
  refine ⟨by rw [h1];simp;omega,fun k hk=>by rw [h2 k (by simp;omega),hp k hk],fun m o hm=>?_⟩
  cases m with
  | zero =>
   simp only [List.getElem?_cons_zero,Option.some.injEq] at hm
   subst hm
   refine ⟨acc,rfl,fun k hk=>by rw [h2 k (by simp;omega),hp k hk],?_⟩
   rw [Nat.add_zero,h2 acc.size (by simp)]
   simp [Array.getD_eq_getD_getElem?]
  | succ m =>
   obtain ⟨acc',g1,g2,g3⟩:=h3 m o (by simpa using hm)
   refine ⟨acc',by rw [g1];simp;omega,g2,?_⟩
   rw [Array.size_push] at g3
   rw [show acc.size+(m+1)=acc.size+1+m from by omega]
   exact g3
theorem q9 (acc:Array Nat) (j:Nat):∀ (l:List Edge) (s:Nat),(l.foldl (fun s e=>if Region.binds .any e then s ||| 2 ^ e.on ||| acc.getD e.on 0 else s) s).testBit j=true ->
  s.testBit j=true\/∃ e,e∈l/\Region.binds .any e=true/\(e.on=j\/(acc.getD e.on 0).testBit j=true)
 | [],s,h=>.inl h
 | e :: l,s,h=>by
  rw [List.foldl_cons] at h
  rcases q9 acc j l _ h with g | ⟨e',g1,g2,g3⟩
  ·split at g
   ·rename_i hb
    rw [Nat.testBit_or,Nat.testBit_or] at g
    simp only [Bool.or_eq_true] at g
    rcases g with (g | g) | g
    ·exact .inl g
    ·right
     refine ⟨e,by simp,hb,.inl ?_⟩
     rw [Nat.testBit_two_pow] at g
     simpa using g
    ·exact .inr ⟨e,by simp,hb,.inr g⟩
   ·exact .inl g
  ·exact .inr ⟨e',by simp [g1],g2,g3⟩
def bef (ops:Array Oper) (i:Nat):Nat:=(Region.before ops).getD i 0
theorem mb:(Region.before ops).size=ops.size:=by
 unfold Region.before
 rw [<- Array.foldl_toList]
 have:=(foldl_push (fun acc o=>o.after.foldl (fun s e=>if Region.binds .any e then s ||| 2 ^ e.on ||| acc.getD e.on 0 else s) 0) ops.toList #[]).1
 simpa using this
theorem xm (hed:ef ops=true) {i j:Nat} {o:Oper} (ho:ops[i]? = some o) (hb:(bef ops i).testBit j=true) :
  ∃ e,e∈o.after/\Region.binds .any e=true/\e.on < i/\(e.on=j\/(bef ops e.on).testBit j=true):=by
 obtain ⟨acc',g1,g2,g3⟩:=(foldl_push (fun acc o=>o.after.foldl (fun s e=>if Region.binds .any e then s ||| 2 ^ e.on ||| acc.getD e.on 0 else s) 0) ops.toList #[]).2.2 i o (by simpa using ho)
 have hbe:∀ k,bef ops k=(ops.toList.foldl (fun acc o=>acc.push (o.after.foldl (fun s e=>if Region.binds .any e then s ||| 2 ^ e.on ||| acc.getD e.on 0 else s) 0)) #[]).getD k 0:=by
  intro k
  unfold bef Region.before
  rw [<- Array.foldl_toList]
 have hsz:acc'.size=i:=by simpa using g1
 have h0:bef ops i=o.after.foldl (fun s e=>if Region.binds .any e then s ||| 2 ^ e.on ||| acc'.getD e.on 0 else s) 0:=by
  rw [hbe i]
  have:(#[]:Array Nat).size+i=i:=by simp
  rw [this] at g3
  exact g3
 rw [h0,<- Array.foldl_toList] at hb
 rcases q9 acc' j _ _ hb with g | ⟨e,k1,k2,k3⟩
 ·simp at g
 ·have hlt:e.on < i:=by
   unfold ef at hed
   rw [List.all_eq_true] at hed
   have:=hed (o,i) (by
    rw [List.mem_zipIdx_iff_getElem?]
    simpa using ho)
   simp only [List.all_eq_true,Bool.or_eq_true,Bool.not_eq_true'] at this
   rcases this e k1 with q | q
   ·rw [k2] at q;cases q
   ·simpa using q
  refine ⟨e,by simpa using k1,k2,hlt,?_⟩
  rcases k3 with k | k
  ·exact .inl k
  ·right
   rw [hbe e.on,g2 e.on (by omega)]
   exact k
theorem eC (hed:ef ops=true) (S:Nat->Prop) (hcl:∀ i o,ops[i]? = some o->S i->∀ e,e∈o.after->Region.binds .any e=true->S e.on) :
  ∀ (i j:Nat) (o:Oper),ops[i]? = some o->(∀ e,e∈o.after->Region.binds .any e=true->S e.on)->(bef ops i).testBit j=true->S j:=by
 intro i
 induction i using Nat.strongRecOn with
 | _ i ih =>
  intro j o ho hS hb
  obtain ⟨e,h1,h2,h3,h4⟩:=xm hed ho hb
  have hSe:=hS e h1 h2
  rcases h4 with h4 | h4
  ·rw [<- h4];exact hSe
  ·have hlt:e.on < ops.size:=by have:=(Array.getElem?_eq_some_iff.1 ho).1;omega
   have hoe:ops[e.on]? = some ops[e.on]:=Array.getElem?_eq_getElem hlt
   exact ih e.on h3 j _ hoe (fun e'=>hcl e.on _ hoe hSe e') h4
theorem qc:∀ (l:List Brief) (s:Nat),kR s l=true->∀ (i j:Nat) (a b:Brief),i < j->l[i]? = some a->l[j]? = some b->ee (s+i) a b=true
 | [],s,_,i,j,a,b,_,h,_=>by simp at h
 | x::l,s,hp,i,j,a,b,hij,hi,hj=>by
  simp only [kR,Bool.and_eq_true,List.all_eq_true] at hp
  cases j with
  | zero=>omega
  | succ j =>
   have hj':l[j]? = some b:=by simpa using hj
   cases i with
   | zero =>
    simp only [List.getElem?_cons_zero,Option.some.injEq] at hi
    subst hi
    exact hp.1 b (List.mem_of_getElem? hj')
   | succ i =>
    have:=qc l (s+1) hp.2 i j a b (by omega) (by simpa using hi) hj'
    rwa [show s+1+i=s+(i+1) from by omega] at this
def eb (E:Env) (ops:Array Oper) (o:Oper) (i:Nat):Brief:={ dst:=o.dst,see:=looks ops o,eff:=!cF E o&&!bP o,alc:=bP o,bef:=bef ops i }
theorem qd {i:Nat} {o:Oper} (ho:ops[i]? = some o):(mq E ops)[i]? = some (eb E ops o i):=by
 have hlt:=(Array.getElem?_eq_some_iff.1 ho).1
 have h1:ops.toList[i]? = some o:=by simpa using ho
 have hlt2:i < (Region.before ops).size:=by rw [mb];exact hlt
 have h2:(Region.before ops).toList[i]? = some (bef ops i):=by
  unfold bef
  simp [Array.getD_eq_getD_getElem?,hlt2]
 have h3:(ops.toList.zip (Region.before ops).toList)[i]? = some (o,bef ops i):=List.getElem?_zip_eq_some.2 ⟨h1,h2⟩
 unfold mq
 rw [List.getElem?_map,h3]
 rfl
theorem iW (hr:bn E ops=true) {i j:Nat} {a b:Oper} (hij:i < j) (hi:ops[i]? = some a) (hj:ops[j]? = some b):ee i (eb E ops a i) (eb E ops b j)=true:=by
 unfold bn at hr
 rw [Bool.and_eq_true] at hr
 have:=qc _ 0 hr.2 i j _ _ hij (qd hi) (qd hj)
 rwa [Nat.zero_add] at this
def StepT (E:Env) (rec_:Rec) (nt:Nat) (ops:Array Oper) (rid0:Nat) (F:Nat->Fr) (G:Nat->St) (V:Nat->Value) (κ:Nat->Nat) (i:Nat) (o:Oper):Prop :=
 (κ i=0/\az ops o (F i)=false/\Fr.put nt (F i) o.dst undef=some (F (i+1))/\G (i+1)=G i/\V i=undef) \/
 (κ i=1/\az ops o (F i)=true/\cF E o=true/\(∃ A',opX E (G i) (aD (F i)) o=some (.val (V i),A'))/\Fr.put nt (F i) o.dst (V i)=some (F (i+1))/\G (i+1)=G i) \/
 (κ i=3/\az ops o (F i)=true/\bP o=true/\(∃ A1,opX E { G i with next:=rid0+i } (aD (F i)) o=some (.val (V i),A1)/\G (i+1)={ A1 with next:=(G i).next })/\Fr.put nt (F i) o.dst (V i)=some (F (i+1))) \/
 (κ i=2/\az ops o (F i)=true/\cF E o=false/\bP o=false/\bL E rec_ nt o (F i) (G i)=some (F (i+1),G (i+1))/\V i=mw (F (i+1)) o.dst)
theorem StepT.congr {rec_:Rec} {nt rid0 i:Nat} {F F':Nat->Fr} {G G':Nat->St} {V V':Nat->Value} {κ κ':Nat->Nat} {o:Oper} (h:StepT E rec_ nt ops rid0 F G V κ i o)
  (hF:F' i=F i) (hF1:F' (i+1)=F (i+1)) (hG:G' i=G i) (hG1:G' (i+1)=G (i+1)) (hV:V' i=V i) (hκ:κ' i=κ i):StepT E rec_ nt ops rid0 F' G' V' κ' i o:=by
 unfold StepT at *
 rw [hF,hF1,hG,hG1,hV,hκ]
 exact h
theorem qe {befs ks:List Nat} {Hs:List (Nat×St)}:∀ (L:List Ent) (s:Nat),eF E befs ks Hs L s=true->∀ m e,L[m]? = some e->fg E befs ks Hs e (s+m)=true
 | [],s,_,m,e,h=>by simp at h
 | x::L,s,hc,m,e,h=>by
  simp only [eF,Bool.and_eq_true] at hc
  cases m with
  | zero=>simp only [List.getElem?_cons_zero,Option.some.injEq] at h;subst h;exact hc.1
  | succ m =>
   have:=qe L (s+1) hc.2 m e (by simpa using h)
   rwa [show s+1+m=s+(m+1) from by omega] at this
structure TraceR (E:Env) (rec_:Rec) (nt:Nat) (ops:Array Oper) (rid0:Nat) (befs:List Nat) (os:List (Oper×Nat)) (i:Nat) (fr:Fr) (A:St) (log:List Ent) (Hs:List (Nat×St)) (ks:List Nat) (fr1:Fr) (A1:St)
  (F:Nat->Fr) (G:Nat->St) (V:Nat->Value) (κ:Nat->Nat) (Ks:List Nat) (HS:List (Nat×St)) (L:List Ent):Prop where
 f0:F i=fr
 g0:G i=A
 fn:F (i+os.length)=fr1
 gn:G (i+os.length)=A1
 step:∀ m o b,os[m]? = some (o,b)->StepT E rec_ nt ops rid0 F G V κ (i+m) o
 chk:eF E befs Ks HS (log.reverse++L) 0=true
 ks:∀ k,k∈Ks<->k∈ks\/(i<=k/\k < i+os.length/\κ k=2)
 hs:∀ p,p∈Hs->p∈HS
 hs2:∀ k,i<=k->k < i+os.length->κ k=2->(k+1,G (k+1))∈HS
 len:L.length=os.length
 ent:∀ m o b,os[m]? = some (o,b)->L[m]? = some ({ o,fr:=F (i+m),v:=V (i+m),kind:=κ (i+m),bef:=b }:Ent)
theorem TraceR.cons {rec_:Rec} {nt rid0:Nat} {befs:List Nat} {os:List (Oper×Nat)} {i:Nat} {fr fr' fr1:Fr} {A A' A1:St} {log:List Ent} {Hs Hs':List (Nat×St)} {ks ks':List Nat} {o:Oper} {b k0:Nat} {v:Value}
  {F:Nat->Fr} {G:Nat->St} {V:Nat->Value} {κ:Nat->Nat} {Ks:List Nat} {HS:List (Nat×St)} {L:List Ent}
  (t:TraceR E rec_ nt ops rid0 befs os (i+1) fr' A' ({ o,fr,v,kind:=k0,bef:=b }::log) Hs' ks' fr1 A1 F G V κ Ks HS L)
  (hstep:∀ (F':Nat->Fr) (G':Nat->St) (V':Nat->Value) (κ':Nat->Nat),F' i=fr->F' (i+1)=fr'->G' i=A->G' (i+1)=A'->V' i=v->κ' i=k0->StepT E rec_ nt ops rid0 F' G' V' κ' i o)
  (hks:(k0=2/\ks'=i::ks/\Hs'=(i+1,A')::Hs)\/(k0≠2/\ks'=ks/\Hs'=Hs)) :
  ∃ F G V κ Ks HS L,TraceR E rec_ nt ops rid0 befs ((o,b)::os) i fr A log Hs ks fr1 A1 F G V κ Ks HS L:=by
 let F':Nat->Fr:=fun j=>if j=i then fr else F j
 let G':Nat->St:=fun j=>if j=i then A else G j
 let V':Nat->Value:=fun j=>if j=i then v else V j
 let κ':Nat->Nat:=fun j=>if j=i then k0 else κ j
 have hF:∀ j,j≠i->F' j=F j:=fun j h=>if_neg h
 have hG:∀ j,j≠i->G' j=G j:=fun j h=>if_neg h
 have hV:∀ j,j≠i->V' j=V j:=fun j h=>if_neg h
 have hκ:∀ j,j≠i->κ' j=κ j:=fun j h=>if_neg h
 have hF0:F' i=fr:=if_pos rfl
 have hG0:G' i=A:=if_pos rfl
 have hV0:V' i=v:=if_pos rfl
 have hκ0:κ' i=k0:=if_pos rfl
 have e1:i+(os.length+1)=i+1+os.length:=by omega
 refine ⟨F',G',V',κ',Ks,HS,{ o,fr,v,kind:=k0,bef:=b }::L,{ f0:=hF0,g0:=hG0,fn:=?_,gn:=?_,step:=?_,chk:=?_,ks:=?_,hs:=?_,hs2:=?_,len:=?_,ent:=?_ }⟩
 ·rw [List.length_cons,e1,hF _ (by omega)];exact t.fn
 ·rw [List.length_cons,e1,hG _ (by omega)];exact t.gn
 ·intro m o' b' hm
  cases m with
  | zero =>
   simp only [List.getElem?_cons_zero,Option.some.injEq,Prod.mk.injEq] at hm
   obtain ⟨rfl,rfl⟩:=hm
   rw [Nat.add_zero]
   exact hstep F' G' V' κ' hF0 ((hF _ (by omega)).trans t.f0) hG0 ((hG _ (by omega)).trans t.g0) hV0 hκ0
  | succ m =>
   have:=t.step m o' b' (by simpa using hm)
   rw [show i+1+m=i+(m+1) from by omega] at this
   exact this.congr (hF _ (by omega)) (hF _ (by omega)) (hG _ (by omega)) (hG _ (by omega)) (hV _ (by omega)) (hκ _ (by omega))
 ·have:=t.chk
  simpa using this
 ·intro k
  rw [t.ks k,List.length_cons]
  rcases hks with ⟨h1,h2,h3⟩ | ⟨h1,h2,h3⟩
  ·subst h2
   constructor
   ·rintro (h | ⟨g1,g2,g3⟩)
    ·rcases List.mem_cons.1 h with e | e
     ·subst e;exact .inr ⟨Nat.le_refl _,by omega,by rw [hκ0];exact h1⟩
     ·exact .inl e
    ·exact .inr ⟨by omega,by omega,by rw [hκ _ (by omega)];exact g3⟩
   ·rintro (h | ⟨g1,g2,g3⟩)
    ·exact .inl (by simp [h])
    ·by_cases e:k=i
     ·exact .inl (by simp [e])
     ·exact .inr ⟨by omega,by omega,by rw [hκ _ e] at g3;exact g3⟩
  ·subst h2
   constructor
   ·rintro (h | ⟨g1,g2,g3⟩)
    ·exact .inl h
    ·exact .inr ⟨by omega,by omega,by rw [hκ _ (by omega)];exact g3⟩
   ·rintro (h | ⟨g1,g2,g3⟩)
    ·exact .inl h
    ·by_cases e:k=i
     ·subst e;rw [hκ0] at g3;exact absurd g3 h1
     ·exact .inr ⟨by omega,by omega,by rw [hκ _ e] at g3;exact g3⟩
 ·intro p hp
  rcases hks with ⟨h1,h2,h3⟩ | ⟨h1,h2,h3⟩
  ·exact t.hs p (by rw [h3];simp [hp])
  ·exact t.hs p (by rw [h3];exact hp)
 ·intro k g1 g2 g3
  rw [List.length_cons] at g2
  by_cases e:k=i
  ·subst e
   rcases hks with ⟨h1,h2,h3⟩ | ⟨h1,h2,h3⟩
   ·have:=t.hs (k+1,A') (by rw [h3];simp)
    rw [hG _ (by omega),t.g0];exact this
   ·rw [hκ0] at g3;exact absurd g3 h1
  ·rw [hκ _ e] at g3
   rw [hG _ (by omega)]
   exact t.hs2 k (by omega) (by omega) g3
 ·simp [t.len]
 ·intro m o' b' hm
  cases m with
  | zero =>
   simp only [List.getElem?_cons_zero,Option.some.injEq,Prod.mk.injEq] at hm
   obtain ⟨rfl,rfl⟩:=hm
   simp only [Nat.add_zero,List.getElem?_cons_zero,hF0,hV0,hκ0]
  | succ m =>
   have:=t.ent m o' b' (by simpa using hm)
   rw [show i+1+m=i+(m+1) from by omega] at this
   rw [List.getElem?_cons_succ,this,hF _ (by omega),hV _ (by omega),hκ _ (by omega)]
theorem xn {rec_:Rec} {nt rid0:Nat} {befs:List Nat}:∀ (os:List (Oper×Nat)) (i:Nat) (fr:Fr) (A:St) (log:List Ent) (Hs:List (Nat×St)) (ks:List Nat) (fr1:Fr) (A1:St),
  bA E rec_ nt ops befs os i (rid0+i) fr A log Hs ks=some (fr1,A1) ->
  ∃ F G V κ Ks HS L,TraceR E rec_ nt ops rid0 befs os i fr A log Hs ks fr1 A1 F G V κ Ks HS L:=by
 intro os
 induction os with
 | nil =>
  intro i fr A log Hs ks fr1 A1 h
  unfold bA at h
  split at h
  ·rename_i hc
   cases h
   exact ⟨fun _=>fr,fun _=>A,fun _=>undef,fun _=>0,ks,Hs,[],{ f0:=rfl,g0:=rfl,fn:=rfl,gn:=rfl,step:=fun m o b hm=>by simp at hm,chk:=by simpa using hc,ks:=fun k=>(by simp;try omega),hs:=fun p hp=>hp,hs2:=fun k g1 g2=>by simp at g2;omega,len:=rfl,ent:=fun m o b hm=>by simp at hm }⟩
  ·cases h
 | cons ob os ih =>
  intro i fr A log Hs ks fr1 A1 h
  obtain ⟨o,b⟩:=ob
  unfold bA at h
  split at h
  ·rename_i hg
   split at h
   ·rename_i hfl
    split at h
    ·rename_i v Ax hop
     split at h
     ·rename_i fr2 hp
      obtain ⟨F,G,V,κ,Ks,HS,L,t⟩:=ih (i+1) fr2 A _ Hs ks fr1 A1 h
      exact t.cons (A:=A) (fun F' G' V' κ' a1 a2 a3 a4 a5 a6=>.inr (.inl ⟨a6,by rw [a1];exact hg,hfl,⟨Ax,by rw [a1,a3,a5];exact hop⟩,by rw [a1,a2,a5];exact hp,by rw [a3,a4]⟩)) (.inr ⟨by decide,rfl,rfl⟩)
     ·cases h
    ·cases h
   ·rename_i hfl
    split at h
    ·rename_i hal
     split at h
     ·rename_i v Ax hop
      split at h
      ·rename_i fr2 hp
       obtain ⟨F,G,V,κ,Ks,HS,L,t⟩:=ih (i+1) fr2 _ _ Hs ks fr1 A1 h
       exact t.cons (A:=A) (fun F' G' V' κ' a1 a2 a3 a4 a5 a6=>.inr (.inr (.inl ⟨a6,by rw [a1];exact hg,hal,⟨Ax,by rw [a1,a3,a5];exact hop,by rw [a3,a4]⟩,by rw [a1,a2,a5];exact hp⟩))) (.inr ⟨by decide,rfl,rfl⟩)
      ·cases h
     ·cases h
    ·rename_i hal
     split at h
     ·rename_i fr2 A2 hop
      obtain ⟨F,G,V,κ,Ks,HS,L,t⟩:=ih (i+1) fr2 A2 _ _ _ fr1 A1 h
      exact t.cons (A:=A) (fun F' G' V' κ' a1 a2 a3 a4 a5 a6=>.inr (.inr (.inr ⟨a6,by rw [a1];exact hg,by simpa using hfl,by simpa using hal,by rw [a1,a2,a3,a4];exact hop,by rw [a2,a5]⟩))) (.inl ⟨rfl,rfl,rfl⟩)
     ·cases h
  ·rename_i hg
   split at h
   ·rename_i fr2 hp
    obtain ⟨F,G,V,κ,Ks,HS,L,t⟩:=ih (i+1) fr2 A _ Hs ks fr1 A1 h
    exact t.cons (A:=A) (fun F' G' V' κ' a1 a2 a3 a4 a5 a6=>.inl ⟨a6,by rw [a1];simpa using hg,by rw [a1,a2];exact hp,by rw [a3,a4],a5⟩) (.inr ⟨by decide,rfl,rfl⟩)
   ·cases h
end
end Go.AM
