/- The symbolic evaluator is right: frames and single operations. -/
import Derived.Test.YtilbjefgojocaaaGreatDoorAmDraw1
import Derived.Recover
import GoSem.ClaimChange
import Derived.KernelRfl
namespace Go.AM
section
variable {E:Env} {P:Program} {nm:Nm} {K:Kp} {base:World} {φ ψ:Emb} {A A':St} {w:World}
theorem WR.hide (h:WR nm K base φ A w) {b:Nat} (hb:φ b=none) (hbn:b < A.next) (p:Pl) (c:Obj) (hp:p.blk=w.heap.size) :
  WR nm (fun B=>if B=p.blk then some c else K B) base (φ.upd b p) A (w.alloc c):=by
 have hle:=Emb.upd_le p hb
 have hsz:(w.alloc c).heap.size=w.heap.size+1:=by simp
 have hold:∀ B,B < w.heap.size->(w.alloc c).heap[B]? = w.heap[B]? := fun B hB=>getElem?_push_lt hB
 have ne:∀ x q,φ x=some q->q.blk≠p.blk:=fun x q hq e=>by have:=h.lt x q hq;omega
 have back:∀ x q,x≠b->φ.upd b p x=some q->φ x=some q:=fun x q hx hq=>by rwa [Emb.upd_other φ p hx] at hq
 have live:∀ x o,A.h.get x=some o->o.live=true->x≠b:=by
  rintro x o hx hl rfl
  obtain ⟨q,e,_⟩:=h.obj x o hx hl
  rw [hb] at e;cases e
 refine ⟨?_,?_,?_,?_,?_,?_,?_,h.env,by rw [hsz];exact Nat.le_succ_of_le h.size,?_⟩
 ·intro x hx
  rw [Emb.upd_other φ p (by omega)];exact h.dom x hx
 ·intro x q hx
  rw [hsz]
  by_cases e:x=b
  ·subst e;rw [Emb.upd_same] at hx;cases hx;omega
  ·have:=h.lt x q (back x q e hx);omega
 ·intro x o hx hl
  obtain ⟨q,h1,h2,h3⟩:=h.obj x o hx hl
  refine ⟨q,hle _ _ h1,h2.mono hle (hold _ (h.lt _ _ h1)),?_⟩
  show (if q.blk=p.blk then some c else K q.blk).isNone=o.own
  rw [if_neg (ne x q h1)];exact h3
 ·intro B o hB
  have hB':(if B=p.blk then some c else K B)=some o:=hB
  split at hB'
  ·rename_i e
   cases hB'
   rw [e,hp]
   show (w.heap.push c)[w.heap.size]? = some c
   simp
  ·have hk:=h.key B o hB'
   rw [hold B (by
    rcases Nat.lt_or_ge B w.heap.size with g | g
    ·exact g
    ·rw [Array.getElem?_eq_none g] at hk;cases hk)]
   exact hk
 ·intro x y ox oy px py hxy hx hy lx ly wx wy ex ey hblk
  exact h.sep x y ox oy px py hxy hx hy lx ly wx wy (back _ _ (live _ _ hx lx) ex) (back _ _ (live _ _ hy ly) ey) hblk
 ·intro g m ms hgm x hx r s px py h1 h2 e1 e2 hblk
  exact h.tip g m ms hgm x hx r s px py h1 h2 (back _ _ (live _ _ h1 rfl) e1) (back _ _ (live _ _ h2 rfl) e2) hblk
 ·intro g ms hgm m hm
  obtain ⟨q,h1,h2⟩:=h.grp g ms hgm m hm
  exact ⟨q,hle _ _ h1,by show (if q.blk=p.blk then some c else K q.blk)=none;rw [if_neg (ne m q h1)];exact h2⟩
 ·intro x o q hx hl ho hq
  exact h.old x o q hx hl ho (back _ _ (live _ _ hx hl) hq)
theorem WR.adopt (h:WR nm K base φ A w) {b:Nat} {p:Pl} {c:Obj} {u:AObj} (hb:φ b=some p) (hk:K p.blk=some c) (hor:OR nm φ w.heap p u) (hown:u.own=true) (hsz:base.heap.size<=p.blk) :
  WR nm (fun B=>if B=p.blk then none else K B) base φ { A with h:=A.h.set b u } w:=by
 have ne:∀ x o q,A.h.get x=some o->o.live=true->φ x=some q->q.blk≠p.blk:=by
  intro x o q hx hl hq e
  obtain ⟨q',h1,_,h3⟩:=h.obj x o hx hl
  rw [hq] at h1;cases h1
  rw [e,hk] at h3
  have:=h.old x o q hx hl h3.symm hq
  omega
 refine ⟨h.dom,h.lt,?_,?_,?_,?_,?_,h.env,h.size,?_⟩
 ·intro x o hx hl
  simp only [] at hx
  by_cases e:x=b
  ·subst e
   rw [T.get_set_same] at hx;cases hx
   exact ⟨p,hb,hor,by show (if p.blk=p.blk then none else K p.blk).isNone=_;rw [if_pos rfl];exact hown.symm⟩
  ·rw [T.get_set_other _ _ e] at hx
   obtain ⟨q,h1,h2,h3⟩:=h.obj x o hx hl
   exact ⟨q,h1,h2,by show (if q.blk=p.blk then none else K q.blk).isNone=_;rw [if_neg (ne x o q hx hl h1)];exact h3⟩
 ·intro B o hB
  have hB':(if B=p.blk then none else K B)=some o:=hB
  split at hB'
  ·cases hB'
  ·exact h.key B o hB'
 ·intro x y ox oy px py hxy hx hy lx ly wx wy ex ey hblk
  simp only [] at hx hy
  by_cases e1:x=b
  ·subst e1
   rw [hb] at ex;cases ex
   rw [T.get_set_other _ _ (Ne.symm hxy)] at hy
   exact absurd hblk.symm (ne y oy py hy ly ey)
  ·rw [T.get_set_other _ _ e1] at hx
   by_cases e2:y=b
   ·subst e2
    rw [hb] at ey;cases ey
    exact absurd hblk (ne x ox px hx lx ex)
   ·rw [T.get_set_other _ _ e2] at hy
    exact h.sep x y ox oy px py hxy hx hy lx ly wx wy ex ey hblk
 ·intro g m ms hgm x hx r s px py h1 h2 e1 e2 hblk
  have nob:∀ z,z∈m::ms->z≠b:=by
   rintro z hz rfl
   obtain ⟨q,k1,k2⟩:=h.grp g _ hgm z hz
   rw [hb] at k1;cases k1
   rw [hk] at k2;cases k2
  simp only [] at h1 h2
  rw [T.get_set_other _ _ (nob x (by simp [hx]))] at h1
  rw [T.get_set_other _ _ (nob m (by simp))] at h2
  exact h.tip g m ms hgm x hx r s px py h1 h2 e1 e2 hblk
 ·intro g ms hgm m hm
  obtain ⟨q,h1,h2⟩:=h.grp g ms hgm m hm
  exact ⟨q,h1,by show (if q.blk=p.blk then none else K q.blk)=none;split;rfl;exact h2⟩
 ·intro x o q hx hl ho hq
  simp only [] at hx
  by_cases e:x=b
  ·subst e;rw [T.get_set_same] at hx;cases hx;rw [hown] at ho;cases ho
  ·rw [T.get_set_other _ _ e] at hx;exact h.old x o q hx hl ho hq
end
end Go.AM
namespace Go.AM
section
variable {E:Env} {P:Program} {nm:Nm} {K:Kp} {base:World} {φ ψ:Emb} {A A':St} {w:World}
structure Inv (E:Env) (nm:Nm) (K:Kp) (base:World) (φ0:Emb) (nt:Nat) (ops:Array Oper) (rid0:Nat) (F:Nat->Fr) (G:Nat->St) (V:Nat->Value) (κ:Nat->Nat) (fr0:Fr)
  (S:Nat->Prop) (β:Nat) (K':Kp) (φ:Emb) (pl:Nat->Pl) (a:Act) (w:World):Prop where
 wr:WR nm K' base φ (G β) w
 ext:Emb.ext rid0 φ0 φ
 le:φ0.le φ
 nx:rid0+ops.size<=(G β).next
 bnd:β<=ops.size
 beff:β=0\/∃ e,β=e+1/\S e/\κ e=2
 eff:∀ j,S j->κ j=2->j < β
 closed:∀ i o,ops[i]? = some o->S i->∀ e,e∈o.after->Region.binds .any e=true->S e.on
 inr:∀ j,S j->j < ops.size
 s1:∀ j o t,S j->ops[j]? = some o->o.dst=some t->VR nm φ (V j) (a.tmps.getD t undef)
 s2:∀ t,(∀ j o,S j->ops[j]? = some o->o.dst≠some t)->VR nm φ ((fr0.tm.get t).getD undef) (a.tmps.getD t undef)
 sz:a.tmps.size=nt
 mrk:MR nm φ fr0.marks a.defers
 nofresh:∀ j,j < ops.size->κ j=3->¬ S j->φ (rid0+j)=none
 hid:∀ j,S j->κ j=3->β<=j->∃ u c,G (j+1)={ G j with h:=(G j).h.set (rid0+j) u }/\u.own=true/\φ (rid0+j)=some (pl j)/\K' (pl j).blk=some c/\OR nm φ w.heap (pl j) u/\K (pl j).blk=none/\base.heap.size<=(pl j).blk
 hinj:∀ i j,S i->S j->κ i=3->κ j=3->β<=i->β<=j->i≠j->(pl i).blk≠(pl j).blk
 kh:∀ b o,K b=some o->K' b=some o
 kd:∀ b o,K' b=some o->K b=some o\/∃ j,S j/\κ j=3/\β<=j/\(pl j).blk=b
section
variable {rec_:Rec} {nt rid0 β:Nat} {ops:Array Oper} {φ0:Emb} {F:Nat->Fr} {G:Nat->St} {V:Nat->Value} {κ:Nat->Nat} {fr0:Fr} {S:Nat->Prop} {K':Kp} {pl:Nat->Pl} {a:Act}
theorem StepT.same {i:Nat} {o:Oper} (h:StepT E rec_ nt ops rid0 F G V κ i o) (h2:κ i≠2) (h3:κ i≠3):G (i+1)=G i:=by
 rcases h with ⟨_,_,_,h,_⟩ | ⟨_,_,_,_,_,h⟩ | ⟨h,_⟩ | ⟨h,_⟩
 ·exact h
 ·exact h
 ·exact absurd h h3
 ·exact absurd h h2
theorem Inv.adopt (v:Inv E nm K base φ0 nt ops rid0 F G V κ fr0 S β K' φ pl a w) (hstep:∀ i o,ops[i]? = some o->StepT E rec_ nt ops rid0 F G V κ i o):∀ m,β+m<=ops.size->(∀ j,β<=j->j < β+m->κ j≠2/\(κ j=3->S j)) ->
  ∃ K'',WR nm K'' base φ (G (β+m)) w/\(∀ b o,K b=some o->K'' b=some o)/\(∀ b o,K'' b=some o->K b=some o\/∃ j,S j/\κ j=3/\β+m<=j/\(pl j).blk=b) /\
   (∀ j,S j->κ j=3->β+m<=j->K'' (pl j).blk=K' (pl j).blk)/\(G (β+m)).next=(G β).next:=by
 intro m
 induction m with
 | zero=>intro _ _;exact ⟨K',v.wr,v.kh,v.kd,fun _ _ _ _=>rfl,rfl⟩
 | succ m ih =>
  intro hm hj
  obtain ⟨K1,h1,h2,h3,h4,h5⟩:=ih (by omega) (fun j g1 g2=>hj j g1 (by omega))
  obtain ⟨c1,c2⟩:=hj (β+m) (by omega) (by omega)
  have hlt:β+m < ops.size:=by omega
  have ho:ops[β+m]? = some ops[β+m]:=Array.getElem?_eq_getElem hlt
  have hst:=hstep _ _ ho
  rw [show β+(m+1)=β+m+1 from by omega]
  by_cases h3k:κ (β+m)=3
  ·obtain ⟨u,c,e1,e2,e3,e4,e5,e6,e7⟩:=v.hid (β+m) (c2 h3k) h3k (by omega)
   have hk1:K1 (pl (β+m)).blk=some c:=(h4 _ (c2 h3k) h3k (Nat.le_refl _)).trans e4
   refine ⟨fun B=>if B=(pl (β+m)).blk then none else K1 B,?_,?_,?_,?_,?_⟩
   ·rw [e1];exact h1.adopt e3 hk1 e5 e2 e7
   ·intro b o hb
    show (if b=_ then none else K1 b)=some o
    rw [if_neg (by rintro rfl;rw [e6] at hb;cases hb)]
    exact h2 b o hb
   ·intro b o hb
    have hb':(if b=(pl (β+m)).blk then none else K1 b)=some o:=hb
    split at hb'
    ·cases hb'
    ·rename_i hne
     rcases h3 b o hb' with g | ⟨j,g1,g2,g3,g4⟩
     ·exact .inl g
     ·refine .inr ⟨j,g1,g2,?_,g4⟩
      rcases Nat.lt_or_ge (β+m) j with q | q
      ·omega
      ·have:j=β+m:=by omega
       subst this;exact absurd g4.symm hne
   ·intro j g1 g2 g3
    show (if (pl j).blk=_ then none else K1 _)=_
    rw [if_neg (v.hinj j (β+m) g1 (c2 h3k) g2 h3k (by omega) (by omega) (by omega))]
    exact h4 j g1 g2 (by omega)
   ·rw [e1];exact h5
  ·rw [hst.same c1 h3k]
   refine ⟨K1,h1,h2,fun b o hb=>?_,fun j g1 g2 g3=>h4 j g1 g2 (by omega),h5⟩
   rcases h3 b o hb with g | ⟨j,g1,g2,g3,g4⟩
   ·exact .inl g
   ·refine .inr ⟨j,g1,g2,?_,g4⟩
    rcases Nat.lt_or_ge (β+m) j with q | q
    ·omega
    ·have:j=β+m:=by omega
     subst this;exact absurd g2 h3k
structure Slots (ops:Array Oper) (F:Nat->Fr) (V:Nat->Value) (fr0:Fr) (i:Nat):Prop where
 s1:∀ j o t,j < i->ops[j]? = some o->o.dst=some t->((F i).tm.get t).getD undef=V j
 s2:∀ t,(∀ j o,j < i->ops[j]? = some o->o.dst≠some t)->((F i).tm.get t).getD undef=(fr0.tm.get t).getD undef
 mrk:(F i).marks=fr0.marks
theorem lq {fr fr':Fr} {d:Option Tmp} {x:Value} (h:Fr.put nt fr d x=some fr') :
  (∀ t,d=some t->(fr'.tm.get t).getD undef=x/\t < nt)/\(∀ t,d≠some t->(fr'.tm.get t).getD undef=(fr.tm.get t).getD undef)/\fr'.marks=fr.marks:=by
 unfold Fr.put at h
 cases d with
 | none=>cases h;exact ⟨fun t e=>(by cases e),fun _ _=>rfl,rfl⟩
 | some d =>
  simp only [] at h
  split at h
  ·rename_i hd
   cases h
   refine ⟨fun t e=>?_,fun t e=>?_,rfl⟩
   ·cases e
    refine ⟨?_,by simpa using hd⟩
    show ((fr.tm.set d x).get d).getD undef=x
    rw [T.get_set_same];rfl
   ·show ((fr.tm.set d x).get t).getD undef=_
    rw [T.get_set_other _ _ (by rintro rfl;exact e rfl)]
  ·cases h
theorem Ug {o:Oper} {fr fr1:Fr} {A1:St} (h:bL E rec_ nt o fr A=some (fr1,A1)):∃ x,Fr.put nt fr o.dst x=some fr1:=by
 unfold bL at h
 split at h
 ·cases h
 unfold cE at h
 split at h
 ·exact ⟨_,(fY h).1⟩
 ·exact ⟨_,(fY h).1⟩
 ·unfold di at h
  split at h
  ·exact ⟨_,(fY h).1⟩
  ·cases h
 ·cases h
theorem StepT.putV {i:Nat} {o:Oper} (h:StepT E rec_ nt ops rid0 F G V κ i o):∃ x,Fr.put nt (F i) o.dst x=some (F (i+1))/\(∀ t,o.dst=some t->x=V i):=by
 rcases h with ⟨_,_,h,_,hv⟩ | ⟨_,_,_,_,h,_⟩ | ⟨_,_,_,_,h⟩ | ⟨_,_,_,_,h,hv⟩
 ·exact ⟨_,h,fun _ _=>hv.symm⟩
 ·exact ⟨_,h,fun _ _=>rfl⟩
 ·exact ⟨_,h,fun _ _=>rfl⟩
 ·obtain ⟨x,hx⟩:=Ug h
  refine ⟨x,hx,fun t ht=>?_⟩
  rw [hv,ht]
  exact (((lq hx).1 t ht).1).symm
theorem lr (hr:bn E ops=true) {i j:Nat} {x y:Oper} (hij:i≠j) (hi:ops[i]? = some x) (hj:ops[j]? = some y) {t:Tmp} (hx:x.dst=some t):y.dst≠some t:=by
 intro hy
 rcases Nat.lt_or_gt_of_ne hij with h | h
 ·have:=iW hr h hi hj
  simp [ee,eb,hx,hy,mo] at this
 ·have:=iW hr h hj hi
  simp [ee,eb,hx,hy,mo] at this
theorem wH (hr:bn E ops=true) (hstep:∀ i o,ops[i]? = some o->StepT E rec_ nt ops rid0 F G V κ i o) (hF:F 0=fr0):∀ i,i<=ops.size->Slots ops F V fr0 i
 | 0,_=>⟨fun j o t h=>by omega,fun t _=>by rw [hF],by rw [hF]⟩
 | i+1,hi=>by
  have hlt:i < ops.size:=by omega
  have ho:ops[i]? = some ops[i]:=Array.getElem?_eq_getElem hlt
  obtain ⟨x,hx,hxV⟩:=(hstep i _ ho).putV
  obtain ⟨p1,p2,p3⟩:=lq hx
  have ih:=wH hr hstep hF i (by omega)
  refine ⟨fun j o t hj hoj ht=>?_,fun t ht=>?_,p3.trans ih.mrk⟩
  ·by_cases e:j=i
   ·subst e
    rw [ho] at hoj;cases hoj
    rw [(p1 t ht).1,hxV t ht]
   ·rw [p2 t (lr hr e hoj ho ht)]
    exact ih.s1 j o t (by omega) hoj ht
  ·rw [p2 t (fun e=>ht i _ (Nat.lt_succ_self _) ho e)]
   exact ih.s2 t fun j o hj=>ht j o (by omega)
theorem Inv.slot (v:Inv E nm K base φ0 nt ops rid0 F G V κ fr0 S β K' φ pl a w) (hr:bn E ops=true) {i:Nat} {o:Oper} (sl:Slots ops F V fr0 i) (ho:ops[i]? = some o) (hS:¬ S i)
  (hready:∀ e,e∈o.after->Region.binds .any e=true->S e.on) {t:Tmp} (ht:t∈looks ops o):VR nm φ (((F i).tm.get t).getD undef) (a.tmps.getD t undef):=by
 have hed:ef ops=true:=by unfold bn at hr;rw [Bool.and_eq_true] at hr;exact hr.1
 have hit:∀ (d:Option Tmp) (l:List Tmp),d=some t->t∈l->kQ d l=true:=by
  rintro d l rfl hl
  unfold kQ
  rw [List.any_eq_true]
  exact ⟨t,hl,Nat.beq_refl t⟩
 by_cases hex:∃ (j:Nat) (o':Oper),ops[j]? = some o'/\o'.dst=some t
 ·obtain ⟨j,o',hj,hd⟩:=hex
  rcases Nat.lt_or_ge j i with g | g
  ·rw [sl.s1 j o' t g hj hd]
   refine v.s1 j o' t ?_ hj hd
   have hp:=iW hr g hj ho
   unfold ee at hp
   simp only [eb,Bool.and_eq_true,Bool.or_eq_true] at hp
   rcases hp.2 with q | q
   ·exact eC hed S v.closed i j o ho hready q
   ·have:=hit o'.dst (looks ops o) hd ht
    rw [this] at q
    simp at q
  ·rw [sl.s2 t (fun j' o'' hj' hoj'=>lr hr (by omega) hj hoj' hd)]
   refine v.s2 t fun j' o'' hj' hoj' e=>?_
   have hjj:j'=j:=Classical.byContradiction fun hne=>lr hr (Ne.symm hne) hj hoj' hd e
   subst hjj
   rcases Nat.lt_or_ge i j' with q | q
   ·have hp:=iW hr q ho hj
    unfold ee at hp
    simp only [eb,Bool.and_eq_true,Bool.or_eq_true] at hp
    rcases hp.2 with k | k
    ·exact hS (eC hed S v.closed j' i o' hj (v.closed j' o' hj hj') k)
    ·have:=hit o'.dst (looks ops o) hd ht
     rw [this] at k
     simp at k
   ·have:j'=i:=by omega
    subst this;exact hS hj'
 ·rw [sl.s2 t (fun j o' _ hj e=>hex ⟨j,o',hj,e⟩)]
  exact v.s2 t fun j o' _ hj e=>hex ⟨j,o',hj,e⟩
theorem Uh {fr:Fr} {o:Oper} (hs:∀ t,t∈looks ops o->VR nm φ ((fr.tm.get t).getD undef) (a.tmps.getD t undef)):Region.wanted o (yielded ops a.tmps)=az ops o fr:=by
 unfold Region.wanted az
 cases hgd:o.guard with
 | none=>rfl
 | some g =>
  obtain ⟨j,want⟩:=g
  simp only []
  unfold yielded
  cases hd:(ops[j]?).bind (·.dst) with
  | none=>rfl
  | some t =>
   simp only [Option.bind_some]
   have ht:=hs t (by unfold looks;rw [hgd];simp [hd])
   cases h1:fr.tm.get t with
   | none =>
    rw [h1] at ht
    simp only [Option.getD_none] at ht
    cases h2:a.tmps[t]? with
    | none=>rfl
    | some c =>
     have:a.tmps.getD t undef=c:=by rw [Array.getD_eq_getD_getElem?,h2];rfl
     rw [this] at ht
     cases ht
     rfl
   | some v =>
    rw [h1] at ht
    simp only [Option.getD_some] at ht
    cases h2:a.tmps[t]? with
    | none =>
     have:a.tmps.getD t undef=undef:=by rw [Array.getD_eq_getD_getElem?,h2];rfl
     rw [this] at ht
     cases ht
     rfl
    | some c =>
     have:a.tmps.getD t undef=c:=by rw [Array.getD_eq_getD_getElem?,h2];rfl
     rw [this] at ht
     cases ht <;> first | rfl | (simp only [];cases want <;> rename_i b <;> cases b <;> rfl)
theorem Ui {fr:Fr} {o:Oper} (hg:Gl E φ) (hs:∀ t,t∈looks ops o->VR nm φ ((fr.tm.get t).getD undef) (a.tmps.getD t undef)) (x:Operand) (hx:x∈o.op.operands.toList) (hl:dh E x=true) :
  VR nm φ (aD fr x) (a.eval x):=by
 cases x with
 | tmp t =>
  refine hs t ?_
  unfold looks
  refine List.mem_append_left _ (List.mem_filterMap.2 ⟨.tmp t,hx,rfl⟩)
 | const v=>exact .of_plainV hl
 | global g =>
  obtain ⟨p,h1,h2,h3⟩:=hg g (by simpa [dh] using hl)
  have:=VR.ptr (nm:=nm) (φ:=φ) ⟨g,0,none⟩ p h1 rfl
  simpa [aD,Act.eval,h2,h3] using this
 | func f=>exact .func' (.func f) .nil .nil
theorem jf (hr:bn E ops=true) {i j:Nat} {x y:Oper} (hij:i < j) (hi:ops[i]? = some x) (hj:ops[j]? = some y) (hx:(cF E x=false/\bP x=false)\/bP x=true) (hy:cF E y=false/\bP y=false) :
  (bef ops j).testBit i=true:=by
 have hp:=iW hr hij hi hj
 unfold ee at hp
 simp only [eb,Bool.and_eq_true,Bool.or_eq_true] at hp
 rcases hp.2 with q | q
 ·exact q
 ·rcases hx with ⟨h1,h2⟩ | h1 <;> simp [hy.1,hy.2, *] at q
theorem jg {d:Option Tmp} {v':Value} (hsz:a.tmps.size=nt):(∀ t,d=some t->t < nt->(a.put d v').tmps.getD t undef=v')/\(∀ t,d≠some t->(a.put d v').tmps.getD t undef=a.tmps.getD t undef)/\(a.put d v').tmps.size=nt/\(a.put d v').defers=a.defers:=by
 cases d with
 | none=>exact ⟨fun t e=>(by cases e),fun _ _=>rfl,hsz,rfl⟩
 | some d =>
  refine ⟨fun t e hlt=>?_,fun t e=>?_,by simp [Act.put,hsz],rfl⟩
  ·cases e
   show (a.tmps.setIfInBounds d v').getD d undef=v'
   simp [Array.getD_eq_getD_getElem?,hsz,hlt]
  ·show (a.tmps.setIfInBounds d v').getD t undef=_
   have:d≠t:=by rintro rfl;exact e rfl
   simp [Array.getD_eq_getD_getElem?,this]
theorem Inv.slots1 (v:Inv E nm K base φ0 nt ops rid0 F G V κ fr0 S β K' φ pl a w) (hr:bn E ops=true) {i:Nat} {o:Oper} (ho:ops[i]? = some o) (hle:φ.le ψ) {v':Value} {x:Value} {frx:Fr} (hp:Fr.put nt (F i) o.dst x=some frx) (hv:∀ t,o.dst=some t->VR nm ψ (V i) v') :
  (∀ j o' t,(S j\/j=i)->ops[j]? = some o'->o'.dst=some t->VR nm ψ (V j) ((a.put o.dst v').tmps.getD t undef)) /\
  (∀ t,(∀ j o',(S j\/j=i)->ops[j]? = some o'->o'.dst≠some t)->VR nm ψ ((fr0.tm.get t).getD undef) ((a.put o.dst v').tmps.getD t undef)):=by
 obtain ⟨q1,q2,_⟩:=lq hp
 obtain ⟨p1,p2,_⟩:=jg (d:=o.dst) (v':=v') v.sz
 refine ⟨fun j o' t hj hoj ht=>?_,fun t hall=>?_⟩
 ·by_cases e:j=i
  ·subst e
   rw [ho] at hoj;cases hoj
   rw [p1 t ht (q1 t ht).2]
   exact hv t ht
  ·rw [p2 t (lr hr e hoj ho ht)]
   exact (v.s1 j o' t (hj.resolve_right e) hoj ht).mono hle
 ·rw [p2 t (hall i o (.inr rfl) ho)]
  exact (v.s2 t fun j o' hj=>hall j o' (.inl hj)).mono hle
theorem Inv.step (ok:EnvOk E P nm) (hc:b7 E P nm rec_.call) (hg0:Gl E φ0) (v:Inv E nm K base φ0 nt ops rid0 F G V κ fr0 S β K' φ pl a w) (hr:bn E ops=true)
  (hstep:∀ i o,ops[i]? = some o->StepT E rec_ nt ops rid0 F G V κ i o) (hsl:∀ i,i<=ops.size->Slots ops F V fr0 i)
  (hchk:∀ i o,ops[i]? = some o->κ i=1->∀ β',(β'=0\/∃ e,β'=e+1/\e < ops.size/\κ e=2) ->
   (∀ k,k < ops.size->κ k=2->if k < β' then (bef ops k).testBit i=false else (bef ops i).testBit k=false)->∃ A',opX E (G β') (aD (F i)) o=some (.val (V i),A'))
  {i:Nat} {o:Oper} (ho:ops[i]? = some o) (hS:¬ S i) (hready:∀ e,e∈o.after->Region.binds .any e=true->S e.on) {Q:Exit->Act->World->Prop} :
  wpOp P ops Q i (fun a' w'=>∃ β' K'' φ' pl',Inv E nm K base φ0 nt ops rid0 F G V κ fr0 (fun j=>S j\/j=i) β' K'' φ' pl' a' w') a w:=by
 have hed:ef ops=true:=by unfold bn at hr;rw [Bool.and_eq_true] at hr;exact hr.1
 have hlt:i < ops.size:=(Array.getElem?_eq_some_iff.1 ho).1
 have sl:=hsl i (by omega)
 have hlook:∀ t,t∈looks ops o->VR nm φ (((F i).tm.get t).getD undef) (a.tmps.getD t undef):=fun t ht=>v.slot hr sl ho hS hready ht
 have hg:Gl E φ:=hg0.mono v.le
 have hρ:=fun x hx hl=>Ui (o:=o) (fr:=F i) hg hlook x hx hl
 have hw:=Uh (ops:=ops) (o:=o) hlook
 have hcl':∀ j o',ops[j]? = some o'->(S j\/j=i)->∀ e,e∈o'.after->Region.binds .any e=true->(S e.on\/e.on=i):=by
  intro j o' hj hSj e he hb
  rcases hSj with g | g
  ·exact .inl (v.closed j o' hj g e he hb)
  ·subst g;rw [ho] at hj;cases hj;exact .inl (hready e he hb)
 have hin':∀ j,(S j\/j=i)->j < ops.size:=by
  rintro j (g | g)
  ·exact v.inr j g
  ·omega
 have hst:=hstep i o ho
 obtain ⟨x0,hx0,hxV⟩:=hst.putV
 obtain ⟨_,_,p3,p4⟩:=jg (d:=o.dst) (v':=undef) v.sz
 unfold wpOp
 simp only [ho]
 rw [hw]
 rcases hst with ⟨hκ,hgo,hp,hG,hV⟩ | ⟨hκ,hgo,hfl,_,hp,hG⟩ | ⟨hκ,hgo,hal,⟨A1,hop,hG⟩,hp⟩ | ⟨hκ,hgo,hfl,hal,hop,hV⟩
 ·-- not wanted
  rw [hgo]
  simp only [Bool.false_eq_true,if_false]
  obtain ⟨t1,t2⟩:=v.slots1 hr ho (Emb.le_refl φ) (v':=undef) hp (fun t _=>by rw [hV];exact .undef)
  refine ⟨β,K',φ,pl,{ wr:=v.wr,ext:=v.ext,le:=v.le,nx:=v.nx,bnd:=v.bnd,beff:=?_,eff:=?_,closed:=hcl',inr:=hin',s1:=t1,s2:=t2,sz:=p3,mrk:=by rw [p4];exact v.mrk,nofresh:=?_,hid:=?_,hinj:=?_,kh:=v.kh,kd:=?_ }⟩
  ·rcases v.beff with g | ⟨e,g1,g2,g3⟩
   ·exact .inl g
   ·exact .inr ⟨e,g1,.inl g2,g3⟩
  ·rintro j (g | g) hj
   ·exact v.eff j g hj
   ·subst g;rw [hκ] at hj;cases hj
  ·intro j h1 h2 h3;exact v.nofresh j h1 h2 (fun g=>h3 (.inl g))
  ·rintro j (g | g) h1 h2
   ·exact v.hid j g h1 h2
   ·subst g;rw [hκ] at h1;cases h1
  ·rintro j k (g | g) (g' | g') h1 h2
   ·exact v.hinj j k g g' h1 h2
   ·subst g';rw [hκ] at h2;cases h2
   ·subst g;rw [hκ] at h1;cases h1
   ·subst g;rw [hκ] at h1;cases h1
  ·intro b c hb
   rcases v.kd b c hb with g | ⟨j,g1,g2⟩
   ·exact .inl g
   ·exact .inr ⟨j,.inl g1,g2⟩
 ·-- a value alone
  rw [hgo]
  simp only [if_true]
  left
  obtain ⟨A',hopβ⟩:=hchk i o ho hκ β (v.beff.imp id fun ⟨e,g1,g2,g3⟩=>⟨e,g1,v.inr e g2,g3⟩) (fun k hk hk2=>by
   have hok:ops[k]? = some ops[k]:=Array.getElem?_eq_getElem hk
   split
   ·rename_i hkβ
    -- an effect that is done
    have hSk:S k:=by
     rcases v.beff with g | ⟨e,g1,g2,g3⟩
     ·omega
     ·by_cases e1:k=e
      ·subst e1;exact g2
      ·have hlt':k < e:=by omega
       have hes:=v.inr e g2
       have hoe:ops[e]? = some ops[e]:=Array.getElem?_eq_getElem hes
       have kk:∀ z (hz:z < ops.size),κ z=2->cF E ops[z]=false/\bP ops[z]=false:=by
        intro z hz hz2
        rcases hstep z _ (Array.getElem?_eq_getElem hz) with ⟨q,_⟩ | ⟨q,_⟩ | ⟨q,_⟩ | ⟨_,_,q1,q2,_⟩
        ·rw [hz2] at q;cases q
        ·rw [hz2] at q;cases q
        ·rw [hz2] at q;cases q
        ·exact ⟨q1,q2⟩
       exact eC hed S v.closed e k _ hoe (v.closed e _ hoe g2) (jf hr hlt' hok hoe (.inl (kk k hk hk2)) (kk e (v.inr e g2) g3))
    cases hb:(bef ops k).testBit i with
    | false=>rfl
    | true=>exact absurd (eC hed S v.closed k i _ hok (v.closed k _ hok hSk) hb) hS
   ·rename_i hkβ
    cases hb:(bef ops i).testBit k with
    | false=>rfl
    | true=>exact absurd (v.eff k (eC hed S v.closed i k o ho hready hb) hk2) hkβ)
  have hA:=q8 hfl hopβ
  subst hA
  obtain ⟨φ',w',g1,g2,g3,v',g4,g5⟩:=qY ok v.wr hρ hopβ
  have hle:=v.wr.le g1
  have hkeep:∀ j,S j->κ j=3->β<=j->w'.heap[(pl j).blk]? = w.heap[(pl j).blk]? := by
   intro j h1 h2 h3
   obtain ⟨u,c,_,_,_,e4,_⟩:=v.hid j h1 h2 h3
   rw [v.wr.key _ _ e4,g3.key _ _ e4]
  unfold Oper.wp
  rw [g5]
  obtain ⟨_,_,p3,p4⟩:=jg (d:=o.dst) (v':=v') v.sz
  obtain ⟨t1,t2⟩:=v.slots1 hr ho hle (v':=v') hp (fun t _=>g4)
  refine ⟨β,K',φ',pl,{ wr:=g3,ext:=?_,le:=Emb.le_trans v.le hle,nx:=v.nx,bnd:=v.bnd,beff:=?_,eff:=?_,closed:=hcl',inr:=hin',s1:=t1,s2:=t2,sz:=p3,mrk:=by rw [p4];exact v.mrk.mono hle,nofresh:=?_,hid:=?_,hinj:=?_,kh:=v.kh,kd:=?_ }⟩
  ·exact Emb.ext_trans v.ext g1 (by have:=v.nx;omega)
  ·rcases v.beff with g | ⟨e,g1,g2,g3⟩
   ·exact .inl g
   ·exact .inr ⟨e,g1,.inl g2,g3⟩
  ·rintro j (g | g) hj
   ·exact v.eff j g hj
   ·subst g;rw [hκ] at hj;cases hj
  ·intro j h1 h2 h3
   rw [g1 _ (by have:=v.nx;omega)]
   exact v.nofresh j h1 h2 (fun g=>h3 (.inl g))
  ·rintro j (g | g) h1 h2
   ·obtain ⟨u,c,e1,e2,e3,e4,e5,e6⟩:=v.hid j g h1 h2
    exact ⟨u,c,e1,e2,hle _ _ e3,e4,e5.mono hle (hkeep j g h1 h2),e6⟩
   ·subst g;rw [hκ] at h1;cases h1
  ·rintro j k (g | g) (g' | g') h1 h2
   ·exact v.hinj j k g g' h1 h2
   ·subst g';rw [hκ] at h2;cases h2
   ·subst g;rw [hκ] at h1;cases h1
   ·subst g;rw [hκ] at h1;cases h1
  ·intro b c hb
   rcases v.kd b c hb with g | ⟨j,g1,g2⟩
   ·exact .inl g
   ·exact .inr ⟨j,.inl g1,g2⟩
 ·-- a new block
  rw [hgo]
  simp only [if_true]
  left
  have hβi:β<=i:=by
   rcases v.beff with g | ⟨e,g1,g2,g3⟩
   ·omega
   ·rcases Nat.lt_or_ge e i with q | q
    ·omega
    ·exfalso
     have hes:=v.inr e g2
     have hne:e≠i:=by rintro rfl;exact hS g2
     have hoe:ops[e]? = some ops[e]:=Array.getElem?_eq_getElem hes
     have hke:cF E ops[e]=false/\bP ops[e]=false:=by
      rcases hstep e _ hoe with ⟨q,_⟩ | ⟨q,_⟩ | ⟨q,_⟩ | ⟨_,_,q1,q2,_⟩
      ·rw [g3] at q;cases q
      ·rw [g3] at q;cases q
      ·rw [g3] at q;cases q
      ·exact ⟨q1,q2⟩
     exact hS (eC hed S v.closed e i _ hoe (v.closed e _ hoe g2) (jf hr (by omega) ho hoe (.inr hal) hke))
  have hopD:opD E { G i with next:=rid0+i } (aD (F i)) o=some (.val (V i),A1)/\∀ x,x∈o.op.operands.toList->dh E x=true:=by
   unfold opX at hop
   split at hop
   ·rename_i hl
    exact ⟨hop,fun x hx=>List.all_eq_true.1 hl x hx⟩
   ·cases hop
  obtain ⟨fv,fu,e1,e2,c,v',p,f1,f2,f3⟩:=xb (P:=P) (nm:=nm) (φ:=φ) (w:=w) (ρ':=a.eval) ok o hal (fun x hx=>hρ x hx (hopD.2 x hx)) hopD.1
  simp only [Nx.val.injEq] at e1
  have hb:=v.nofresh i hlt hκ hS
  obtain ⟨k1,k2,k3⟩:=f3 (rid0+i) hb
  have hle:=Emb.upd_le p hb
  have hbn:rid0+i < (G β).next:=by have:=v.nx;omega
  have hW:=v.wr.hide hb hbn p c f2
  have hfar:∀ j,S j->κ j=3->β<=j->(pl j).blk≠p.blk/\(pl j).blk < w.heap.size:=by
   intro j h1 h2 h3
   obtain ⟨u,c',_,_,e3,_⟩:=v.hid j h1 h2 h3
   have:=v.wr.lt _ _ e3
   exact ⟨by omega,this⟩
  obtain ⟨pl',hpl,hpl0⟩:∃ pl':Nat->Pl,(∀ j,j≠i->pl' j=pl j)/\pl' i=p:=⟨fun j=>if j=i then p else pl j,fun j h=>if_neg h,if_pos rfl⟩
  have hne:∀ j,S j->j≠i:=by rintro j h rfl;exact hS h
  have hKp:K p.blk=none:=by
   cases hk:K p.blk with
   | none=>rfl
   | some x =>
    have:=v.wr.key _ _ (v.kh _ _ hk)
    rw [f2,Array.getElem?_eq_none (Nat.le_refl _)] at this
    cases this
  unfold Oper.wp
  rw [f1]
  obtain ⟨_,_,p3,p4⟩:=jg (d:=o.dst) (v':=v') v.sz
  obtain ⟨t1,t2⟩:=v.slots1 hr ho hle (v':=v') hp (fun t _=>by rw [e1];exact k3)
  refine ⟨β,_,φ.upd (rid0+i) p,pl',{ wr:=hW,ext:=?_,le:=Emb.le_trans v.le hle,nx:=v.nx,bnd:=v.bnd,beff:=?_,eff:=?_,closed:=hcl',inr:=hin',s1:=t1,s2:=t2,sz:=p3,mrk:=by rw [p4];exact v.mrk.mono hle,nofresh:=?_,hid:=?_,hinj:=?_,kh:=?_,kd:=?_ }⟩
  ·intro b hbb
   rw [Emb.upd_other φ p (by omega)]
   exact v.ext b hbb
  ·rcases v.beff with g | ⟨e,g1,g2,g3⟩
   ·exact .inl g
   ·exact .inr ⟨e,g1,.inl g2,g3⟩
  ·rintro j (g | g) hj
   ·exact v.eff j g hj
   ·subst g;rw [hκ] at hj;cases hj
  ·intro j h1 h2 h3
   rw [Emb.upd_other φ p (by intro e;exact h3 (.inr (by omega)))]
   exact v.nofresh j h1 h2 (fun g=>h3 (.inl g))
  ·rintro j (g | g) h1 h2
   ·obtain ⟨u,c',e1,e2,e3,e4,e5,e6,e7⟩:=v.hid j g h1 h2
    obtain ⟨q1,q2⟩:=hfar j g h1 h2
    rw [hpl j (hne j g)]
    refine ⟨u,c',e1,e2,hle _ _ e3,?_,e5.mono hle (getElem?_push_lt q2),e6,e7⟩
    show (if (pl j).blk=p.blk then some c else K' (pl j).blk)=some c'
    rw [if_neg q1];exact e4
   ·subst g
    rw [hpl0]
    refine ⟨fu (rid0+j),c,?_,k2,Emb.upd_same _ _ _,?_,k1,hKp,by rw [f2];exact v.wr.size⟩
    ·rw [hG,e2]
    ·show (if p.blk=p.blk then some c else K' p.blk)=some c
     rw [if_pos rfl]
  ·rintro j k hj hk h1 h2 h3 h4 h5
   by_cases ej:j=i
   ·subst ej
    have hSk:=hk.resolve_right (Ne.symm h5)
    rw [hpl0,hpl k (Ne.symm h5)]
    exact Ne.symm (hfar k hSk h2 h4).1
   ·have hSj:=hj.resolve_right ej
    by_cases ek:k=i
    ·subst ek
     rw [hpl0,hpl j ej]
     exact (hfar j hSj h1 h3).1
    ·rw [hpl j ej,hpl k ek]
     exact v.hinj j k hSj (hk.resolve_right ek) h1 h2 h3 h4 h5
  ·intro b x hb
   show (if b=p.blk then some c else K' b)=some x
   rw [if_neg (by rintro rfl;rw [hKp] at hb;cases hb)]
   exact v.kh b x hb
  ·intro b x hb
   have hb':(if b=p.blk then some c else K' b)=some x:=hb
   split at hb'
   ·rename_i e
    exact .inr ⟨i,.inr rfl,hκ,hβi,by rw [hpl0];exact e.symm⟩
   ·rcases v.kd b x hb' with g | ⟨j,g1,g2,g3,g4⟩
    ·exact .inl g
    ·exact .inr ⟨j,.inl g1,g2,g3,by rw [hpl j (hne j g1)];exact g4⟩
 ·-- an effect
  rw [hgo]
  simp only [if_true]
  left
  have kk:∀ z (hz:z < ops.size),κ z=2->cF E ops[z]=false/\bP ops[z]=false:=by
   intro z hz hz2
   rcases hstep z _ (Array.getElem?_eq_getElem hz) with ⟨q,_⟩ | ⟨q,_⟩ | ⟨q,_⟩ | ⟨_,_,q1,q2,_⟩
   ·rw [hz2] at q;cases q
   ·rw [hz2] at q;cases q
   ·rw [hz2] at q;cases q
   ·exact ⟨q1,q2⟩
  have ka:∀ z (hz:z < ops.size),κ z=3->bP ops[z]=true:=by
   intro z hz hz2
   rcases hstep z _ (Array.getElem?_eq_getElem hz) with ⟨q,_⟩ | ⟨q,_⟩ | ⟨_,_,q,_⟩ | ⟨q,_⟩
   ·rw [hz2] at q;cases q
   ·rw [hz2] at q;cases q
   ·exact q
   ·rw [hz2] at q;cases q
  have hβi:β<=i:=by
   rcases v.beff with g | ⟨e,g1,g2,g3⟩
   ·omega
   ·rcases Nat.lt_or_ge e i with q | q
    ·omega
    ·exfalso
     have hes:=v.inr e g2
     have hne:e≠i:=by rintro rfl;exact hS g2
     have hoe:ops[e]? = some ops[e]:=Array.getElem?_eq_getElem hes
     exact hS (eC hed S v.closed e i _ hoe (v.closed e _ hoe g2) (jf hr (by omega) ho hoe (.inl ⟨hfl,hal⟩) (kk e hes g3)))
  obtain ⟨K'',h1,h2,h3,h4,h5⟩:=v.adopt hstep (i - β) (by omega) (fun j g1 g2=>by
   have hj:j < ops.size:=by omega
   have hoj:ops[j]? = some ops[j]:=Array.getElem?_eq_getElem hj
   refine ⟨fun q=>?_,fun q=>?_⟩
   ·have:=v.eff j (eC hed S v.closed i j o ho hready (jf hr (by omega) hoj ho (.inl (kk j hj q)) ⟨hfl,hal⟩)) q
    omega
   ·exact eC hed S v.closed i j o ho hready (jf hr (by omega) hoj ho (.inr (ka j hj q)) ⟨hfl,hal⟩))
  rw [show β+(i - β)=i from by omega] at h1 h3 h4 h5
  refine qZ ok hc h1 hg hρ hop ?_
  intro x v' φ' w' g1 g2 g3 g4 g5
  have hle:=h1.le g1
  have hne:∀ j,S j->j≠i:=by rintro j h rfl;exact hS h
  have hkeep:∀ j c,S j->κ j=3->i<=j->K'' (pl j).blk=some c->w'.heap[(pl j).blk]? = w.heap[(pl j).blk]? := by
   intro j c _ _ _ hk
   rw [h1.key _ _ hk,g3.key _ _ hk]
  obtain ⟨_,_,p3,p4⟩:=jg (d:=o.dst) (v':=v') v.sz
  obtain ⟨t1,t2⟩:=v.slots1 hr ho hle (v':=v') g5 (fun t ht=>by
   rw [hV,ht]
   show VR nm φ' (((F (i+1)).tm.get t).getD undef) v'
   rw [((lq g5).1 t ht).1]
   exact g4)
  refine ⟨i+1,K'',φ',pl,{ wr:=g3,ext:=?_,le:=Emb.le_trans v.le hle,nx:=?_,bnd:=hlt,beff:=.inr ⟨i,rfl,.inr rfl,hκ⟩,eff:=?_,closed:=hcl',inr:=hin',s1:=t1,s2:=t2,sz:=p3,mrk:=by rw [p4];exact v.mrk.mono hle,nofresh:=?_,hid:=?_,hinj:=?_,kh:=h2,kd:=?_ }⟩
  ·exact Emb.ext_trans v.ext g1 (by have:=v.nx;omega)
  ·have:=v.nx;omega
  ·rintro j (g | g) hj
   ·have:=v.eff j g hj;omega
   ·omega
  ·intro j q1 q2 q3
   rw [g1 _ (by have:=v.nx;omega)]
   exact v.nofresh j q1 q2 (fun g=>q3 (.inl g))
  ·rintro j (g | g) q1 q2
   ·obtain ⟨u,c,e1,e2,e3,e4,e5,e6,e7⟩:=v.hid j g q1 (by omega)
    have hk:K'' (pl j).blk=some c:=(h4 j g q1 (by omega)).trans e4
    exact ⟨u,c,e1,e2,hle _ _ e3,hk,e5.mono hle (hkeep j c g q1 (by omega) hk),e6,e7⟩
   ·subst g;rw [hκ] at q1;cases q1
  ·rintro j k (g | g) (g' | g') q1 q2 q3 q4
   ·exact v.hinj j k g g' q1 q2 (by omega) (by omega)
   ·subst g';rw [hκ] at q2;cases q2
   ·subst g;rw [hκ] at q1;cases q1
   ·subst g;rw [hκ] at q1;cases q1
  ·intro b c hb
   rcases h3 b c hb with g | ⟨j,q1,q2,q3,q4⟩
   ·exact .inl g
   ·exact .inr ⟨j,.inl q1,q2,by have:=hne j q1;omega,q4⟩
theorem Inv.done (v:Inv E nm K base φ0 nt ops rid0 F G V κ fr0 S β K' φ pl a w) (hstep:∀ i o,ops[i]? = some o->StepT E rec_ nt ops rid0 F G V κ i o) (hsl:Slots ops F V fr0 ops.size) (hall:∀ i,i < ops.size->S i)
  (hA:A.next=rid0):Aft nm K base φ0 A nt (F ops.size) (G ops.size) a w:=by
 obtain ⟨K'',h1,h2,h3,h4,h5⟩:=v.adopt hstep (ops.size - β) (by have:=v.bnd;omega) (fun j g1 g2=>by
  have hj:j < ops.size:=by omega
  refine ⟨fun q=>?_,fun _=>hall j hj⟩
  have:=v.eff j (hall j hj) q
  omega)
 have hb:=v.bnd
 rw [show β+(ops.size - β)=ops.size from by omega] at h1 h3 h5
 have hK:K''=K:=by
  funext b
  cases hk:K'' b with
  | some c =>
   rcases h3 b c hk with g | ⟨j,g1,g2,g3,g4⟩
   ·exact g.symm
   ·have:=v.inr j g1;omega
  | none =>
   cases hk2:K b with
   | none=>rfl
   | some c=>rw [h2 b c hk2] at hk;cases hk
 subst hK
 refine ⟨φ,by rw [hA];exact v.ext,by rw [hA,h5];have:=v.nx;omega,h1,⟨v.sz,fun t=>?_,by rw [hsl.mrk];exact v.mrk⟩⟩
 by_cases hex:∃ (j:Nat) (o':Oper),ops[j]? = some o'/\o'.dst=some t
 ·obtain ⟨j,o',hj,hd⟩:=hex
  have hlt:=(Array.getElem?_eq_some_iff.1 hj).1
  rw [hsl.s1 j o' t hlt hj hd]
  exact v.s1 j o' t (hall j hlt) hj hd
 ·rw [hsl.s2 t (fun j o' _ hj e=>hex ⟨j,o',hj,e⟩)]
  exact v.s2 t fun j o' _ hj e=>hex ⟨j,o',hj,e⟩
end
end
end Go.AM
namespace Go.AM
section
variable {E:Env} {P:Program} {nm:Nm}
theorem mA {a b:Nat} (h:Nat.blt a b=true):a < b:=by simpa using h
theorem wI (ops:Array Oper) (π:List Nat):(cG ops π).size=ops.size:=by simp [cG]
theorem Uj {ι:Nat->Nat} {o:Oper} {a:Act} {w:World} {K:Act->World->Prop} {Q:Exit->Act->World->Prop}:(eG ι o).wp P a w K Q=o.wp P a w K Q:=rfl
theorem Uk {ι:Nat->Nat} {o:Oper} {a:Act} {w:World}:(eG ι o).asks P a w=o.asks P a w:=rfl
structure PermT (ops:Array Oper) (π:List Nat):Prop where
 a:∀ p,p < ops.size->π.getD p 0 < ops.size/\au π (π.getD p 0)=p
 b:∀ i,i < ops.size->au π i < ops.size/\π.getD (au π i) 0=i
 g:∀ (i:Nat) (o:Oper),ops[i]? = some o->∀ (j:Nat) (w:Bool),o.guard=some (j,w)->j < ops.size
 e:∀ (i:Nat) (o:Oper),ops[i]? = some o->∀ e:Edge,e∈o.after->e.on < ops.size
theorem Ul {ops:Array Oper} {π:List Nat} (h:iz ops π=true):PermT ops π:=by
 unfold iz at h
 simp only [Bool.and_eq_true,List.all_eq_true,List.mem_range] at h
 obtain ⟨⟨h1,h2⟩,h3⟩:=h
 have mem:∀ (i:Nat) (o:Oper),ops[i]? = some o->o∈ops.toList:=fun i o ho=>by
  have:ops.toList[i]? = some o:=by simpa using ho
  exact List.mem_of_getElem? this
 refine ⟨fun p hp=>?_,fun i hi=>?_,fun i o ho j w hg=>?_,fun i o ho e he=>?_⟩
 ·obtain ⟨k1,k2⟩:=h1 p hp
  exact ⟨mA k1,Nat.eq_of_beq_eq_true k2⟩
 ·obtain ⟨k1,k2⟩:=h2 i hi
  exact ⟨mA k1,Nat.eq_of_beq_eq_true k2⟩
 ·have:=(h3 o (mem i o ho)).1
  rw [hg] at this
  exact mA this
 ·have:=(h3 o (mem i o ho)).2 e (by simpa using he)
  exact mA this
theorem mB {ops:Array Oper} {π:List Nat} (t:PermT ops π) {i:Nat} {o:Oper} (ho:ops[i]? = some o):(cG ops π)[au π i]? = some (eG (au π) o):=by
 have hi:=(Array.getElem?_eq_some_iff.1 ho).1
 obtain ⟨h1,h2⟩:=t.b i hi
 unfold cG
 rw [List.getElem?_toArray,List.getElem?_map,List.getElem?_range h1]
 simp only [Option.map_some,h2]
 rw [Array.getD_eq_getD_getElem?,ho]
 rfl
theorem Um {ops:Array Oper} {π:List Nat} (t:PermT ops π) {p:Nat} {o':Oper} (ho:(cG ops π)[p]? = some o'):∃ i o,ops[i]? = some o/\p=au π i/\o'=eG (au π) o:=by
 have hp:=(Array.getElem?_eq_some_iff.1 ho).1
 rw [wI] at hp
 obtain ⟨h1,h2⟩:=t.a p hp
 have hget:=Array.getElem?_eq_getElem h1
 have:=mB t hget
 rw [h2,ho] at this
 cases this
 exact ⟨_,_,hget,h2.symm,rfl⟩
theorem Un {ops:Array Oper} {π:List Nat} (t:PermT ops π) {tmps:Array Value} {j:Nat} (hj:j < ops.size):yielded (cG ops π) tmps (au π j)=yielded ops tmps j:=by
 unfold yielded
 rw [mB t (Array.getElem?_eq_getElem hj),Array.getElem?_eq_getElem hj]
 rfl
theorem Uo {ops:Array Oper} {π:List Nat} (t:PermT ops π) {tmps:Array Value} {i:Nat} {o:Oper} (ho:ops[i]? = some o):Region.wanted (eG (au π) o) (yielded (cG ops π) tmps)=Region.wanted o (yielded ops tmps):=by
 unfold Region.wanted eG
 cases hg:o.guard with
 | none=>rfl
 | some g =>
  obtain ⟨j,w⟩:=g
  simp only [Option.map_some]
  rw [Un t (t.g i o ho j w hg)]
theorem wJ {ops:Array Oper} {π:List Nat} (t:PermT ops π) {listed listed':Array Bool} (hl:∀ i,i < ops.size->∀ d,listed'.getD (au π i) d=listed.getD i d) {i:Nat}:i∈Region.ready .any ops listed->au π i∈Region.ready .any (cG ops π) listed':=by
 intro h
 obtain ⟨h1,o,h2,h3⟩:=mem_ready.1 h
 have hi:=(Array.getElem?_eq_some_iff.1 h2).1
 refine mem_ready.2 ⟨by rw [hl i hi];exact h1,_,mB t h2,fun e he hb=>?_⟩
 unfold eG at he
 simp only [Array.mem_map] at he
 obtain ⟨e0,he0,rfl⟩:=he
 simp only
 rw [hl _ (t.e i o h2 e0 he0)]
 exact h3 e0 he0 hb
theorem Up {ops:Array Oper} {π:List Nat} (t:PermT ops π) {listed listed':Array Bool} (hl:∀ i,i < ops.size->∀ d,listed'.getD (au π i) d=listed.getD i d) (h:Region.ready .any ops listed=[]):Region.ready .any (cG ops π) listed'=[]:=by
 cases hr:Region.ready .any (cG ops π) listed' with
 | nil=>rfl
 | cons p l =>
  exfalso
  have hp:p∈Region.ready .any (cG ops π) listed':=by rw [hr];simp
  obtain ⟨h1,o',h2,h3⟩:=mem_ready.1 hp
  obtain ⟨i,o,ho,rfl,rfl⟩:=Um t h2
  have hi:=(Array.getElem?_eq_some_iff.1 ho).1
  have:i∈Region.ready .any ops listed:=mem_ready.2 ⟨by rw [<- hl i hi];exact h1,o,ho,fun e he hb=>by
   rw [<- hl _ (t.e i o ho e he)]
   exact h3 { e with on:=au π e.on } (by unfold eG;simp only [Array.mem_map];exact ⟨e,he,rfl⟩) hb⟩
  rw [h] at this
  cases this
theorem Uq {ops:Array Oper} {π:List Nat} (t:PermT ops π) {i j:Nat} (hi:i < ops.size) (hj:j < ops.size) (h:au π i=au π j):i=j:=by
 have h1:=(t.b i hi).2
 have h2:=(t.b j hj).2
 rw [h] at h1
 omega
theorem wK {ops:Array Oper} {π:List Nat} (t:PermT ops π) {Q:Exit->Act->World->Prop}:∀ (fuel:Nat) (listed listed':Array Bool) (a:Act) (w:World),listed.size=ops.size->listed'.size=ops.size ->
  (∀ i,i < ops.size->∀ d,listed'.getD (au π i) d=listed.getD i d)->wpAny P .any (cG ops π) Q fuel listed' a w->wpAny P .any ops Q fuel listed a w
 | 0,listed,listed',a,w,_,_,hl,h=>by
  refine ⟨?_,h.2⟩
  cases hr:Region.ready .any ops listed with
  | nil=>rfl
  | cons p l =>
   have:=wJ t hl (i:=p) (by rw [hr];simp)
   rw [h.1] at this
   cases this
 | fuel+1,listed,listed',a,w,hs,hs',hl,h=>by
  refine ⟨fun hn=>h.1 (Up t hl hn),fun i hi=>?_⟩
  have hi':=wJ t hl hi
  obtain ⟨_,o,ho,_⟩:=mem_ready.1 hi
  have hilt:=(Array.getElem?_eq_some_iff.1 ho).1
  have key:=h.2 _ hi'
  have next:∀ a' w',wpAny P .any (cG ops π) Q fuel (listed'.setIfInBounds (au π i) true) a' w'->wpAny P .any ops Q fuel (listed.setIfInBounds i true) a' w':=by
   intro a' w' hn
   refine wK t fuel _ _ a' w' (by simpa using hs) (by simpa using hs') (fun k hk d=>?_) hn
   have hb:=(t.b i hilt).1
   by_cases e:i=k
   ·subst e
    simp [Array.getD_eq_getD_getElem?,hs,hs',hilt,hb]
   ·have e':au π i≠au π k:=fun q=>e (Uq t hilt hk q)
    simp only [Array.getD_eq_getD_getElem?,Array.getElem?_setIfInBounds_ne e,Array.getElem?_setIfInBounds_ne e']
    have:=hl k hk d
    simpa [Array.getD_eq_getD_getElem?] using this
  unfold wpOp at key ⊢
  rw [mB t ho] at key
  rw [ho]
  simp only [Uo t ho] at key
  simp only
  split
  ·rename_i hw
   rw [if_pos hw] at key
   rcases key with key | key
   ·left
    rw [Uj] at key
    exact Oper.wp_mono next key
   ·right
    rw [Uk] at key
    exact key
  ·rename_i hw
   rw [if_neg hw] at key
   exact next _ _ key
theorem Ur (E:Env) (ops:Array Oper):jA E ops=ops\/∃ π,iz ops π=true/\jA E ops=cG ops π:=by
 unfold jA
 by_cases h:bn E ops=true
 ·rw [if_pos h];exact .inl rfl
 ·rw [if_neg h]
  simp only
  by_cases k:iz ops (my ops ops.size (List.range ops.size) [])=true
  ·rw [if_pos k];exact .inr ⟨_,k,rfl⟩
  ·rw [if_neg k];exact .inl rfl
end
end Go.AM
namespace Go.AM
section
variable {E:Env} {P:Program} {nm:Nm} {K:Kp} {base:World} {φ ψ:Emb} {A A':St} {w:World}
theorem mC {l:Array Bool} {i:Nat} (h:i < l.size) (d d':Bool):l.getD i d=l.getD i d':=by simp [Array.getD_eq_getD_getElem?,h]
def unl (n:Nat) (l:Array Bool):Nat:=(List.range n).countP fun i=>!l.getD i true
theorem wL {p q:Nat->Bool}:∀ (l:List Nat),(∀ x,x∈l->q x=true->p x=true)->(∃ x,x∈l/\p x=true/\q x=false)->l.countP q < l.countP p
 | [],_,h=>by obtain ⟨x,hx,_⟩:=h;cases hx
 | y::l,hle,hex=>by
  have hmono:l.countP q<=l.countP p:=List.countP_mono_left fun x hx=>hle x (by simp [hx])
  rw [List.countP_cons,List.countP_cons]
  obtain ⟨x,hx,h1,h2⟩:=hex
  rcases List.mem_cons.1 hx with e | e
  ·subst e
   rw [h1,h2];simp;omega
  ·have:=wL l (fun x hx=>hle x (by simp [hx])) ⟨x,e,h1,h2⟩
   have hy:=hle y (by simp)
   cases hq:q y with
   | false=>simp;omega
   | true=>rw [hy hq];simp;omega
theorem Us {n i:Nat} {l:Array Bool} (hs:l.size=n) (hi:i < n) (hf:l.getD i true=false):unl n (l.setIfInBounds i true) < unl n l:=by
 refine wL _ (fun x hx h=>?_) ⟨i,by simpa using hi,by rw [hf];rfl,?_⟩
 ·by_cases e:i=x
  ·subst e;rw [hf];rfl
  ·rwa [getD_set_ne true e] at h
 ·simp [Array.getD_eq_getD_getElem?,hs,hi]
variable {rec_:Rec} {nt rid0:Nat} {ops:Array Oper} {φ0:Emb} {F:Nat->Fr} {G:Nat->St} {V:Nat->Value} {κ:Nat->Nat} {fr0:Fr}
theorem Ut (ok:EnvOk E P nm) (hc:b7 E P nm rec_.call) (hg0:Gl E φ0) (hr:bn E ops=true)
  (hstep:∀ i o,ops[i]? = some o->StepT E rec_ nt ops rid0 F G V κ i o) (hsl:∀ i,i<=ops.size->Slots ops F V fr0 i)
  (hchk:∀ i o,ops[i]? = some o->κ i=1->∀ β',(β'=0\/∃ e,β'=e+1/\e < ops.size/\κ e=2) ->
   (∀ k,k < ops.size->κ k=2->if k < β' then (bef ops k).testBit i=false else (bef ops i).testBit k=false)->∃ A',opX E (G β') (aD (F i)) o=some (.val (V i),A'))
  {Q:Exit->Act->World->Prop} (hA:A.next=rid0) (hQ:∀ a1 w1,Aft nm K base φ0 A nt (F ops.size) (G ops.size) a1 w1->Q .normal a1 w1) :
  ∀ (fuel:Nat) (listed:Array Bool) (a:Act) (w:World) (β:Nat) (K':Kp) (φ:Emb) (pl:Nat->Pl),Inv E nm K base φ0 nt ops rid0 F G V κ fr0 (fun j=>listed.getD j false=true) β K' φ pl a w ->
   listed.size=ops.size->unl ops.size listed<=fuel->wpAny P .any ops Q fuel listed a w:=by
 have hed:ef ops=true:=by unfold bn at hr;rw [Bool.and_eq_true] at hr;exact hr.1
 have edge:∀ (i:Nat) (o:Oper),ops[i]? = some o->∀ e,e∈o.after->Region.binds .any e=true->e.on < i:=by
  intro i o ho e he hb
  unfold ef at hed
  rw [List.all_eq_true] at hed
  have:=hed (o,i) (by
   rw [List.mem_zipIdx_iff_getElem?]
   simpa using ho)
  simp only [List.all_eq_true,Bool.or_eq_true,Bool.not_eq_true'] at this
  rcases this e (by simpa using he) with q | q
  ·rw [hb] at q;cases q
  ·simpa using q
 have fin:∀ (listed:Array Bool) (a:Act) (w:World) (β:Nat) (K':Kp) (φ:Emb) (pl:Nat->Pl),Inv E nm K base φ0 nt ops rid0 F G V κ fr0 (fun j=>listed.getD j false=true) β K' φ pl a w ->
   (∀ i,i < ops.size->listed.getD i false=true)->Q .normal a w:=fun listed a w β K' φ pl v hall=>hQ a w (v.done hstep (hsl _ (Nat.le_refl _)) hall hA)
 have allof:∀ (listed:Array Bool),listed.size=ops.size->Region.ready .any ops listed=[]->∀ i,i < ops.size->listed.getD i false=true:=by
  intro listed hs hnil i
  induction i using Nat.strongRecOn with
  | _ i ih =>
   intro hi
   cases hv:listed.getD i false with
   | true=>rfl
   | false =>
    exfalso
    have ho:ops[i]? = some ops[i]:=Array.getElem?_eq_getElem hi
    have:i∈Region.ready .any ops listed:=mem_ready.2 ⟨by rw [mC (by omega) true false];exact hv,_,ho,fun e he hb=>ih e.on (edge i _ ho e he hb) (by have:=edge i _ ho e he hb;omega)⟩
    rw [hnil] at this;cases this
 intro fuel
 induction fuel with
 | zero =>
  intro listed a w β K' φ pl v hs hu
  have hall:∀ i,i < ops.size->listed.getD i false=true:=by
   intro i hi
   have h0:unl ops.size listed=0:=by omega
   unfold unl at h0
   rw [List.countP_eq_zero] at h0
   have:=h0 i (by simpa using hi)
   rw [mC (by omega) false true]
   simpa using this
  refine ⟨?_,fin listed a w β K' φ pl v hall⟩
  cases hq:Region.ready .any ops listed with
  | nil=>rfl
  | cons j l =>
   exfalso
   have hj:j∈Region.ready .any ops listed:=by rw [hq];simp
   obtain ⟨h1,o,h2,_⟩:=mem_ready.1 hj
   have hlt:=(Array.getElem?_eq_some_iff.1 h2).1
   rw [mC (by omega) true false,hall j hlt] at h1
   cases h1
 | succ fuel ih =>
  intro listed a w β K' φ pl v hs hu
  refine ⟨fun hnil=>fin listed a w β K' φ pl v (allof listed hs hnil),fun i hi=>?_⟩
  obtain ⟨h1,o,h2,h3⟩:=mem_ready.1 hi
  have hlt:=(Array.getElem?_eq_some_iff.1 h2).1
  have hS:¬ listed.getD i false=true:=by rw [mC (by omega) false true,h1];simp
  refine wpOp_mono ?_ (v.step (P:=P) ok hc hg0 hr hstep hsl hchk h2 hS h3)
  rintro a' w' ⟨β',K'',φ',pl',v'⟩
  refine ih (listed.setIfInBounds i true) a' w' β' K'' φ' pl' ?_ (by simp [hs]) ?_
  ·have:(fun j=>(listed.setIfInBounds i true).getD j false=true)=(fun j=>listed.getD j false=true\/j=i):=by
    funext j
    apply propext
    by_cases e:i=j
    ·subst e
     simp [Array.getD_eq_getD_getElem?,hs,hlt]
    ·rw [getD_set_ne false e]
     constructor
     ·exact .inl
     ·rintro (g | g)
      ·exact g
      ·exact absurd g.symm e
   rw [this];exact v'
  ·have:=Us hs hlt h1
   omega
theorem Uu (ok:EnvOk E P nm) (hc:b7 E P nm rec_.call) {Q:Exit->Act->World->Prop} {fr fr1:Fr} {A1:St} {a:Act}
  (h:WR nm K base φ A w) (hg:Gl E φ) (hf:FrR nm φ nt fr a) (hx:gj E rec_ nt ops fr A=some (fr1,A1))
  (hQ:∀ a1 w1,Aft nm K base φ A nt fr1 A1 a1 w1->Q .normal a1 w1):wpAny P .any ops Q ops.size (Array.replicate ops.size false) a { w with drawn:=w.drawn+1 }:=by
 unfold gj at hx
 split at hx
 case isFalse=>cases hx
 rename_i hr
 obtain ⟨F,G,V,κ,Ks,HS,L,t⟩:=xn (rid0:=A.next) _ 0 fr { A with next:=A.next+ops.size } [] [(0,{ A with next:=A.next+ops.size })] [] fr1 A1 hx
 have hlen:(ops.toList.zip (Region.before ops).toList).length=ops.size:=by simp [mb]
 have hat:∀ i o,ops[i]? = some o->(ops.toList.zip (Region.before ops).toList)[i]? = some (o,bef ops i):=by
  intro i o ho
  have hlt:=(Array.getElem?_eq_some_iff.1 ho).1
  have hlt2:i < (Region.before ops).size:=by rw [mb];exact hlt
  have h2:(Region.before ops).toList[i]? = some (bef ops i):=by
   unfold bef
   simp [Array.getD_eq_getD_getElem?,hlt2]
  exact List.getElem?_zip_eq_some.2 ⟨by simpa using ho,h2⟩
 have hstep:∀ i o,ops[i]? = some o->StepT E rec_ nt ops A.next F G V κ i o:=fun i o ho=>by
  have:=t.step i o _ (hat i o ho)
  rwa [Nat.zero_add] at this
 have hF:F 0=fr:=t.f0
 have hG:G 0={ A with next:=A.next+ops.size }:=t.g0
 have hFn:F ops.size=fr1:=by have:=t.fn;rwa [hlen,Nat.zero_add] at this
 have hGn:G ops.size=A1:=by have:=t.gn;rwa [hlen,Nat.zero_add] at this
 have hsl:=fun i hi=>wH (fr0:=fr) hr hstep hF i hi
 have hchk:∀ i o,ops[i]? = some o->κ i=1->∀ β',(β'=0\/∃ e,β'=e+1/\e < ops.size/\κ e=2) ->
   (∀ k,k < ops.size->κ k=2->if k < β' then (bef ops k).testBit i=false else (bef ops i).testBit k=false)->∃ A',opX E (G β') (aD (F i)) o=some (.val (V i),A'):=by
  intro i o ho hκ β' hβ' hall
  have hL:=t.ent i o _ (hat i o ho)
  have hc:=qe _ 0 (by simpa using t.chk) i _ hL
  rw [Nat.zero_add] at hc
  unfold fg at hc
  simp only [hκ,List.all_eq_true,Bool.or_eq_true,Bool.not_eq_true'] at hc
  have hmem:(β',G β')∈HS:=by
   rcases hβ' with e | ⟨e,g1,g2,g3⟩
   ·subst e;rw [hG];exact t.hs _ (by simp)
   ·subst g1;exact t.hs2 e (Nat.zero_le _) (by rw [hlen];omega) g3
  have hal:allowed i (bef ops i) (Region.before ops).toList Ks β'=true:=by
   unfold allowed
   rw [List.all_eq_true]
   intro k hk
   rcases (t.ks k).1 hk with g | ⟨_,g2,g3⟩
   ·cases g
   ·rw [hlen,Nat.zero_add] at g2
    have hb:(Region.before ops).toList.getD k 0=bef ops k:=by unfold bef;simp [Array.getD_eq_getD_getElem?,List.getD_eq_getElem?_getD]
    have:=hall k g2 g3
    by_cases q:k < β'
    ·rw [if_pos q] at this
     rw [if_pos (by simpa using q),hb,this];rfl
    ·rw [if_neg q] at this
     rw [if_neg (by simpa using q),this];rfl
  rcases hc _ hmem with g | g
  ·rw [hal] at g;cases g
  ·unfold sameAt at g
   split at g
   ·rename_i v A' hop
    exact ⟨A',by rw [hop,gQ _ _ _ g]⟩
   ·cases g
 refine Ut (φ0:=φ) (fr0:=fr) ok hc hg hr hstep hsl hchk rfl (fun a1 w1 hA=>hQ a1 w1 (by rw [<- hFn,<- hGn];exact hA)) ops.size (Array.replicate ops.size false) a { w with drawn:=w.drawn+1 } 0 K φ (fun _=>bQ w 0) ?_ (by simp) ?_
 ·have hno:∀ j,¬ (Array.replicate ops.size false).getD j false=true:=by
   intro j
   rw [Array.getD_eq_getD_getElem?,Array.getElem?_replicate]
   split <;> simp
  refine { wr:=?_,ext:=Emb.ext_refl _ _,le:=Emb.le_refl _,nx:=?_,bnd:=Nat.zero_le _,beff:=.inl rfl,eff:=fun j hj=>absurd hj (hno j),closed:=fun i o _ hi=>absurd hi (hno i),inr:=fun j hj=>absurd hj (hno j),s1:=fun j o t hj=>absurd hj (hno j),s2:=fun t _=>hf.tm t,sz:=hf.size,mrk:=hf.marks,nofresh:=fun j _ _ _=>h.dom _ (Nat.le_add_right _ _),hid:=fun j hj=>absurd hj (hno j),hinj:=fun i j hi=>absurd hi (hno i),kh:=fun b o hb=>hb,kd:=fun b o hb=>.inl hb }
  ·rw [hG]
   have hd:=h.drew (w.drawn+1)
   exact { dom:=fun b hb=>h.dom b (by have hb':A.next+ops.size<=b:=hb;omega),lt:=hd.lt,obj:=hd.obj,key:=hd.key,sep:=hd.sep,tip:=hd.tip,grp:=hd.grp,env:=hd.env,size:=hd.size,old:=hd.old }
  ·rw [hG];exact Nat.le_refl _
 ·unfold unl
  refine Nat.le_trans List.countP_le_length ?_
  simp
theorem Uv (ok:EnvOk E P nm) (hc:b7 E P nm rec_.call) {Q:Exit->Act->World->Prop} {fr fr1:Fr} {A1:St} {a:Act} {id:Nat}
  (h:WR nm K base φ A w) (hg:Gl E φ) (hf:FrR nm φ nt fr a) (hx:eh E rec_ nt ops fr A=some (fr1,A1))
  (hQ:∀ a1 w1,Aft nm K base φ A nt fr1 A1 a1 w1->Q .normal a1 w1):(Code.region id ops true).wp P Q a w:=by
 unfold eh at hx
 have key:=Uu (Q:=Q) ok hc h hg hf hx hQ
 refine wp_region_any ok.mix ?_
 rcases Ur E ops with e | ⟨π,hp,e⟩
 ·rw [e] at key;exact key
 ·rw [e] at key
  have t:=Ul hp
  rw [wI] at key
  refine wK t _ _ _ _ _ (by simp) (by simp) (fun i hi d=>?_) key
  have hb:=(t.b i hi).1
  simp [Array.getD_eq_getD_getElem?,hi,hb]
end
end Go.AM
namespace Go.AM
theorem wM {nm:Nm} {s:Nat} {φ ψ:Emb} (h:∀ b p,φ b=some p->ψ (b+s)=some p):∀ (n:Nat) (v v':Value),VR nm φ v v'->shallow n v=true->VR nm ψ (aw s n v) v':=by
 have arr:∀ (n:Nat),(∀ v v',VR nm φ v v'->shallow n v=true->VR nm ψ (aw s n v) v')->∀ (a a':Array Value),AR nm φ a a'->a.toList.all (shallow n)=true->AR nm ψ (a.map (aw s n)) a':=by
  intro n ih a a' hr hs
  refine .of_get? (by simpa using hr.1) fun i v v' h1 h2=>?_
  rw [Array.toList_map,List.getElem?_map] at h1
  cases hx:a.toList[i]? with
  | none=>rw [hx] at h1;cases h1
  | some x =>
   rw [hx] at h1
   cases h1
   obtain ⟨y,hy,hxy⟩:=hr.get? hx
   rw [hy] at h2
   cases h2
   exact ih x _ hxy (List.all_eq_true.1 hs x (List.mem_of_getElem? hx))
 intro n
 induction n with
 | zero =>
  intro v v' hr hs
  cases hr with
  | bool b=>exact .bool b
  | int k n=>exact .int k n
  | str s=>exact .str s
  | sym=>exact .sym
  | nilp=>exact .nilp
  | ptr a p h1 h2=>exact .ptr ⟨a.block+s,a.off,a.spot⟩ p (h _ _ h1) h2
  | nils l c=>exact .nils l c
  | slc a a' l c c' p h1 h2 h3 h4 h5 h6 h7 h8=>exact .slc ⟨a.block+s,a.off,a.spot⟩ a' l c c' p (h _ _ h1) h2 h3 h4 h5 h6 h7 h8
  | nilm=>exact .nilm
  | map r p h1=>exact .map (r+s) p (h _ _ h1)
  | nilf=>exact .nilf
  | nili=>exact .nili
  | _=>simp [shallow] at hs
 | succ n ih =>
  intro v v' hr hs
  cases hr with
  | bool b=>exact .bool b
  | int k n=>exact .int k n
  | str s=>exact .str s
  | sym=>exact .sym
  | nilp=>exact .nilp
  | ptr a p h1 h2=>exact .ptr ⟨a.block+s,a.off,a.spot⟩ p (h _ _ h1) h2
  | nils l c=>exact .nils l c
  | slc a a' l c c' p h1 h2 h3 h4 h5 h6 h7 h8=>exact .slc ⟨a.block+s,a.off,a.spot⟩ a' l c c' p (h _ _ h1) h2 h3 h4 h5 h6 h7 h8
  | nilm=>exact .nilm
  | map r p h1=>exact .map (r+s) p (h _ _ h1)
  | nilf=>exact .nilf
  | nili=>exact .nili
  | iface t v v' hv=>exact .iface t _ _ (ih v v' hv hs)
  | agg a a' h1 h2=>exact .agg' (arr n ih a a' (.of h1 h2) hs)
  | tuple a a' h1 h2=>exact .tuple' (arr n ih a a' (.of h1 h2) hs)
  | func f f' a a' c c' h1 h2 h3 h4 h5 =>
   simp only [shallow,Bool.and_eq_true] at hs
   refine .func' ?_ (arr n ih a a' (.of h2 h3) hs.1) (arr n ih c c' (.of h4 h5) hs.2)
   cases h1 with
   | func f=>exact .func f
   | method m=>exact .method m
   | yield l l' p g1 g2=>exact .yield (l+s) l' p (h _ _ g1) g2
theorem wN {s b:Nat} {o:AObj}:∀ {l:List KRow} {h:T AObj},(dQ s h l).get b=some o->h.get b=some o\/∃ r,r∈l/\b=r.b+s/\o=.row (kU s r)
 | [],h,hb=>.inl hb
 | r::l,h,hb=>by
  rcases wN (l:=l) hb with g | ⟨r',g1,g2,g3⟩
  ·rw [T.get_set] at g
   split at g
   ·rename_i e
    cases g
    exact .inr ⟨r,by simp,e,rfl⟩
   ·exact .inl g
  ·exact .inr ⟨r',by simp [g1],g2,g3⟩
theorem mD {s b:Nat} (hb:b < s):∀ {l:List KRow} {h:T AObj},(dQ s h l).get b=h.get b
 | [],h=>rfl
 | r::l,h=>by
  rw [dQ,mD hb,T.get_set_other]
  omega
section
variable {E:Env} {P:Program} {nm:Nm} {K:Kp} {base:World} {φ:Emb} {A A':St} {w:World}
theorem wO {k:Known} {e:Ending} {w':World} (h:WR nm K base φ A w) (hk:qj nm k w e w') (hs:shallow 8 k.v=true) (hr:(k.objs.all fun r=>r.cells.all (shallow 8))=true) :
  ∃ ψ v',Emb.ext A.next φ ψ/\A.next<=A.next+k.cnt/\WR nm K base ψ { A with next:=A.next+k.cnt,h:=dQ A.next A.h k.objs } w'/\VR nm ψ (aw A.next 8 k.v) v'/\e=.returned v':=by
 obtain ⟨φ1,v',k1,k2,k3,k4,k5,k6,k7,k8,k9⟩:=hk
 let ψ:Emb:=fun b=>if b < A.next then φ b else φ1 (b - A.next)
 have hψ1:∀ b,b < A.next->ψ b=φ b:=fun b hb=>by simp only [ψ];rw [if_pos hb]
 have hψ2:∀ b p,φ1 b=some p->ψ (b+A.next)=some p:=fun b p hp=>by
  simp only [ψ];rw [if_neg (by omega),Nat.add_sub_cancel];exact hp
 have hext:Emb.ext A.next φ ψ:=hψ1
 have hle:=h.le hext
 have hcases:∀ b p,ψ b=some p->(b < A.next/\φ b=some p/\p.blk < w.heap.size)\/(A.next<=b/\φ1 (b - A.next)=some p):=by
  intro b p hb
  by_cases hlt:b < A.next
  ·rw [hψ1 b hlt] at hb;exact .inl ⟨hlt,hb,h.lt _ _ hb⟩
  ·simp only [ψ] at hb;rw [if_neg hlt] at hb;exact .inr ⟨by omega,hb⟩
 have hobj:∀ b o,(dQ A.next A.h k.objs).get b=some o->(A.h.get b=some o/\b < A.next\/A.h.get b=some o/\A.next<=b)\/∃ r,r∈k.objs/\b=r.b+A.next/\o=.row (kU A.next r):=by
  intro b o hb
  rcases wN hb with g | g
  ·rcases Nat.lt_or_ge b A.next with l | l
   ·exact .inl (.inl ⟨g,l⟩)
   ·exact .inl (.inr ⟨g,l⟩)
  ·exact .inr g
 have hdead:∀ b o,A.h.get b=some o->A.next<=b->o.live=false:=by
  intro b o hb hl
  cases hlv:o.live with
  | false=>rfl
  | true =>
   obtain ⟨p,hp,_⟩:=h.obj b o hb hlv
   rw [h.dom b hl] at hp;cases hp
 have hnew:∀ r,r∈k.objs->∃ p cs fz,φ1 r.b=some p/\ψ (r.b+A.next)=some p/\RowR nm ψ w'.heap p (kU A.next r) cs fz/\w.heap.size<=p.blk:=by
  intro r hrm
  obtain ⟨p,cs,fz,r1,r2,r3⟩:=k3 r hrm
  refine ⟨p,cs,fz,r1,hψ2 _ _ r1,?_,r3⟩
  have hsh:=List.all_eq_true.1 hr r hrm
  exact { blk:=r2.blk,csz:=r2.csz,opn:=r2.opn,esz:=r2.esz,fit:=r2.fit,frz:=r2.frz,sb:=r2.sb,exact:=r2.exact,cell:=by
            intro i hi
            obtain ⟨v,c1,c2⟩:=r2.cell i hi
            have c1':(T.ofList r.cells).get i=some v:=c1
            rw [T.get_ofList] at c1'
            refine ⟨aw A.next 8 v,?_,wM hψ2 8 _ _ c2 (List.all_eq_true.1 hsh v (List.mem_of_getElem? c1'))⟩
            show (T.ofList (r.cells.map (aw A.next 8))).get i=_
            rw [T.get_ofList,List.getElem?_map,c1'];rfl }
 have hKnone:∀ B,w.heap.size<=B->K B=none:=by
  intro B hB
  cases hk:K B with
  | none=>rfl
  | some x=>have:=h.key _ _ hk;rw [Array.getElem?_eq_none hB] at this;cases this
 refine ⟨ψ,v',hext,Nat.le_add_right _ _,?_,wM hψ2 8 _ _ k8 hs,k9⟩
 refine { dom:=?_,lt:=?_,obj:=?_,key:=?_,sep:=?_,tip:=?_,grp:=?_,env:=?_,size:=Nat.le_trans h.size k6,old:=?_ }
 ·intro b hb
  have hb':A.next+k.cnt<=b:=hb
  simp only [ψ]
  rw [if_neg (by omega)]
  exact k2 _ (by omega)
 ·intro b p hb
  rcases hcases b p hb with ⟨_,_,g⟩ | ⟨_,g⟩
  ·exact Nat.lt_of_lt_of_le g k6
  ·exact k1 _ _ g
 ·intro b o hb hl
  rcases hobj b o hb with (⟨g1,g2⟩ | ⟨g1,g2⟩) | ⟨r,g1,rfl,rfl⟩
  ·obtain ⟨p,p1,p2,p3⟩:=h.obj b o g1 hl
   exact ⟨p,hle _ _ p1,p2.mono hle (k5 _ (h.lt _ _ p1)),p3⟩
  ·rw [hdead b o g1 g2] at hl;cases hl
  ·obtain ⟨p,cs,fz,p1,p2,p3,p4⟩:=hnew r g1
   exact ⟨p,p2,⟨cs,fz,p3⟩,by rw [hKnone _ p4];rfl⟩
 ·intro B o hB
  have h1:=h.key _ _ hB
  rw [k5 B (by rcases Nat.lt_or_ge B w.heap.size with g | g;exact g;rw [Array.getElem?_eq_none g] at h1;cases h1)]
  exact h1
 ·intro b c o u p q hbc hb hc lo lu oo ou hp hq hblk
  rcases hobj b o hb with (⟨g1,g2⟩ | ⟨g1,g2⟩) | ⟨r,g1,rfl,rfl⟩
  ·rcases hobj c u hc with (⟨l1,l2⟩ | ⟨l1,l2⟩) | ⟨s,l1,rfl,rfl⟩
   ·rw [hψ1 b g2] at hp
    rw [hψ1 c l2] at hq
    exact h.sep b c o u p q hbc g1 l1 lo lu oo ou hp hq hblk
   ·rw [hdead c u l1 l2] at lu;cases lu
   ·obtain ⟨q',_,_,_,q2,_,q4⟩:=hnew s l1
    rw [q2] at hq;cases hq
    rw [hψ1 b g2] at hp
    have:=h.lt _ _ hp
    omega
  ·rw [hdead b o g1 g2] at lo;cases lo
  ·obtain ⟨p',_,_,p1,p2,_,p4⟩:=hnew r g1
   rw [p2] at hp;cases hp
   rcases hobj c u hc with (⟨l1,l2⟩ | ⟨l1,l2⟩) | ⟨s,l1,rfl,rfl⟩
   ·rw [hψ1 c l2] at hq
    have:=h.lt _ _ hq
    omega
   ·rw [hdead c u l1 l2] at lu;cases lu
   ·obtain ⟨q',_,_,q1,q2,_,q4⟩:=hnew s l1
    rw [q2] at hq;cases hq
    exact absurd hblk (k4 r s _ _ g1 l1 (by intro e;exact hbc (by rw [e])) p1 q1)
 ·intro g m ms hg b hb r s p q h1 h2 hp hq hblk
  obtain ⟨pb,e1,_⟩:=h.grp g _ hg b (by simp [hb])
  obtain ⟨pm,e2,_⟩:=h.grp g _ hg m (by simp)
  have lb:b < A.next:=by
   rcases Nat.lt_or_ge b A.next with l | l
   ·exact l
   ·rw [h.dom b l] at e1;cases e1
  have lm:m < A.next:=by
   rcases Nat.lt_or_ge m A.next with l | l
   ·exact l
   ·rw [h.dom m l] at e2;cases e2
  simp only at h1 h2
  rw [mD lb] at h1
  rw [mD lm] at h2
  rw [hψ1 b lb] at hp
  rw [hψ1 m lm] at hq
  exact h.tip g m ms hg b hb r s p q h1 h2 hp hq hblk
 ·intro g ms hg m hm
  obtain ⟨p,p1,p2⟩:=h.grp g ms hg m hm
  exact ⟨p,hle _ _ p1,p2⟩
 ·exact ⟨k7.1.trans h.env.1,k7.2.1.trans h.env.2.1,k7.2.2.trans h.env.2.2⟩
 ·intro b o p hb hl ho hp
  rcases hobj b o hb with (⟨g1,g2⟩ | ⟨g1,g2⟩) | ⟨r,g1,rfl,rfl⟩
  ·rw [hψ1 b g2] at hp
   exact h.old b o p g1 hl ho hp
  ·rw [hdead b o g1 g2] at hl;cases hl
  ·cases ho
theorem Uw {v u:Value} (h:peq v u=true):v=u/\aH v=true:=by
 unfold peq at h
 rw [Bool.and_eq_true] at h
 exact ⟨gQ 40 _ _ h.2,h.1⟩
theorem pY:∀ {l m:List Value},gk l m=true->l=m/\l.all aH=true
 | [],[],_=>⟨rfl,rfl⟩
 | [],_::_,h=>by cases h
 | _::_,[],h=>by cases h
 | v::l,u::m,h=>by
  simp only [gk,Bool.and_eq_true] at h
  obtain ⟨rfl,h1⟩:=Uw h.1
  obtain ⟨rfl,h2⟩:=pY h.2
  exact ⟨rfl,by simp [h1,h2]⟩
theorem wP {f:FuncId} {args:List Value}:∀ {ks:List Known} {k:Known},cc f args ks=some k->k∈ks/\k.f=f/\k.args=args/\args.all aH=true
 | [],k,h=>by cases h
 | x::ks,k,h=>by
  simp only [cc] at h
  split at h
  ·rename_i hc
   cases h
   rw [Bool.and_eq_true] at hc
   obtain ⟨e1,e2⟩:=pY hc.2
   exact ⟨by simp,Nat.eq_of_beq_eq_true hc.1,e1,by rw [<- e1];exact e2⟩
  ·obtain ⟨a,b⟩:=wP h
   exact ⟨by simp [a],b⟩
theorem EnvOk.knw (ok:EnvOk E P nm) {f:FuncId} {args:List Value} {k:Known} (hk:knw E f args=some k):KnownOk P nm k/\k.f=f/\k.args=args/\args.all aH=true:=by
 unfold Go.AM.knw at hk
 split at hk
 ·rename_i k' h
  cases hk
  obtain ⟨a,b,c,d⟩:=wP h
  exact ⟨ok.known k a,b,c,d⟩
 ·split at hk
  ·obtain ⟨a,b,c⟩:=ok.xt f args k hk
   exact ⟨a,b,c,by rw [<- c];exact a.plain⟩
  ·cases hk
theorem LR.plain_eq {φ:Emb}:∀ {l l':List Value},LR nm φ l l'->l.all aH=true->l'=l
 | [],l',h,_=>h.nil_inv
 | v::l,l',h,hp=>by
  simp only [List.all_cons,Bool.and_eq_true] at hp
  obtain ⟨v',m,rfl,h1,h2⟩:=h.cons_inv
  rw [h1.plainV_eq hp.1,LR.plain_eq h2 hp.2]
theorem Ux (h:WR nm K base φ A w) (hg:Gl E φ) {r:GRow} (hl:Nat.blt r.g E.ng=true) (hr:bX A r=true):∃ t fz,w.heap[r.g]? = some (.cells r.cells.toArray t fz):=by
 unfold bX at hr
 split at hr
 ·rename_i x hx
  simp only [Bool.and_eq_true] at hr
  obtain ⟨⟨⟨h1,h2⟩,h3⟩,h5⟩:=hr
  split at h5
  ·rename_i vs hvs
   obtain ⟨e1,e2⟩:=pY h5
   obtain ⟨p,p1,⟨cs,fz,hrow⟩,_⟩:=h.obj r.g _ hx rfl
   obtain ⟨p',q1,q2,q3⟩:=hg r.g (by rw [Nat.blt_eq] at hl;exact hl)
   rw [p1] at q1;cases q1
   have hopn:x.opn=false:=by simpa using h2
   obtain ⟨x1,x2⟩:=hrow.exact hopn
   have hblk:=hrow.blk
   rw [q2] at hblk
   obtain ⟨l1,l2⟩:=T.range_some _ _ _ _ hvs
   refine ⟨x.elem,fz,?_⟩
   rw [hblk]
   have:cs=r.cells.toArray:=by
    apply Array.ext'
    have hlr:LR nm φ vs cs.toList:=by
     refine ⟨by simp [l1,x2],fun i hi=>?_⟩
     obtain ⟨v,c1,c2⟩:=hrow.cell i (by omega)
     have:=l2 i (by omega)
     rw [Nat.zero_add,c1] at this
     rw [x1,Nat.zero_add] at c2
     rw [List.getD_eq_getElem?_getD,<- this,ep]
     exact c2
    rw [LR.plain_eq hlr e2,e1]
   rw [this]
  ·cases h5
 ·cases hr
theorem np (ok:EnvOk E P nm) {f:FuncId} {args:List Value} {k:Known} (hk:knw E f args=some k) (hl:(k.looks.all fun r=>Nat.blt r.g E.ng&&bX A r)=true) (h:WR nm K base φ A w) (hg:Gl E φ) {args':Array Value} (ha:LR nm φ args args'.toList) :
  Calls P f args' w fun e w'=>∃ ψ v',Emb.ext A.next φ ψ/\A.next<=A.next+k.cnt/\WR nm K base ψ { A with next:=A.next+k.cnt,h:=dQ A.next A.h k.objs } w'/\VR nm ψ (aw A.next 8 k.v) v'/\e=.returned v':=by
 obtain ⟨hko,k2,k3,k4⟩:=ok.knw hk
 have hargs:args'=k.args.toArray:=by
  apply Array.ext'
  rw [LR.plain_eq ha k4,k3]
 rw [hargs,<- k2]
 refine (hko.calls w fun r hr=>?_).mono fun e w' hres=>wO h hres hko.shal hko.shalR
 have:=List.all_eq_true.1 hl r hr
 rw [Bool.and_eq_true] at this
 exact Ux h hg this.1 this.2
theorem Uy {w':World} (h:WR nm K base φ A w) (hs:ke w w'):WR nm K base φ A w':=by
 obtain ⟨ψ,v',k1,_,k3,_⟩:=wO (k:={ f:=0,args:=[],looks:=[],v:=.bool true,cnt:=0,objs:=[] }) (e:=.returned (.bool true)) (w':=w') h
  ⟨fun _=>none,.bool true,fun b p hb=>(by cases hb),fun _ _=>rfl,fun r hr=>(by cases hr),fun r s p q hr=>(by cases hr),hs.1,hs.2.1,hs.2.2,.bool true,rfl⟩ rfl rfl
 have:ψ=φ:=by
  funext b
  rcases Nat.lt_or_ge b A.next with l | l
  ·exact k1 b l
  ·rw [h.dom b l];exact k3.dom b l
 rw [this] at k3
 exact k3
theorem Uz {f:FuncId} {args:List Value} {v:Value} (h:xjv E A f args=some v):∃ a n c rest cs,args=.slice a n c::rest/\cS A 1 n (.slice a n c)=some cs/\cs.all aH=true/\rest.all aH=true/\E.xr f cs rest=some v/\aH v=true:=by
 unfold xjv at h
 split at h
 case isFalse=>cases h
 split at h
 case h_2=>cases h
 rename_i a n c rest
 split at h
 case h_2=>cases h
 rename_i cs hcs
 split at h
 case isFalse=>cases h
 rename_i hp
 rw [Bool.and_eq_true] at hp
 split at h
 case h_2=>cases h
 rename_i u hu
 split at h
 case isFalse=>cases h
 rename_i hv
 cases h
 exact ⟨a,n,c,rest,cs,rfl,hcs,hp.1,hp.2,hu,hv⟩
theorem VA (h:WR nm K base φ A w) {a:Option Addr} {n c:Nat} {cs:List Value} {x:Value} (hx:VR nm φ (.slice a n c) x) (hf:cS A 1 n (.slice a n c)=some cs) (hp:cs.all aH=true):kc w cs x:=by
 cases a with
 | none =>
  rw [hx.nils_inv]
  simp only [cS] at hf
  split at hf
  ·rename_i hn;cases hf;subst hn;exact ⟨none,c,rfl,.inl rfl⟩
  ·cases hf
 | some a =>
  have hl:A.loadN a n=some cs:=by rw [<- Nat.mul_one n];exact hf
  rcases Nat.eq_zero_or_pos n with hn | hn
  ·subst hn
   obtain ⟨a',k',p,rfl,_⟩:=hx.slc_inv
   have:cs=[]:=by
    unfold St.loadN at hl
    split at hl
    ·cases hl
    split at hl
    ·split at hl
     ·exact List.eq_nil_of_length_eq_zero (T.range_some _ _ _ _ hl).1
     ·cases hl
    ·cases hl
   subst this
   exact ⟨some a',k',rfl,.inl rfl⟩
  ·obtain ⟨k',p,rfl,hp1,hsp,hk1,hk2,hk3⟩:=mT hx hn
   obtain ⟨cvs,hr⟩:=h.load hl hp1
   have hcv:=LR.plain_eq hr.rel hp
   subst hcv
   obtain ⟨q,hq,hob,_⟩:∃ q,φ a.block=some q/\(∃ r cs' fz,RowR nm φ w.heap q r cs' fz)/\True:=by
    unfold St.loadN at hl
    split at hl
    ·cases hl
    split at hl
    ·rename_i r hr
     obtain ⟨q,hq,⟨cs',fz,ho⟩,_⟩:=h.obj a.block _ (dk hr) rfl
     exact ⟨q,hq,⟨r,cs',fz,ho⟩,trivial⟩
    ·cases hl
   rw [hp1] at hq;cases hq
   obtain ⟨r,cs',fz,ho⟩:=hob
   have hlen:=hr.len
   refine ⟨some ⟨p.blk,p.off+a.off,none⟩,k',by rw [hlen],.inr ⟨p.blk,p.off+a.off,rfl,?_,?_,fun j v hj=>?_⟩⟩
   ·have:=ho.blk
    rcases Nat.lt_or_ge p.blk w.heap.size with g | g
    ·exact g
    ·rw [Array.getElem?_eq_none g] at this;cases this
   ·have hlk:n<=k':=by
     cases hop:p.opn with
     | false=>have:=hk1 hop;omega
     | true=>have:=(hk2 hop).1;omega
    omega
   ·have:=hr.cell j v hj
    rwa [cW] at this
theorem VB (ok:EnvOk E P nm) {f:FuncId} {args:List Value} {v:Value} (hk:xjv E A f args=some v) (h:WR nm K base φ A w) {args':Array Value} (ha:LR nm φ args args'.toList) :
  Calls P f args' w fun e w'=>∃ ψ v',Emb.ext A.next φ ψ/\A.next<=A.next/\WR nm K base ψ A w'/\VR nm ψ v v'/\e=.returned v':=by
 obtain ⟨a,n,c,rest,cs,rfl,h1,h2,h3,h4,h5⟩:=Uz hk
 obtain ⟨x,m,hm,hx,hrest⟩:=ha.cons_inv
 have hargs:args'=(x::rest).toArray:=by
  apply Array.ext'
  rw [hm,LR.plain_eq hrest h3]
 rw [hargs]
 refine (ok.xr f cs rest v h4 h2 h3 w x (VA h hx h1 h2)).mono fun e w' ⟨he,hs⟩=>?_
 exact ⟨φ,v,fun _ _=>rfl,Nat.le_refl _,Uy h hs,.of_plainV h5,he⟩
end
end Go.AM
namespace Go.AM
section
variable {E:Env} {P:Program} {nm:Nm} {K:Kp} {base:World} {φ ψ:Emb} {A A':St} {w:World}
inductive ExitR (nm:Nm) (φ:Emb):Out->Exit->Prop where
 | norm:ExitR nm φ .norm .normal
 | ret:ExitR nm φ .ret .ret
 | exit (id:Nat):ExitR nm φ (.exit id) (.exit id)
 | pan (ch:List PE) (ch':List PanicEntry):ChR nm φ ch ch'->ExitR nm φ (.pan ch) (.panic ch')
 | goto (l:Nat):ExitR nm φ (.goto l) (.goto l)
inductive ModeR (nm:Nm) (φ:Emb):Mode->FrameMode->Prop where
 | ret:ModeR nm φ .ret .returning
 | pan (ch:List PE) (ch':List PanicEntry):ChR nm φ ch ch'->ModeR nm φ (.pan ch) (.panicking ch')
theorem ModeR.mono {φ ψ:Emb} (h:φ.le ψ) {m:Mode} {u:FrameMode} (r:ModeR nm φ m u):ModeR nm ψ m u:=by
 cases r with
 | ret=>exact .ret
 | pan ch ch' k=>exact .pan ch ch' (k.mono h)
theorem ModeR.run {m:Mode} {u:FrameMode} (r:ModeR nm φ m u):u≠.run:=by cases r <;> simp
def PostC (nm:Nm) (K:Kp) (base:World) (φ:Emb) (A:St) (nt:Nat) (out:Out) (fr':Fr) (A':St):Exit->Act->World->Prop :=
 fun e a' w'=>∃ φ',Emb.ext A.next φ φ'/\A.next<=A'.next/\WR nm K base φ' A' w'/\FrR nm φ' nt fr' a'/\ExitR nm φ' out e
theorem PostC.trans {nt:Nat} {out:Out} {fr2:Fr} {A1 A2:St} {e:Exit} {a2:Act} {w2:World} {φ':Emb} (e1:Emb.ext A.next φ φ') (e2:A.next<=A1.next) (k:PostC nm K base φ' A1 nt out fr2 A2 e a2 w2):PostC nm K base φ A nt out fr2 A2 e a2 w2:=by
 obtain ⟨φ'',k1,k2,k3,k4,k5⟩:=k
 exact ⟨φ'',Emb.ext_trans e1 k1 e2,Nat.le_trans e2 k2,k3,k4,k5⟩
theorem PostC.of_aft {nt:Nat} {fr':Fr} {a':Act} {w':World} (h:Aft nm K base φ A nt fr' A' a' w'):PostC nm K base φ A nt .norm fr' A' .normal a' w':=by
 obtain ⟨φ',h1,h2,h3,h4⟩:=h
 exact ⟨φ',h1,h2,h3,h4,.norm⟩
def dY (E:Env) (P:Program) (nm:Nm) (code:Nat->Code->Fr->St->Option (Out×Fr×St)):Prop :=
 ∀ nt c fr A out fr' A',code nt c fr A=some (out,fr',A')->∀ (K:Kp) (base:World) (φ:Emb) (a:Act) (w:World),WR nm K base φ A w->Gl E φ->FrR nm φ nt fr a ->
  c.wp P (PostC nm K base φ A nt out fr' A') a w
def jh (E:Env) (P:Program) (nm:Nm) (code:Nat->Code->Fr->St->Option (Out×Fr×St)):Prop :=
 ∀ nt b fr A out fr' A',code nt (.loop b) fr A=some (out,fr',A')->∀ (K:Kp) (base:World) (φ:Emb) (a:Act) (w:World),WR nm K base φ A w->Gl E φ->FrR nm φ nt fr a ->
  ∀ (b0:Frame) (k:List Item) (cs:List Frame),∃ e a' w',PostC nm K base φ A nt out fr' A' e a' w'/\Arrives P (lone (b0.at a (.code b::.inLoop b::k)) cs w) b0 k cs e a' w'
def gK (E:Env) (P:Program) (nm:Nm) (call:FuncId->List Value->Mode->St->Option (Mode×St)):Prop :=
 ∀ f args m A m' A',call f args m A=some (m',A')->∀ (K:Kp) (base:World) (φ:Emb) (w:World) (args':Array Value) (u:FrameMode),WR nm K base φ A w->Gl E φ->LR nm φ args args'.toList->ModeR nm φ m u ->
  CallsD P f args' u w fun e u' w'=>(∃ v,e=.returned v)/\∃ φ',Emb.ext A.next φ φ'/\A.next<=A'.next/\WR nm K base φ' A' w'/\ModeR nm φ' m' u'
theorem VC {m:Mode} {u:FrameMode} (h:ModeR nm φ m u):ModeR nm φ (mz m) (settle u):=by
 have drop:∀ {l:List PE} {l':List PanicEntry},ChR nm φ l l'->l'.dropWhile (fun x=>!x.goexit)=[]:=by
  intro l l' h
  induction h with
  | nil=>rfl
  | cons v v' re l l' _ _ ih=>simpa using ih
 cases h with
 | ret=>exact .ret
 | pan ch ch' k =>
  cases k with
  | nil=>exact .pan [] [] .nil
  | cons v v' re l l' h1 h2 =>
   cases re with
   | false=>exact .pan _ _ (.cons v v' false l l' h1 h2)
   | true =>
    have:settle (.panicking ({ v:=v',recovered:=true }::l'))=.returning:=by
     simp only [settle,drop h2]
    rw [this]
    exact .ret
theorem VD (ok:EnvOk E P nm) {rec_:Rec} (hcd:gK E P nm rec_.callD) (hbody:∀ g as m A r,rec_.callD g as m A=some r->∃ fn,E.fn.get g=some fn/\fn.body.isSome=true):∀ (ms:List DI) (φ:Emb) (A A2:St) (m m2:Mode) (ds:List Deferred) (w:World) (fr:Frame) (cs:List Frame),leave rec_ ms m A=some (m2,A2)->WR nm K base φ A w->Gl E φ->MR nm φ ms ds->ModeR nm φ m fr.mode->fr.defers=ds ->
  ∃ φ' w' u',Emb.ext A.next φ φ'/\A.next<=A2.next/\WR nm K base φ' A2 w'/\ModeR nm φ' m2 u'/\Steps P (lone fr cs w) (lone { fr with defers:=[],mode:=u' } cs w'):=by
 intro ms
 induction ms with
 | nil =>
  intro φ A A2 m m2 ds w fr cs ht h hg hm hmode hd
  cases hm
  simp only [leave,Option.some.injEq,Prod.mk.injEq] at ht
  obtain ⟨rfl,rfl⟩:=ht
  refine ⟨φ,w,fr.mode,Emb.ext_refl _ _,Nat.le_refl _,h,hmode,?_⟩
  have:({ fr with defers:=[],mode:=fr.mode }:Frame)=fr:=by rw [<- hd]
  rw [this];exact .refl _ _
 | cons x ms ih =>
  intro φ A A2 m m2 ds w fr cs ht h hg hm hmode hd
  cases hm with
  | cons b p ms ds hp hr =>
   unfold leave at ht
   split at ht
   ·rename_i hdef
    obtain ⟨q,hq,hb,hK⟩:=h.obj b _ hdef rfl
    rw [hp] at hq;cases hq
    have hb':w.heap[p.blk]? = some (.deferred (some [])):=hb
    have hlt:=h.lt _ _ hp
    have hW:WR nm K base φ (A.setObj b .dead) (aZ w p.blk (.deferred none)) :=
     h.setObj (o:=.defd) (o':=.dead) hdef rfl rfl (by simp) (by simp) rfl hp trivial
    have htake:(Instr.takeDeferred p.blk).run P w=.ok [] (aZ w p.blk (.deferred none)):=by
     simp [Instr.takeDeferred,bg (P:=P) hb' (by simp),dM (P:=P) hb' (by simp)]
    have hstep:step P (lone fr cs w)=.next (lone { fr with defers:=ds } cs (aZ w p.blk (.deferred none))):=by
     refine step_lone_go ?_
     cases hmo:fr.mode with
     | run=>exact absurd hmo hmode.run
     | returning=>simp [stepG,unwind,hmo,hd,Sem.runT_eq,htake,GStep.bare_after]
     | panicking chain=>simp [stepG,unwind,hmo,hd,Sem.runT_eq,htake,GStep.bare_after]
    obtain ⟨φ',w',u',k0,k1,k2,k3,k4⟩:=ih φ (A.setObj b .dead) A2 m m2 ds _ { fr with defers:=ds } cs ht hW hg hr hmode rfl
    exact ⟨φ',w',u',k0,k1,k2,k3,.head hstep k4⟩
   ·cases ht
  | fn g cap args cap' args' ms ds h1 h2 hr =>
   unfold leave at ht
   split at ht
   ·rename_i m1 A1 hcall
    obtain ⟨fn,hfn,hbd⟩:=hbody _ _ _ _ _ hcall
    have hfn':=ok.fn _ _ hfn
    have hname:fn.name ≠ "runtime.NumGoroutine" := by simpa using ok.names _ _ hfn'
    obtain ⟨c,hbd⟩:=Option.isSome_iff_exists.1 hbd
    have hinv:(invoke (.fn (.func g) cap') args').run P w=.ok (.enter g (args'++cap')) w:=by
     show (callFunc g (args'++cap')).run P w=_
     simp [callFunc,hfn',hname,hbd]
    have s1:=step_defer (P:=P) (cs:=cs) (fv:=.func g) (cap:=cap') hmode.run hd rfl hinv
    obtain ⟨e,u1,w1,frX,⟨⟨v,rfl⟩,φ1,e1,e2,e3,e4⟩,hsteps,hkX,hgo⟩:=hcd g (args++cap) m A m1 A1 hcall K base φ w (args'++cap') fr.mode h hg (by rw [Array.toList_append];exact LR.append h2 h1) hmode { fr with defers:=ds } cs rfl
    have s2:=step_going_returned (P:=P) (c:={ { fr with defers:=ds } with mode:=u1 }) (cs:=cs) hkX hgo
    have hle:=h.le e1
    obtain ⟨φ',w',u',k0,k1,k2,k3,k4⟩:=ih φ1 A1 A2 (mz m1) m2 ds w1 { { { fr with defers:=ds } with mode:=u1 } with mode:=settle u1 } cs ht e3 (hg.mono hle) (hr.mono hle) (VC e4) rfl
    exact ⟨φ',w',u',Emb.ext_trans e1 k0 e2,Nat.le_trans e2 k1,k2,k3,.head s1 (Steps.trans hsteps (.head s2 k4))⟩
   ·cases ht
def mE (a:Act):ResultVar->Sem Value
 | .tmp t=>pure (a.tmps.getD t undef)
 | .cell b t=>do loadVar t (<- asAddr (a.tmps.getD b undef))
def iP (E:Env) (A:St) (fr:Fr):ResultVar->Option Value
 | .tmp t=>some ((fr.tm.get t).getD undef)
 | .cell b t=>match (fr.tm.get b).getD undef with
   | .pointer (some ad)=>dA E A t ad
   | _=>none
theorem wQ (ok:EnvOk E P nm) (h:WR nm K base φ A w) {nt:Nat} {fr:Fr} {a:Act} (hf:FrR nm φ nt fr a):∀ (l:List ResultVar) (vs:List Value),l.mapM (iP E A fr)=some vs ->
  ∃ vs',LR nm φ vs vs'/\(l.mapM (mE a)).run P w=.ok vs' w:=by
 intro l
 induction l with
 | nil=>intro vs h;simp at h;subst h;exact ⟨[],.nil,rfl⟩
 | cons r l ih =>
  intro vs hm
  rw [List.mapM_cons] at hm
  cases h1:iP E A fr r with
  | none=>rw [h1] at hm;simp at hm
  | some v =>
   cases h2:l.mapM (iP E A fr) with
   | none=>rw [h1,h2] at hm;simp at hm
   | some us =>
    rw [h1,h2] at hm
    simp at hm
    subst hm
    obtain ⟨us',k1,k2⟩:=ih us h2
    have:∃ v',VR nm φ v v'/\(mE a r).run P w=.ok v' w:=by
     cases r with
     | tmp t =>
      simp only [iP,Option.some.injEq] at h1
      subst h1
      exact ⟨_,hf.tm t,rfl⟩
     | cell b t =>
      simp only [iP] at h1
      have hb:=hf.tm b
      split at h1
      ·rename_i ad hv
       rw [hv] at hb
       obtain ⟨p,hp,hsp,e⟩:=hb.ptr_inv
       obtain ⟨v',r1,r2⟩:=qp ok h h1 hp
       refine ⟨v',r1,?_⟩
       simp only [mE,e,asAddr,Sem.run_bind,Sem.run_pure,Result.andThen_ok,r2]
      ·cases h1
    obtain ⟨v',r1,r2⟩:=this
    refine ⟨v'::us',.cons r1 k1,?_⟩
    rw [List.mapM_cons]
    simp only [Sem.run_bind,r2,Result.andThen_ok,k2,Sem.run_pure]
theorem wR (ok:EnvOk E P nm) (h:WR nm K base φ A w) {nt:Nat} {fr:Fr} {a:Act} (hf:FrR nm φ nt fr a) {fn:Func} {v:Value} (hr:ei E fn fr A=some v) :
  ∃ v',VR nm φ v v'/\(results fn a.tmps).run P w=.ok v' w:=by
 have hres:results fn a.tmps=(do let vs <- List.toArray <$> fn.results.toList.mapM (mE a);pure (if h:vs.size=1 then vs[0] else .tuple vs)):=by
  rw [<- Array.mapM_eq_mapM_toList]
  rfl
 have hE:ei E fn fr A=(match fn.results.toList.mapM (iP E A fr) with
  | some [v]=>some v
  | some vs=>some (.tuple vs.toArray)
  | none=>none):=rfl
 rw [hE] at hr
 rw [hres]
 split at hr
 ·rename_i v0 hm
  cases hr
  obtain ⟨vs',k1,k2⟩:=wQ ok h hf _ _ hm
  obtain ⟨v',m,rfl,r1,r2⟩:=k1.cons_inv
  have:=r2.nil_inv
  subst this
  refine ⟨v',r1,?_⟩
  rw [map_eq_pure_bind]
  simp only [bind_assoc,pure_bind,Sem.run_bind,k2,Result.andThen_ok,Sem.run_pure]
  rfl
 ·rename_i vs hne hm
  cases hr
  obtain ⟨vs',k1,k2⟩:=wQ ok h hf _ _ hm
  have hlen:=k1.length
  refine ⟨.tuple vs'.toArray,.tuple' (by simpa [AR] using k1),?_⟩
  have h1:¬ vs'.toArray.size=1:=by
   intro e
   have:vs.length=1:=by rw [hlen];simpa using e
   match vs,this with
   | [x],_=>exact hne x rfl
  rw [map_eq_pure_bind]
  simp only [bind_assoc,pure_bind,Sem.run_bind,k2,Result.andThen_ok,Sem.run_pure]
  rw [dif_neg h1]
 ·cases hr
def pZ (f:FuncId):Frame:={ (default:Frame) with fn:=f,kind:=.normal }
def wS (f:FuncId) (a:Act) (todo:List Item) (u:FrameMode):Frame:={ (pZ f).at a todo with mode:=u }
theorem wT (ok:EnvOk E P nm) {rec_:Rec} (hcode:dY E P nm rec_.code) (hcd:gK E P nm rec_.callD) (hbody:∀ g as m A r,rec_.callD g as m A=some r->∃ fn,E.fn.get g=some fn/\fn.body.isSome=true) {f:FuncId} {args:List Value} {fn:Func} {fr:Fr} {m:Mode} (hx:cb E rec_ f args A=some (fn,fr,m,A')) (h:WR nm K base φ A w) (hg:Gl E φ) {args':Array Value} (ha:LR nm φ args args'.toList) (cs:List Frame) :
  P.funcs[f]? = some fn/\∃ φ' w' u',∃ (a1:Act) (todo:List Item),Emb.ext A.next φ φ'/\A.next<=A'.next/\WR nm K base φ' A' w'/\FrR nm φ' fn.ntmps { fr with marks:=[] } { a1 with defers:=[] }/\ModeR nm φ' m u' /\
   Steps P (lone (Frame.enter P f args' .normal) cs w) (lone (wS f { a1 with defers:=[] } todo u') cs w'):=by
 unfold cb at hx
 split at hx
 ·cases hx
 rename_i fn0 hfn
 have hfn':=ok.fn _ _ hfn
 split at hx
 ·cases hx
 rename_i c hbd
 split at hx
 case isFalse=>cases hx
 rename_i hlen
 split at hx
 case h_2=>cases hx
 rename_i out fr1 A1 hrun
 split at hx
 case h_2=>cases hx
 rename_i m1 hm1
 split at hx
 case h_2=>cases hx
 rename_i m2 A2 hleave
 cases hx
 have hsz:args.length=args'.size:=by simpa using ha.1
 have hf0:FrR nm φ fn.ntmps { tm:=T.ofList args,marks:=[] } { tmps:=args'++Array.replicate (fn.ntmps - args'.size) undef,defers:=[] }:=by
  refine ⟨by simp;omega,fun t=>?_,.nil⟩
  simp only [T.get_ofList]
  rcases Nat.lt_or_ge t args.length with g | g
  ·have h1:=ha.2 t g
   rw [List.getElem?_eq_getElem g]
   have e2:(args'++Array.replicate (fn.ntmps - args'.size) undef).getD t undef=args'.toList.getD t undef:=by
    rw [ep,Array.getD_eq_getD_getElem?,Array.getElem?_append_left (by omega),Array.getD_eq_getD_getElem?]
   rw [e2]
   rw [List.getD_eq_getElem?_getD,List.getElem?_eq_getElem g] at h1
   exact h1
  ·rw [List.getElem?_eq_none g]
   have e2:(args'++Array.replicate (fn.ntmps - args'.size) undef).getD t undef=undef:=by
    rw [Array.getD_eq_getD_getElem?,Array.getElem?_append_right (by omega),Array.getElem?_replicate]
    split <;> rfl
   rw [e2]
   exact .undef
 refine ⟨hfn',?_⟩
 let b:Frame:=pZ f
 have henter:Frame.enter P f args' .normal=b.at { tmps:=args'++Array.replicate (fn.ntmps - args'.size) undef,defers:=[] } [.code c]:=by
  simp [Frame.enter,Frame.at,hfn',hbd,b,pZ]
 obtain ⟨e,a1,w1,⟨φ1,e1,e2,e3,e4,e5⟩,harr⟩:=hcode _ _ _ _ _ _ _ hrun K base φ _ w h hg hf0 b [] cs
 rw [<- henter] at harr
 have fin:∀ (todo:List Item) (u:FrameMode),ModeR nm φ1 m1 u->Steps P (lone (Frame.enter P f args' .normal) cs w) (lone { b.at a1 todo with mode:=u } cs w1) ->
   ∃ φ' w' u',∃ (a1:Act) (todo:List Item),Emb.ext A.next φ φ'/\A.next<=A'.next/\WR nm K base φ' A' w'/\FrR nm φ' fn.ntmps { fr with marks:=[] } { a1 with defers:=[] }/\ModeR nm φ' m u' /\
   Steps P (lone (Frame.enter P f args' .normal) cs w) (lone (wS f { a1 with defers:=[] } todo u') cs w'):=by
  intro todo u hu hs
  have hle:=h.le e1
  obtain ⟨φ2,w2,u2,k0,k1,k2,k3,k4⟩:=VD (P:=P) ok hcd hbody fr.marks φ1 A1 A' m1 m a1.defers w1 { b.at a1 todo with mode:=u } cs hleave e3 (hg.mono hle) e4.marks hu rfl
  have e4':=e4.mono (e3.le k0)
  exact ⟨φ2,w2,u2,a1,todo,Emb.ext_trans e1 k0 e2,Nat.le_trans e2 k1,k2,⟨e4'.size,e4'.tm,.nil⟩,k3,Steps.trans hs k4⟩
 cases e5 with
 | norm =>
  cases hm1
  exact fin [] .returning .ret (Steps.trans harr (.one step_end))
 | ret =>
  cases hm1
  obtain ⟨todo,hs⟩:=harr
  exact fin todo .returning .ret hs
 | exit id=>cases hm1
 | goto l=>cases hm1
 | pan ch ch' k =>
  cases hm1
  obtain ⟨todo,hs⟩:=harr
  exact fin todo (.panicking ch') (.pan ch ch' k) hs
theorem VE (ok:EnvOk E P nm) {rec_:Rec} (hcode:dY E P nm rec_.code) (hcd:gK E P nm rec_.callD) (hbody:∀ g as m A r,rec_.callD g as m A=some r->∃ fn,E.fn.get g=some fn/\fn.body.isSome=true):b7 E P nm (jB E rec_):=by
 intro f args A v A' hx K base φ w args' h hg ha cs
 unfold jB at hx
 split at hx
 case h_2=>cases hx
 rename_i fn fr A2 hl
 split at hx
 case h_2=>cases hx
 rename_i v0 hres
 cases hx
 obtain ⟨hfn',φ',w',u',a1,todo,k0,k1,k2,k3,k4,k5⟩:=wT ok hcode hcd hbody hl h hg ha cs
 cases k4
 obtain ⟨v',r1,r2⟩:=wR ok k2 k3 (fn:=fn) (v:=v) hres
 exact ⟨.returned v',w',_,⟨φ',v',k0,k1,k2,r1,rfl⟩,k5,rfl,rfl,rfl,rfl,fn,hfn',r2⟩
theorem VF (ok:EnvOk E P nm) {rec_:Rec} (hcode:dY E P nm rec_.code) (hcd:gK E P nm rec_.callD) (hbody:∀ g as m A r,rec_.callD g as m A=some r->∃ fn,E.fn.get g=some fn/\fn.body.isSome=true):iV E P nm (callP E rec_):=by
 intro f args A ch A' hx K base φ w args' h hg ha cs
 unfold callP at hx
 split at hx
 ·cases hx
 split at hx
 ·cases hx
 split at hx
 case h_2=>cases hx
 rename_i fn fr ch0 A2 hl
 cases hx
 obtain ⟨hfn',φ',w',u',a1,todo,k0,k1,k2,k3,k4,k5⟩:=wT ok hcode hcd hbody hl h hg ha cs
 cases k4 with
 | pan _ ch' k =>
  exact ⟨.panicked ch',w',_,⟨φ',ch',k0,k1,k2,k,rfl⟩,k5,rfl,rfl,rfl,fn,hfn'⟩
theorem VG {rec_:Rec} {g:FuncId} {as:List Value} {m:Mode} {r:Mode×St} (h:callD E rec_ g as m A=some r):∃ fn,E.fn.get g=some fn/\fn.body.isSome=true:=by
 unfold callD at h
 split at h
 ·cases h
 ·rename_i fn hfn
  split at h
  ·rename_i hb
   exact ⟨fn,hfn,by rw [hb];rfl⟩
  ·cases h
theorem VH {m:Mode} {c₀:Frame} {cs:List Frame} (h:ModeR nm φ m c₀.mode):∃ v' u',VR nm φ (eo m).1 v'/\ModeR nm φ (eo m).2 u' /\
  ((recoverD (c₀::cs)=none/\v'=.nilIface/\u'=c₀.mode)\/recoverD (c₀::cs)=some (v',{ c₀ with mode:=u' }::cs)):=by
 generalize hu:c₀.mode=u at h
 cases h with
 | ret=>exact ⟨.nilIface,.returning,.nili,.ret,.inl ⟨by simp [recoverD,hu],rfl,rfl⟩⟩
 | pan ch ch' k =>
  cases k with
  | nil=>exact ⟨.nilIface,_,.nili,.pan [] [] .nil,.inl ⟨by simp [recoverD,hu],rfl,rfl⟩⟩
  | cons v v' re l l' h1 h2 =>
   cases re with
   | true=>exact ⟨.nilIface,_,.nili,.pan _ _ (.cons v v' true l l' h1 h2),.inl ⟨by simp [recoverD,hu],rfl,rfl⟩⟩
   | false=>exact ⟨v',_,h1,.pan _ _ (.cons v v' true l l' h1 h2),.inr (by simp [recoverD,hu])⟩
theorem VI (ok:EnvOk E P nm) {rec_:Rec} (hcode:dY E P nm rec_.code) (hc:b7 E P nm rec_.call):gK E P nm (callD E rec_):=by
 intro f args m A m' A' hx K base φ w args' u h hg ha hm
 unfold callD at hx
 split at hx
 ·cases hx
 rename_i fn hfn
 have hfn':=ok.fn _ _ hfn
 split at hx
 case h_2=>cases hx
 rename_i id ops rest hbd
 split at hx
 case h_2=>cases hx
 rename_i o os hops
 split at hx
 case h_2=>cases hx
 rename_i ts ho hgd
 split at hx
 case isFalse=>cases hx
 rename_i hlen
 split at hx
 case h_2=>cases hx
 rename_i fr0 hput
 split at hx
 case h_2=>cases hx
 rename_i fr A0 hopsr
 split at hx
 case h_2=>cases hx
 rename_i out fr1 A1 hrun
 split at hx
 case h_2=>cases hx
 rename_i v0 hmo hmk hres
 cases hx
 refine callsD_of_wpS hfn' hbd fun c₀ cs hc₀=>?_
 have hsz:args.length=args'.size:=by simpa using ha.1
 have hf0:FrR nm φ fn.ntmps { tm:=T.ofList args,marks:=[] } { tmps:=args'++Array.replicate (fn.ntmps - args'.size) undef,defers:=[] }:=by
  refine ⟨by simp;omega,fun t=>?_,.nil⟩
  simp only [T.get_ofList]
  rcases Nat.lt_or_ge t args.length with g | g
  ·have h1:=ha.2 t g
   rw [List.getElem?_eq_getElem g]
   have e2:(args'++Array.replicate (fn.ntmps - args'.size) undef).getD t undef=args'.toList.getD t undef:=by
    rw [ep,Array.getD_eq_getD_getElem?,Array.getElem?_append_left (by omega),Array.getD_eq_getD_getElem?]
   rw [e2]
   rw [List.getD_eq_getElem?_getD,List.getElem?_eq_getElem g] at h1
   exact h1
  ·rw [List.getElem?_eq_none g]
   have e2:(args'++Array.replicate (fn.ntmps - args'.size) undef).getD t undef=undef:=by
    rw [Array.getD_eq_getD_getElem?,Array.getElem?_append_right (by omega),Array.getElem?_replicate]
    split <;> rfl
   rw [e2]
   exact .undef
 subst hc₀
 obtain ⟨v',u',r1,r2,r3⟩:=VH (cs:=cs) hm
 have hf1:=hf0.put r1 hput
 have rest_ok:∀ φ0 a0 w0,Emb.ext A.next φ φ0->A.next<=A0.next->WR nm K base φ0 A0 w0->FrR nm φ0 fn.ntmps fr a0->∀ cs1,cs1={ c₀ with mode:=u' }::cs->rest.wpS P (bodyPostS P fn c₀ cs fun e u' w'=>(∃ v,e=.returned v)/\∃ φ',Emb.ext A.next φ φ'/\A.next<=A'.next/\WR nm K base φ' A' w'/\ModeR nm φ' (eo m).2 u')
   a0 cs1 w0:=by
  intro φ0 a0 w0 k1 k2 k3 k4 cs1 hcs1
  refine wpS_of_wp (wp_mono (hcode _ _ _ _ _ _ _ hrun K base φ0 _ w0 k3 (hg.mono (h.le k1)) k4) ?_)
  rintro e a1 w1 ⟨φ1,e1,e2,e3,e4,e5⟩
  obtain ⟨v1,q1,q2⟩:=wR ok e3 e4 hres
  have hd:a1.defers=[]:=by
   have:=e4.marks
   rw [hmk] at this
   revert this
   generalize a1.defers=d
   intro this
   cases this
   rfl
  have hR:(∃ v,(Ending.returned v1)=.returned v)/\∃ φ',Emb.ext A.next φ φ'/\A.next<=A'.next/\WR nm K base φ' A' w1/\ModeR nm φ' (eo m).2 u':=⟨⟨v1,rfl⟩,φ1,Emb.ext_trans k1 e1 k2,Nat.le_trans k2 e2,e3,r2.mono (Emb.le_trans (h.le k1) (k3.le e1))⟩
  cases e5 with
  | norm=>exact ⟨hd,u',hcs1,v1,q2,hR⟩
  | ret=>exact ⟨hd,u',hcs1,v1,q2,hR⟩
  | exit id=>cases hmo
  | pan ch ch' k=>cases hmo
  | goto l=>cases hmo
 refine wpS_seq (wpS_region ?_)
 have hi:ops[0]? = some o:=by
  have:ops.toList[0]? = some o:=by rw [hops];rfl
  simpa using this
 have hsize:ops.size=os.length+1:=by
  have:ops.toList.length=os.length+1:=by rw [hops];rfl
  simpa using this
 have hw:Region.wanted o (yielded ops (args'++Array.replicate (fn.ntmps - args'.size) undef))=true:=by
  unfold Region.wanted
  rw [hgd]
 have hrec:(execOp (({ tmps:=args'++Array.replicate (fn.ntmps - args'.size) undef,defers:=[] }:Act).eval) o).run P w=.ok .recover w:=by
  unfold execOp
  rw [ho]
  rfl
 have go:∀ cs1,cs1={ c₀ with mode:=u' }::cs->wpOpsS P ops (Exit.thenS (rest.wpS P (bodyPostS P fn c₀ cs fun e u' w'=>(∃ v,e=.returned v)/\∃ φ',Emb.ext A.next φ φ'/\A.next<=A'.next/\WR nm K base φ' A' w'/\ModeR nm φ' (eo m).2 u')) (bodyPostS P fn c₀ cs fun e u' w'=>(∃ v,e=.returned v)/\∃ φ',Emb.ext A.next φ φ'/\A.next<=A'.next/\WR nm K base φ' A' w'/\ModeR nm φ' (eo m).2 u')) (List.range' 1 os.length)
   (({ tmps:=args'++Array.replicate (fn.ntmps - args'.size) undef,defers:=[] }:Act).put o.dst v') cs1 w:=by
  intro cs1 hcs1
  refine xk ok hc os 1 φ A w fr0 fr A0 _ (by rw [hops];rfl) h hg hf1 (kY hopsr) ?_
  rintro a0 w0 ⟨φ0,k1,k2,k3,k4⟩
  exact rest_ok φ0 a0 w0 k1 k2 k3 k4 cs1 hcs1
 rw [show List.range ops.size=0::List.range' 1 os.length by rw [hsize,List.range_eq_range',List.range'_succ]]
 simp only [wpOpsS,hi,hw,if_true,hrec]
 rcases r3 with ⟨q1,q2,q3⟩ | q1
 ·rw [q1]
  subst q2
  exact go _ (by rw [q3])
 ·rw [q1]
  exact go _ rfl
theorem VJ (ok:EnvOk E P nm) {rec_:Rec} (hcode:dY E P nm rec_.code) (hcd:gK E P nm rec_.callD) (hbody:∀ g as m A r,rec_.callD g as m A=some r->∃ fn,E.fn.get g=some fn/\fn.body.isSome=true):b7 E P nm (fj E rec_):=by
 intro f args A v A' hx K base φ w args' h hg ha
 unfold fj at hx
 split at hx
 ·rename_i k hk
  split at hx
  ·rename_i hl
   cases hx
   exact np ok hk hl h hg ha
  ·cases hx
 ·split at hx
  ·rename_i u hu
   cases hx
   exact VB ok hu h ha
  ·exact VE ok hcode hcd hbody f args A v A' hx K base φ w args' h hg ha
theorem VK (ok:EnvOk E P nm) {rec_:Rec} (hc:b7 E P nm rec_.call) {nt:Nat} {f:Operand} {ps:Array Tmp} {assign body:Code} {fr fr':Fr} {out:Out}
  (hx:fh E rec_ f fr A=some (out,fr',A')) (h:WR nm K base φ A w) (hg:Gl E φ) {a:Act} (hf:FrR nm φ nt fr a) :
  (Code.rangeFunc f ps assign body).wp P (PostC nm K base φ A nt out fr' A') a w:=by
 unfold fh at hx
 simp only [] at hx
 split at hx
 case isFalse=>cases hx
 rename_i hlit
 split at hx
 ·cases hx
 rename_i d hd
 split at hx
 case h_2=>cases hx
 rename_i g args A2 hinv
 split at hx
 case h_2=>cases hx
 rename_i v3 A3 hcall
 split at hx
 case h_2=>cases hx
 rename_i hloop
 cases hx
 intro b k cs
 -- the two new blocks
 let L:Loop:={ state:=.ready,pending:=none,fn:=b.fn,tmps:=a.tmps,params:=ps,assign,body,defers:=w.heap.size }
 let p1:Pl:=bQ w 0
 let w1:=w.alloc (.deferred (some []))
 let A1:St:={ A with next:=A.next+1,h:=A.h.set A.next .defd }
 have hn1:=h.dom A.next (Nat.le_refl _)
 have hW1:WR nm K base (φ.upd A.next p1) A1 w1:=h.new A.next p1 .defd _ (A.next+1) hn1 (Nat.le_succ _) (Nat.lt_succ_self _) rfl (by show (w.heap.push _)[w.heap.size]? = _;simp) rfl
 have hle1:φ.le (φ.upd A.next p1):=Emb.upd_le p1 hn1
 let p2:Pl:=bQ w1 0
 let w2:=w1.alloc (.loop L)
 let A1':St:={ A with next:=A.next+2,h:=(A.h.set A.next .defd).set (A.next+1) (.loop { state:=.ready,pending:=none }) }
 have hn2:=hW1.dom (A.next+1) (Nat.le_refl _)
 have hW2:WR nm K base ((φ.upd A.next p1).upd (A.next+1) p2) A1' w2:=hW1.new (A.next+1) p2 (.loop { state:=.ready,pending:=none }) _ (A.next+2) hn2 (Nat.le_succ _) (Nat.lt_succ_self _) rfl
  ⟨L,by show (w1.heap.push _)[w1.heap.size]? = _;simp,⟨rfl,rfl⟩⟩ rfl
 have hle2:(φ.upd A.next p1).le ((φ.upd A.next p1).upd (A.next+1) p2):=Emb.upd_le p2 hn2
 generalize hφ2:(φ.upd A.next p1).upd (A.next+1) p2=φ2 at hW2 hle2
 have hle:φ.le φ2:=Emb.le_trans hle1 hle2
 have hm2:φ2 A.next=some p1:=hle2 _ _ (Emb.upd_same _ _ _)
 have hl2:φ2 (A.next+1)=some p2:=by rw [<- hφ2];exact Emb.upd_same _ _ _
 have hext:Emb.ext A.next φ φ2:=by
  intro c hcn
  rw [<- hφ2,Emb.upd_other _ _ (by omega),Emb.upd_other _ _ (by omega)]
 have hf2:=hf.mono hle
 have hg2:=hg.mono hle
 have henterL:(Instr.enterLoop b.fn a.tmps ps assign body none).run P w=.ok (w1.heap.size,[{ target:=.collected w.heap.size,args:=#[] }]) w2:=by
  simp only [Instr.enterLoop,Sem.run_bind,m0,Sem.run_pure,Result.andThen_ok]
  rfl
 -- what is called
 have hres:∃ d',DR nm φ2 d d'/\∀ w:World,(resolve a.eval (rangeCall f w1.heap.size) 0).run P w=.ok d' w:=by
  have hyield:VR nm φ2 (.func (.yield (A.next+1)) #[] #[]) (.func (.yield w1.heap.size) #[] #[]):=.func' (.yield _ _ p2 hl2 rfl) .nil .nil
  have hargs:AR nm φ2 #[Value.func (.yield (A.next+1)) #[] #[]] #[Value.func (.yield w1.heap.size) #[] #[]]:=.cons hyield .nil
  have hr:=m5 hf2 hg2 f hlit
  unfold dP at hd
  simp only [] at hd
  split at hd
  ·rename_i fn first cap hv
   cases hd
   rw [hv] at hr
   obtain ⟨f',a',b',e,h1,h2,h3⟩:=hr.func_inv
   refine ⟨_,⟨.fn _ _ _ _ h1 h3,?_⟩,fun w=>by simp only [resolve,e];rfl⟩
   simpa [AR,aD,Act.eval] using LR.append h2 hargs
  ·rename_i hv
   cases hd
   rw [hv] at hr
   have e:a.eval f=.nilFunc:=hr.nilf_inv
   have hargs':AR nm φ2 (Array.map (aD fr) #[.const (.func (.yield (A.next+1)) #[] #[])]) (Array.map a.eval #[.const (.func (.yield w1.heap.size) #[] #[])]):=by simpa [aD,Act.eval] using hargs
   exact ⟨_,⟨.nil,hargs'⟩,fun w=>by simp only [resolve,e,Deferred.ofValue];rfl⟩
  ·cases hd
 obtain ⟨d',hdr,hres⟩:=hres
 obtain ⟨φ3,w3,g1,g2,g3,args',g4,g5,_⟩:=qT ok hW2 hdr.target hdr.args hinv
 have hle3:=hW2.le g1
 obtain ⟨e,w4,fr4,⟨φ4,v4,k1,k2,k3,k4,rfl⟩,hsteps,hfn,hleave⟩:=hc g args A2 v3 A3 hcall K base φ3 w3 args' g3 (hg2.mono hle3) g4 (b.at { a with defers:=[{ target:=.collected w.heap.size,args:=#[] }]++a.defers } (.inRangeFunc w1.heap.size::k)::cs)
 have hle4:=g3.le k1
 obtain ⟨q,hq,⟨L4,hL,hLR⟩,_⟩:=k3.obj (A.next+1) _ hloop rfl
 have hl4:φ4 (A.next+1)=some p2:=hle4 _ _ (hle3 _ _ hl2)
 rw [hl4] at hq;cases hq
 have hend:(Instr.endLoop w1.heap.size).run P w4=.ok none (aZ w4 p2.blk (.loop { L4 with state:=.exhausted })):=by
  have hL':w4.heap[w1.heap.size]? = some (.loop L4):=hL
  have hst:L4.state=.ready:=hLR.state
  have hpd:L4.pending=none:=hLR.pending
  simp only [Instr.endLoop,Instr.getLoop,Sem.run_bind,bg (P:=P) hL' (by simp),Sem.run_pure,Result.andThen_ok,hst]
  rw [if_neg (by decide)]
  simp only [Sem.run_bind,dM (P:=P) hL' (by simp),Result.andThen_ok,Sem.run_pure,hpd]
  rfl
 have hlt:=k3.lt _ _ hl4
 have hW5:WR nm K base φ4 (A3.setObj (A.next+1) (.loop { state:=.exhausted,pending:=none })) (aZ w4 p2.blk (.loop { L4 with state:=.exhausted })) :=
  k3.setObj (o:=.loop _) (o':=.loop _) hloop rfl rfl (by simp) (by simp) rfl hl4 ⟨_,cd w4 _ hlt,⟨rfl,hLR.pending⟩⟩
 have hall:=Emb.le_trans hle3 hle4
 have s1:step P (lone (b.at a (.code (.rangeFunc f ps assign body)::k)) cs w)=.next (lone (Frame.enter P g args' .normal) (b.at { a with defers:=[{ target:=.collected w.heap.size,args:=#[] }]++a.defers } (.inRangeFunc w1.heap.size::k)::cs) w3) :=
  stepR_rangeFunc (P:=P) (b:={ b with roundOf:=none }) (a:=a) (k:=k) (cs:=cs) (w:=w) henterL (hres w2) g5
 have s2:=step_leave_returned (c:=b.at { a with defers:=[{ target:=.collected w.heap.size,args:=#[] }]++a.defers } (.inRangeFunc w1.heap.size::k)) (cs:=cs) hleave
 have s3:step P (lone (b.at { a with defers:=[{ target:=.collected w.heap.size,args:=#[] }]++a.defers } (.endRangeFunc w1.heap.size::k)) cs w4) =
   .next (lone (b.at { a with defers:=[{ target:=.collected w.heap.size,args:=#[] }]++a.defers } k) cs (aZ w4 p2.blk (.loop { L4 with state:=.exhausted }))) :=
  stepR_endRangeFunc (P:=P) (b:={ b with roundOf:=none }) (k:=k) (cs:=cs) hend
 have hfin:(b.at { a with defers:=[{ target:=.collected w.heap.size,args:=#[] }]++a.defers } (.inRangeFunc w1.heap.size::k)).finish v4=b.at { a with defers:=[{ target:=.collected w.heap.size,args:=#[] }]++a.defers } (.endRangeFunc w1.heap.size::k) :=
  finish_atR_inRangeFunc (b:={ b with roundOf:=none }) w1.heap.size v4
 rw [hfin] at s2
 refine ⟨.normal,{ a with defers:=[{ target:=.collected w.heap.size,args:=#[] }]++a.defers },_,⟨φ4,?_,?_,hW5,?_,.norm⟩,Steps.head s1 (Steps.trans hsteps (.head s2 (.one s3)))⟩
 ·exact Emb.ext_trans hext (Emb.ext_trans g1 k1 g2) (Nat.le_add_right _ _)
 ·exact Nat.le_trans (Nat.le_add_right A.next 2) (Nat.le_trans g2 k2)
 ·exact ⟨hf.size,fun t=>((hf2.tm t).mono hall),.cons _ p1 _ _ (hall _ _ hm2) ((hf2.marks).mono hall)⟩
theorem ji:∀ (c:Code) (l:Nat),labelIn c l=findLabel c l
 | .seq a b,l=>by
  simp only [labelIn,findLabel,ji a l,ji b l]
  cases findLabel a l <;> rfl
 | .label l',l=>by
  simp only [labelIn,findLabel]
  cases hb:Nat.beq l' l with
  | true=>rw [Nat.eq_of_beq_eq_true hb];simp
  | false =>
   have:(l'==l)=false:=beq_eq_false_iff_ne.2 fun e=>by rw [e,Nat.beq_refl] at hb;cases hb
   rw [this]
 | .skip,_ | .cond _ _ _,_ | .block _ _,_ | .loop _,_ | .scope _,_ | .exit _,_ | .goto _,_ | .ret,_ | .region _ _ _,_ | .rangeFunc _ _ _ _,_ | .refuse _,_=>rfl
theorem VL {rec_:Rec} (hcode:dY E P nm rec_.code) {nt:Nat} {b:Code} (h:WR nm K base φ A w) (hg:Gl E φ) {b0:Frame} {k:List Item} {cs:List Frame} {m:Machine} {out:Out} {fr':Fr}:∀ (n:Nat) (o1:Out) (fr1:Fr) (A1:St),
  bp rec_ nt b n (some (o1,fr1,A1))=some (out,fr',A')->(∃ e a1 w1,PostC nm K base φ A nt o1 fr1 A1 e a1 w1/\Arrives P m b0 (.inScope b::k) cs e a1 w1)->∃ e a' w',PostC nm K base φ A nt out fr' A' e a' w'/\Arrives P m b0 k cs e a' w':=by
 intro n
 induction n with
 | zero =>
  intro o1 fr1 A1 hx ⟨e,a1,w1,⟨φ',e1,e2,e3,e4,e5⟩,harr⟩
  cases e5 with
  | norm=>cases hx;exact ⟨_,a1,w1,⟨φ',e1,e2,e3,e4,.norm⟩,Steps.trans harr (.one step_inScope)⟩
  | ret=>cases hx;exact ⟨_,a1,w1,⟨φ',e1,e2,e3,e4,.ret⟩,harr⟩
  | exit id=>cases hx;exact ⟨_,a1,w1,⟨φ',e1,e2,e3,e4,.exit id⟩,fun k' hk=>harr k' (by simp [exitTo,hk])⟩
  | pan ch ch' kk=>cases hx;exact ⟨_,a1,w1,⟨φ',e1,e2,e3,e4,.pan ch ch' kk⟩,harr⟩
  | goto l =>
   simp only [bp] at hx
   split at hx
   ·rename_i hl
    cases hx
    rw [ji] at hl
    exact ⟨_,a1,w1,⟨φ',e1,e2,e3,e4,.goto l⟩,fun k' hk=>harr k' (by simp [gotoIn,hl,hk])⟩
   ·cases hx
 | succ n ih =>
  intro o1 fr1 A1 hx ⟨e,a1,w1,⟨φ',e1,e2,e3,e4,e5⟩,harr⟩
  cases e5 with
  | norm=>cases hx;exact ⟨_,a1,w1,⟨φ',e1,e2,e3,e4,.norm⟩,Steps.trans harr (.one step_inScope)⟩
  | ret=>cases hx;exact ⟨_,a1,w1,⟨φ',e1,e2,e3,e4,.ret⟩,harr⟩
  | exit id=>cases hx;exact ⟨_,a1,w1,⟨φ',e1,e2,e3,e4,.exit id⟩,fun k' hk=>harr k' (by simp [exitTo,hk])⟩
  | pan ch ch' kk=>cases hx;exact ⟨_,a1,w1,⟨φ',e1,e2,e3,e4,.pan ch ch' kk⟩,harr⟩
  | goto l =>
   simp only [bp] at hx
   split at hx
   ·rename_i hl
    cases hx
    rw [ji] at hl
    exact ⟨_,a1,w1,⟨φ',e1,e2,e3,e4,.goto l⟩,fun k' hk=>harr k' (by simp [gotoIn,hl,hk])⟩
   ·rename_i rest hl
    rw [ji] at hl
    cases hr:rec_.code nt rest fr1 A1 with
    | none =>
     rw [hr] at hx
     cases n <;> cases hx
    | some y =>
     obtain ⟨o2,fr2,A2⟩:=y
     rw [hr] at hx
     refine ih o2 fr2 A2 hx ?_
     have harr1:=harr (.code rest::.inScope b::k) (by simp [gotoIn,hl])
     obtain ⟨e',a2,w2,hA,harr2⟩:=hcode _ _ _ _ _ _ _ hr K base φ' a1 w1 e3 (hg.mono (h.le e1)) e4 b0 (.inScope b::k) cs
     exact ⟨e',a2,w2,hA.trans e1 e2,.of_steps harr1 harr2⟩
theorem VM {rec_:Rec} (hcode:dY E P nm rec_.code) {nt:Nat} {b:Code} {fr fr':Fr} {out:Out} (hx:bp rec_ nt b 4 (rec_.code nt b fr A)=some (out,fr',A')) (h:WR nm K base φ A w) (hg:Gl E φ) {a:Act} (hf:FrR nm φ nt fr a) :
  (Code.scope b).wp P (PostC nm K base φ A nt out fr' A') a w:=by
 intro b0 k cs
 cases hr:rec_.code nt b fr A with
 | none=>rw [hr] at hx;cases hx
 | some y =>
  obtain ⟨o1,fr1,A1⟩:=y
  rw [hr] at hx
  refine VL hcode h hg 4 o1 fr1 A1 hx ?_
  obtain ⟨e,a1,w1,hA,harr⟩:=hcode _ _ _ _ _ _ _ hr K base φ a w h hg hf b0 (.inScope b::k) cs
  exact ⟨e,a1,w1,hA,.of_steps (.one step_scope) harr⟩
theorem VN (ok:EnvOk E P nm) {rec_:Rec} (hcode:dY E P nm rec_.code) (hloop:jh E P nm rec_.code) (hc:b7 E P nm rec_.call) (hcp:iV E P nm rec_.callP):dY E P nm (a7 E rec_)/\jh E P nm (a7 E rec_):=by
 have loopY:jh E P nm (a7 E rec_):=by
  intro nt b fr A out fr' A' hx K base φ a w h hg hf b0 k cs
  unfold a7 at hx
  simp only [] at hx
  split at hx
  ·rename_i fr1 A1 hb
   obtain ⟨e,a1,w1,⟨φ',e1,e2,e3,e4,e5⟩,harr⟩:=hcode _ _ _ _ _ _ _ hb K base φ a w h hg hf b0 (.inLoop b::k) cs
   cases e5
   obtain ⟨e',a2,w2,hA,harr2⟩:=hloop _ _ _ _ _ _ _ hx K base φ' a1 w1 e3 (hg.mono (h.le e1)) e4 b0 k cs
   exact ⟨e',a2,w2,hA.trans e1 e2,.of_steps (Steps.trans harr (.one step_inLoop)) harr2⟩
  ·rename_i hne
   obtain ⟨e,a1,w1,⟨φ',e1,e2,e3,e4,e5⟩,harr⟩:=hcode _ _ _ _ _ _ _ hx K base φ a w h hg hf b0 (.inLoop b::k) cs
   have hout:out≠.norm:=by
    rintro rfl
    exact hne _ _ hx
   refine ⟨e,a1,w1,⟨φ',e1,e2,e3,e4,e5⟩,.pass (x:=.inLoop b) rfl (fun _ _=>.inl ?_) harr⟩
   cases e5 with
   | norm=>exact absurd rfl hout
   | ret=>simp
   | exit id=>simp
   | pan ch ch' k=>simp
   | goto l=>simp
 refine ⟨?_,loopY⟩
 intro nt c fr A out fr' A' hx K base φ a w h hg hf
 cases c with
 | skip =>
  simp only [a7,Option.some.injEq,Prod.mk.injEq] at hx
  obtain ⟨rfl,rfl,rfl⟩:=hx
  exact wp_skip ⟨φ,Emb.ext_refl _ _,Nat.le_refl _,h,hf,.norm⟩
 | label l =>
  simp only [a7,Option.some.injEq,Prod.mk.injEq] at hx
  obtain ⟨rfl,rfl,rfl⟩:=hx
  exact wp_label ⟨φ,Emb.ext_refl _ _,Nat.le_refl _,h,hf,.norm⟩
 | exit id =>
  simp only [a7,Option.some.injEq,Prod.mk.injEq] at hx
  obtain ⟨rfl,rfl,rfl⟩:=hx
  exact wp_exit ⟨φ,Emb.ext_refl _ _,Nat.le_refl _,h,hf,.exit id⟩
 | ret =>
  simp only [a7,Option.some.injEq,Prod.mk.injEq] at hx
  obtain ⟨rfl,rfl,rfl⟩:=hx
  exact wp_ret ⟨φ,Emb.ext_refl _ _,Nat.le_refl _,h,hf,.ret⟩
 | seq x y =>
  simp only [a7] at hx
  refine wp_seq ?_
  split at hx
  ·rename_i fr1 A1 hb
   refine wp_mono (hcode _ _ _ _ _ _ _ hb K base φ a w h hg hf) ?_
   rintro e a1 w1 ⟨φ',e1,e2,e3,e4,e5⟩
   cases e5
   refine wp_mono (hcode _ _ _ _ _ _ _ hx K base φ' a1 w1 e3 (hg.mono (h.le e1)) e4) ?_
   rintro e a2 w2 hA
   exact hA.trans e1 e2
  ·rename_i hne
   refine wp_mono (hcode _ _ _ _ _ _ _ hx K base φ a w h hg hf) ?_
   rintro e a1 w1 ⟨φ',e1,e2,e3,e4,e5⟩
   cases e5 with
   | norm=>exact absurd hx (hne _ _)
   | ret=>exact ⟨φ',e1,e2,e3,e4,.ret⟩
   | exit id=>exact ⟨φ',e1,e2,e3,e4,.exit id⟩
   | pan ch ch' k=>exact ⟨φ',e1,e2,e3,e4,.pan ch ch' k⟩
   | goto l=>exact ⟨φ',e1,e2,e3,e4,.goto l⟩
 | cond x t e =>
  simp only [a7] at hx
  have hb:∀ v:Bool,aD fr x=.bool v->a.eval x=.bool v:=by
   intro v hv
   cases x with
   | tmp t =>
    have:=hf.tm t
    have e1:aD fr (.tmp t)=(fr.tm.get t).getD undef:=rfl
    rw [<- e1,hv] at this
    exact this.bool_inv
   | const c=>exact hv
   | global g=>exact hv
   | func g=>exact hv
  split at hx
  ·rename_i hv
   exact wp_cond_true (hb _ hv) (hcode _ _ _ _ _ _ _ hx K base φ a w h hg hf)
  ·rename_i hv
   exact wp_cond_false (hb _ hv) (hcode _ _ _ _ _ _ _ hx K base φ a w h hg hf)
  ·cases hx
 | block id b =>
  simp only [a7] at hx
  refine wp_block ?_
  split at hx
  ·rename_i id' fr1 A1 hb
   cases hx
   refine wp_mono (hcode _ _ _ _ _ _ _ hb K base φ a w h hg hf) ?_
   rintro e a1 w1 ⟨φ',e1,e2,e3,e4,e5⟩
   cases e5
   show if id'=id then _ else _
   by_cases hid:id'=id
   ·rw [if_pos hid]
    refine ⟨φ',e1,e2,e3,e4,?_⟩
    rw [if_pos hid];exact .norm
   ·rw [if_neg hid]
    refine ⟨φ',e1,e2,e3,e4,?_⟩
    rw [if_neg hid];exact .exit id'
  ·rename_i hne
   refine wp_mono (hcode _ _ _ _ _ _ _ hx K base φ a w h hg hf) ?_
   rintro e a1 w1 ⟨φ',e1,e2,e3,e4,e5⟩
   cases e5 with
   | norm=>exact ⟨φ',e1,e2,e3,e4,.norm⟩
   | ret=>exact ⟨φ',e1,e2,e3,e4,.ret⟩
   | exit id'=>exact absurd hx (hne _ _ _)
   | pan ch ch' k=>exact ⟨φ',e1,e2,e3,e4,.pan ch ch' k⟩
   | goto l=>exact ⟨φ',e1,e2,e3,e4,.goto l⟩
 | loop b =>
  intro b0 k cs
  obtain ⟨e,a1,w1,hp,harr⟩:=loopY nt b fr A out fr' A' hx K base φ a w h hg hf b0 k cs
  exact ⟨e,a1,w1,hp,.of_steps (.one step_loop) harr⟩
 | scope b =>
  simp only [a7] at hx
  exact VM hcode hx h hg hf
 | goto l =>
  simp only [a7,Option.some.injEq,Prod.mk.injEq] at hx
  obtain ⟨rfl,rfl,rfl⟩:=hx
  exact wp_goto ⟨φ,Emb.ext_refl _ _,Nat.le_refl _,h,hf,.goto l⟩
 | region id ops draw =>
  simp only [a7] at hx
  cases draw with
  | true =>
   simp only [if_true] at hx
   split at hx
   ·rename_i fr1 A1 hd
    cases hx
    exact Uv ok hc h hg hf hd fun a1 w1 hA=>PostC.of_aft hA
   ·cases hx
  | false =>
   simp only [Bool.false_eq_true,if_false] at hx
   rcases nA hx with rfl | ⟨ch,rfl,hd⟩
   ·have hd:=kY hx
    refine wp_region ?_
    have:=xh (Q:=PostC nm K base φ A nt .norm fr' A') ok hc ops.toList 0 φ A w fr fr' A' a (by simp) h hg hf hd fun a1 w1 hA=>PostC.of_aft hA
    rw [List.range_eq_range']
    simpa using this
   ·refine wp_region ?_
    have:=xl (Q:=PostC nm K base φ A nt (.pan ch) fr' A') ok hc hcp ops.toList 0 φ A w fr fr' A' a (by simp) h hg hf hd fun φ' ch' a1 w1 k1 k2 k3 k4 k5=>⟨φ',k1,k2,k3,k4,.pan ch ch' k5⟩
    rw [List.range_eq_range']
    simpa using this
 | rangeFunc f ps assign body =>
  simp only [a7] at hx
  exact VK ok hc hx h hg hf
 | _=>simp [a7] at hx
structure BigOK (E:Env) (P:Program) (nm:Nm) (r:Rec):Prop where
 code:dY E P nm r.code
 loop:jh E P nm r.code
 call:b7 E P nm r.call
 callP:iV E P nm r.callP
 callD:gK E P nm r.callD
 body:∀ g as m A x,r.callD g as m A=some x->∃ fn,E.fn.get g=some fn/\fn.body.isSome=true
theorem mF (ok:EnvOk E P nm):∀ n,BigOK E P nm (big E n)
 | 0=>{ code:=fun nt c fr A out fr' A' hx=>by simp [big] at hx,loop:=fun nt c fr A out fr' A' hx=>by simp [big] at hx,call:=fun f args A v A' hx=>by simp [big,Rec.call] at hx,callP:=fun f args A v A' hx=>by simp [big,Rec.callP] at hx,callD:=fun f args m A m' A' hx=>by simp [big] at hx,body:=fun g as m A x hx=>by simp [big] at hx }
 | n+1=>by
  have ih:=mF ok n
  obtain ⟨g1,g2⟩:=VN ok ih.code ih.loop ih.call ih.callP
  exact { code:=g1,loop:=g2,call:=fun f args A v A' hx=>VJ ok ih.code ih.callD ih.body f args A v A' (by rw [<- hx];exact kV.symm),callP:=fun f args A v A' hx=>VF ok ih.code ih.callD ih.body f args A v A' (by rw [<- hx];exact xo.symm),callD:=VI ok ih.code ih.call,body:=fun g as m A x hx=>VG hx }
theorem wU (ok:EnvOk E P nm) (n:Nat):dY E P nm (big E n).code/\jh E P nm (big E n).code/\b7 E P nm (big E n).call :=
 ⟨(mF ok n).code,(mF ok n).loop,(mF ok n).call⟩
end
end Go.AM
namespace Go.AM
section
variable {E:Env} {P:Program} {nm:Nm}
def mG (r:GRow):AObj:=.row { own:=false,size:=r.cells.length,cells:=T.ofList r.cells,elem:=r.elem,esz:=0,opn:=false,grp:=r.g,frz:=0,sb:=false }
def fO (n:Nat) (rows:List GRow):St:={ next:=n,h:=rows.foldl (fun h r=>h.set r.g (mG r)) T.nil,g:=T.nil }
theorem VO (rows:List GRow):∀ (h:T AObj) (b:Nat) (o:AObj),(rows.foldl (fun h r=>h.set r.g (mG r)) h).get b=some o->h.get b=some o\/∃ r,r∈rows/\r.g=b/\o=mG r:=by
 induction rows with
 | nil=>intro h b o hb;exact .inl hb
 | cons r rows ih =>
  intro h b o hb
  rcases ih _ b o hb with g | ⟨r',g1,g2⟩
  ·by_cases e:b=r.g
   ·subst e
    rw [T.get_set_same] at g
    cases g
    exact .inr ⟨r,by simp,rfl,rfl⟩
   ·rw [T.get_set_other _ _ e] at g
    exact .inl g
  ·exact .inr ⟨r',by simp [g1],g2⟩
theorem iQ {α:Type} (b:Nat):(T.nil:T α).get b=none:=by
 have:=T.get_ofList ([]:List α) b
 simpa [T.ofList,T.setL] using this
def eX (w:World) (n:Nat):Emb:=fun b=>if b < n then some { blk:=b,off:=0,csz:=(match w.heap[b]? with | some (.cells c _ _)=>c.size | _=>0),esz:=0,opn:=false } else none
theorem VP {n:Nat} {rows:List GRow} {w:World} (hn:n<=w.heap.size)
  (hrows:∀ r,r∈rows->r.g < n/\∃ fz,w.heap[r.g]? = some (.cells r.cells.toArray r.elem fz)) (hplain:∀ r,r∈rows->∀ v,v∈r.cells->VR nm (eX w n) v v) :
  WR nm (fun b=>w.heap[b]?) w (eX w n) (fO n rows) w:=by
 have hφ:∀ b p,eX w n b=some p->b < n/\p.blk=b/\p.off=0:=by
  intro b p hb
  unfold eX at hb
  split at hb
  ·cases hb;exact ⟨by assumption,rfl,rfl⟩
  ·cases hb
 have hget:∀ b o,(fO n rows).h.get b=some o->∃ r,r∈rows/\r.g=b/\o=mG r:=by
  intro b o hb
  rcases VO rows T.nil b o hb with g | g
  ·rw [iQ] at g;cases g
  ·exact g
 refine { dom:=?_,lt:=?_,obj:=?_,key:=fun b o h=>h,sep:=?_,tip:=?_,grp:=?_,env:=⟨rfl,rfl,rfl⟩,size:=Nat.le_refl _,old:=?_ }
 ·intro b hb
  have hb':n<=b:=hb
  unfold eX
  rw [if_neg (by omega)]
 ·intro b p hb
  obtain ⟨h1,h2,_⟩:=hφ b p hb
  omega
 ·intro b o hb hl
  obtain ⟨r,h1,rfl,rfl⟩:=hget b o hb
  obtain ⟨h2,fz,h3⟩:=hrows r h1
  refine ⟨_,by unfold eX;rw [if_pos h2],?_,?_⟩
  ·refine ⟨r.cells.toArray,fz,{ blk:=h3,csz:=?_,opn:=rfl,esz:=fun h=>(by cases h),fit:=?_,cell:=?_,frz:=fun h=>(by cases h),sb:=fun h=>(by cases h),exact:=fun _=>⟨rfl,by simp⟩ }⟩
   ·simp [h3]
   ·simp
   ·intro i hi
    have hi':i < r.cells.length:=hi
    refine ⟨r.cells[i],(T.get_ofList _ _).trans (List.getElem?_eq_getElem hi'),?_⟩
    have:r.cells.toArray.getD (0+i) undef=r.cells[i]:=by
     rw [Nat.zero_add,Array.getD_eq_getD_getElem?]
     simp [hi']
    rw [this]
    exact hplain r h1 _ (List.getElem_mem hi')
  ·show (w.heap[r.g]?).isNone=false
   rw [h3];rfl
 ·intro b c o u p q hbc hb hc lo lu oo
  obtain ⟨r,_,_,rfl⟩:=hget b o hb
  cases oo
 ·intro g m ms hg
  rw [show (fO n rows).g=T.nil from rfl,iQ] at hg
  cases hg
 ·intro g ms hg
  rw [show (fO n rows).g=T.nil from rfl,iQ] at hg
  cases hg
 ·intro b o p hb hl ho hp
  obtain ⟨h1,h2,_⟩:=hφ b p hp
  omega
theorem wV {K:Kp} {φ:Emb} {A':St} {w w':World} (hK:K=fun b=>w.heap[b]?) (h:WR nm K w φ A' w'):w.keptBut w' (fun _=>False):=by
 subst hK
 refine ⟨h.env.2.1,h.env.2.2,fun i hi=>?_⟩
 have hw:w.heap[i]? = some w.heap[i]:=Array.getElem?_eq_getElem hi
 have hw':=h.key i _ hw
 rw [hw,hw']
 cases w.heap[i] <;> simp
def eY:List String:=["internal/bytealg.IndexByteString", "internal/bytealg.IndexByte", "internal/abi.NoEscape", "internal/bytealg.abigen_runtime_cmpstring", "internal/bytealg.CountString"]
theorem VQ:eY.all (fun n=>(Extern.allGenericRows.lookup n).isNone&&(Extern.allTypedRows.lookup n).isNone&&(Extern.allNextRows.lookup n).isNone)=true:=by kernel_rfl
theorem VS:Extern.allRows.lookup "internal/bytealg.IndexByteString" = some Extern.BytealgIndexByte.indexByte:=by kernel_rfl
theorem VT:Extern.allRows.lookup "internal/bytealg.IndexByte" = some Extern.BytealgIndexByte.indexByte:=by kernel_rfl
theorem VU:Extern.allRows.lookup "internal/abi.NoEscape" = some Extern.AbiNoEscape.same:=by kernel_rfl
theorem VV:Extern.allRows.lookup "internal/bytealg.abigen_runtime_cmpstring" = some Extern.BytealgCompare.compare:=by kernel_rfl
theorem VW:Extern.allRows.lookup "internal/bytealg.CountString" = some Extern.BytealgCount.count:=by kernel_rfl
theorem VX:∀ n,n∈eY->Extern.allRows.lookup n=some (rowOf n):=by
 intro n hn
 simp only [eY,List.mem_cons,List.mem_nil_iff,or_false] at hn
 rcases hn with rfl | rfl | rfl | rfl | rfl
 ·rw [VS];rfl
 ·rw [VT];rfl
 ·rw [VU];rfl
 ·rw [VV];rfl
 ·rw [VW];rfl
theorem p5 (P:Program) (h:P.funcs.all (fun g=>!(eY.contains g.name)||(Extern.allNextRows.lookup g.origin).isNone)=true) :
  ∀ (f:Nat) (g:Func),P.funcs[f]? = some g->g.body=none->g.name∈eY->Extern.findNext g=none/\Extern.find g=some (rowOf g.name):=by
 intro f g hf _ hn
 have h1:=List.all_eq_true.1 VQ g.name hn
 simp only [Bool.and_eq_true,Option.isNone_iff_eq_none] at h1
 obtain ⟨⟨e1,e2⟩,e3⟩:=h1
 have h2:=Array.all_eq_true_iff_forall_mem.1 h g (Array.mem_of_getElem? hf)
 have h3:(Extern.allNextRows.lookup g.origin)=none:=by
  have hc:eY.contains g.name=true:=List.contains_iff_mem.2 hn
  rw [hc] at h2
  simpa using h2
 refine ⟨?_,?_⟩
 ·unfold Extern.findNext
  simp only [e3,h3]
  rfl
 ·unfold Extern.find
  simp only [e1,e2,VX _ hn]
  rfl
theorem p6 (P:Program) (sl:List (List UInt8)) (hsl:∀ l,sl.contains l=true->nm.data.toList≠l) (hnames:P.funcs.all (fun g=>!(g.name == "runtime.NumGoroutine"))=true) (hmix:P.follows .mixedOrders=true)
  (hext:∀ (f:Nat) (g:Func),P.funcs[f]? = some g->g.body=none->g.name∈eY->Extern.findNext g=none/\Extern.find g=some (rowOf g.name)):EnvOk (jy P sl) P nm where
 prog:=rfl
 inf:=by
  intro t i h
  have:(T.ofList P.types.toList).get t=some i:=h
  rw [T.get_ofList] at this
  have h2:P.types[t]? = some i:=by simpa using this
  have hlt:=(Array.getElem?_eq_some_iff.1 h2).1
  unfold Tables.info?
  rw [if_pos hlt]
  exact h2
 fn:=by
  intro f g h
  have:(T.ofList P.funcs.toList).get f=some g:=h
  rw [T.get_ofList] at this
  simpa using this
 sl:=hsl
 names:=by
  intro f g h
  have:=Array.all_eq_true_iff_forall_mem.1 hnames g (Array.mem_of_getElem? h)
  simpa using this
 mix:=hmix
 known:=fun k hk=>by cases hk
 xt:=fun f as k hk=>by cases hk
 xr:=fun f cs rest v hk=>by cases hk
 ext:=fun f g h1 h2 h3=>hext f g h1 h2 (by simpa [eY,or_assoc] using h3)
theorem EnvOk.ng (ok:EnvOk E P nm) (n:Nat):EnvOk { E with ng:=n } P nm :=
 { prog:=ok.prog,inf:=ok.inf,fn:=ok.fn,sl:=ok.sl,names:=ok.names,mix:=ok.mix,known:=ok.known,xt:=ok.xt,xr:=ok.xr,ext:=ok.ext }
theorem EnvOk.knows (ok:EnvOk E P nm) (ks:List Known) (h:∀ k,k∈ks->KnownOk P nm k):EnvOk { E with known:=ks } P nm :=
 { prog:=ok.prog,inf:=ok.inf,fn:=ok.fn,sl:=ok.sl,names:=ok.names,mix:=ok.mix,known:=h,xt:=ok.xt,xr:=ok.xr,ext:=ok.ext }
theorem EnvOk.xts (ok:EnvOk E P nm) (xf:List FuncId) (xt:FuncId->List Value->Option Known) (h:∀ f as k,xt f as=some k->KnownOk P nm k/\k.f=f/\k.args=as):EnvOk { E with xf:=xf,xt:=xt } P nm :=
 { prog:=ok.prog,inf:=ok.inf,fn:=ok.fn,sl:=ok.sl,names:=ok.names,mix:=ok.mix,known:=ok.known,xt:=h,xr:=ok.xr,ext:=ok.ext }
theorem EnvOk.xrs (ok:EnvOk E P nm) (xj:List FuncId) (xr:FuncId->List Value->List Value->Option Value)
  (h:∀ f cs rest v,xr f cs rest=some v->cs.all aH=true->rest.all aH=true->∀ (w:World) (x:Value),kc w cs x->Calls P f (x::rest).toArray w fun e w'=>e=.returned v/\ke w w'):EnvOk { E with xj:=xj,xr:=xr } P nm :=
 { prog:=ok.prog,inf:=ok.inf,fn:=ok.fn,sl:=ok.sl,names:=ok.names,mix:=ok.mix,known:=ok.known,xt:=ok.xt,xr:=h,ext:=ok.ext }
def p7 (A:St) (r:KRow):Bool:=match A.h.get r.b with
 | some (.row x)=>x.own&&Nat.beq x.size r.cells.length&&(match x.cells.range 0 x.size with
  | some vs=>(vs.length==r.cells.length)&&(vs.zip r.cells).all fun p=>veq 40 p.1 p.2
  | none=>false)&&Nat.beq x.elem r.elem&&Nat.beq x.esz r.esz&&(x.opn==r.opn)&&Nat.beq x.frz r.frz&&(x.sb==r.sb)
 | _=>false
def distinct (A:St):List KRow->Bool
 | []=>true
 | r::l=>l.all (fun s=>match A.h.get r.b,A.h.get s.b with
  | some (.row x),some (.row y)=>!Nat.beq x.grp y.grp
  | _,_=>false)&&distinct A l
def p8 (k:Known) (r:Option (Value×St)):Bool:=match r with
 | some (v,A)=>veq 40 v k.v&&Nat.ble A.next k.cnt&&k.objs.all (p7 A)&&distinct A k.objs&&shallow 8 k.v&&(k.objs.all fun r=>r.cells.all (shallow 8))&&k.args.all aH&&k.looks.all (fun r=>r.cells.all aH)
 | none=>false
def cC:List GRow->Nat
 | []=>0
 | r::l=>max (r.g+1) (cC l)
theorem wW {r:GRow}:∀ {l:List GRow},r∈l->r.g < cC l
 | x::l,h=>by
  rcases List.mem_cons.1 h with rfl | h
  ·simp only [cC];omega
  ·have:=wW h
   simp only [cC];omega
theorem wX:∀ {l:List GRow},l=[]\/∃ r,r∈l/\cC l=r.g+1
 | []=>.inl rfl
 | x::l=>by
  right
  rcases wX (l:=l) with rfl | ⟨r,h1,h2⟩
  ·exact ⟨x,by simp,by simp [cC]⟩
  ·by_cases hc:x.g+1<=r.g+1
   ·exact ⟨r,by simp [h1],by simp only [cC];omega⟩
   ·exact ⟨x,by simp,by simp only [cC];omega⟩
def jj (f:Nat->TypeId) (l:List GRow):List GRow:=l.map fun r=>{ r with elem:=f r.g }
theorem iR (ok:EnvOk E P nm) {k:Known} {fuel:Nat} (hng:E.ng<=cC k.looks) (h:∀ f,p8 k ((big E fuel).call k.f k.args (fO (cC k.looks) (jj f k.looks)))=true):KnownOk P nm k:=by
 have parts:∀ f:Nat->TypeId,∃ v A',(big E fuel).call k.f k.args (fO (cC k.looks) (jj f k.looks))=some (v,A')/\veq 40 v k.v=true/\Nat.ble A'.next k.cnt=true/\k.objs.all (p7 A')=true/\distinct A' k.objs=true /\
   shallow 8 k.v=true/\(k.objs.all fun r=>r.cells.all (shallow 8))=true/\k.args.all aH=true/\k.looks.all (fun r=>r.cells.all aH)=true:=by
  intro f
  have h:=h f
  cases hq:(big E fuel).call k.f k.args (fO (cC k.looks) (jj f k.looks)) with
  | none=>rw [hq] at h;cases h
  | some r =>
   obtain ⟨v,A'⟩:=r
   rw [hq] at h
   simp only [p8,Bool.and_eq_true] at h
   obtain ⟨⟨⟨⟨⟨⟨⟨h1,h2⟩,h3⟩,h4⟩,h5⟩,h6⟩,h7⟩,h8⟩:=h
   exact ⟨v,A',rfl,h1,h2,h3,h4,h5,h6,h7,h8⟩
 obtain ⟨_,_,_,_,_,_,_,h5,h6,h7,h8⟩:=parts (fun _=>0)
 refine { calls:=fun w hrows=>?_,shal:=h5,shalR:=h6,plain:=h7 }
 ·let f:Nat->TypeId:=fun g=>match w.heap[g]? with
   | some (.cells _ t _)=>t
   | _=>0
  obtain ⟨v,A',hq,h1,h2,h3,h4,_⟩:=parts f
  have hn:cC k.looks<=w.heap.size:=by
   rcases wX (l:=k.looks) with e | ⟨r,e1,e2⟩
   ·rw [e];exact Nat.zero_le _
   ·obtain ⟨t,fz,hr⟩:=hrows r e1
    have:=(Array.getElem?_eq_some_iff.1 hr).1
    omega
  have hst:=VP (nm:=nm) (rows:=jj f k.looks) hn (fun r hr=>by
    obtain ⟨r0,e0,rfl⟩:=List.mem_map.1 hr
    obtain ⟨t,fz,e1⟩:=hrows r0 e0
    have hlt:=wW e0
    refine ⟨hlt,fz,?_⟩
    have:f r0.g=t:=by simp only [f,e1]
    show w.heap[r0.g]? = some (.cells r0.cells.toArray (f r0.g) fz)
    rw [this];exact e1)
   (fun r hr v hv=>by
    obtain ⟨r0,e0,rfl⟩:=List.mem_map.1 hr
    exact .of_plainV (List.all_eq_true.1 (List.all_eq_true.1 h8 r0 e0) v hv))
  have hg:Gl E (eX w (cC k.looks)):=fun g hgl=>⟨_,by unfold eX;rw [if_pos (by omega)],rfl,rfl⟩
  have hargs:LR nm (eX w (cC k.looks)) k.args k.args.toArray.toList:=by
   refine .of_get? (by simp) fun i v v' e1 e2=>?_
   rw [show k.args.toArray.toList=k.args from rfl,e1] at e2
   cases e2
   exact .of_plainV (List.all_eq_true.1 h7 v (List.mem_of_getElem? e1))
  refine Calls.mono ((wU ok fuel).2.2 k.f k.args _ v A' hq _ w _ w k.args.toArray hst hg hargs) ?_
  rintro e w' ⟨φ,v',_,e2,hW,hv,rfl⟩
  have hvk:v=k.v:=gQ 40 _ _ h1
  have hobj:∀ r,r∈k.objs->∃ x:Row,A'.h.get r.b=some (.row x)/\x.own=true/\x.size=r.cells.length/\(∀ i,i < r.cells.length->x.cells.get i=r.cells[i]?)/\x.elem=r.elem/\x.esz=r.esz/\x.opn=r.opn/\x.frz=r.frz/\x.sb=r.sb:=by
   intro r hr
   have:=List.all_eq_true.1 h3 r hr
   unfold p7 at this
   split at this
   ·rename_i x hx
    simp only [Bool.and_eq_true] at this
    obtain ⟨⟨⟨⟨⟨⟨⟨r1,r2⟩,r3⟩,r4⟩,r5⟩,r6⟩,r7⟩,r8⟩:=this
    have r2':x.size=r.cells.length:=Nat.eq_of_beq_eq_true r2
    split at r3
    ·rename_i vs hvs
     rw [Bool.and_eq_true] at r3
     obtain ⟨l1,l2⟩:=T.range_some _ _ _ _ hvs
     have hvs':vs=r.cells:=m9 (fun a b=>gQ 40 a b) vs r.cells (by simpa using r3.1) r3.2
     refine ⟨x,hx,r1,r2',fun i hi=>?_,Nat.eq_of_beq_eq_true r4,Nat.eq_of_beq_eq_true r5,by simpa using r6,Nat.eq_of_beq_eq_true r7,by simpa using r8⟩
     have:=l2 i (by omega)
     rw [Nat.zero_add] at this
     rw [this,hvs']
    ·cases r3
   ·cases this
  have hkey:=wV rfl hW
  refine ⟨φ,v',hW.lt,fun b hb=>hW.dom b (Nat.le_trans (Nat.le_of_ble_eq_true h2) hb),?_,?_,?_,hW.size,hW.env,hvk ▸ hv,rfl⟩
  ·intro r hr
   obtain ⟨x,x1,x2,x3,x4,x5,x6,x7,x8,x9⟩:=hobj r hr
   obtain ⟨p,p1,⟨cs,fz,p2⟩,p3⟩:=hW.obj r.b _ x1 rfl
   refine ⟨p,cs,fz,p1,?_,?_⟩
   ·exact { blk:=by rw [p2.blk,x5];rfl,csz:=p2.csz,opn:=by rw [p2.opn,x7];rfl,esz:=fun ho=>by rw [p2.esz (by rw [x7];exact ho),x6];rfl,fit:=by have:=p2.fit;rw [x3] at this;exact this,
            frz:=fun _ j a b c=>by have:=p2.frz x2 j a b c;rw [x8] at this;exact this,sb:=fun _ hs=>p2.sb x2 (by rw [x9];exact hs),
            exact:=fun ho=>by have:=p2.exact (by rw [x7];exact ho);rw [x3] at this;exact this,
            cell:=fun i hi=>by
             obtain ⟨u,c1,c2⟩:=p2.cell i (by rw [x3];exact hi)
             refine ⟨u,?_,c2⟩
             show (T.ofList r.cells).get i=some u
             rw [T.get_ofList,<- x4 i hi,c1] }
   ·have hown:(AObj.row x).own=true:=x2
    rw [hown] at p3
    rcases Nat.lt_or_ge p.blk w.heap.size with g | g
    ·rw [Array.getElem?_eq_getElem g] at p3;cases p3
    ·exact g
  ·intro r s p q hr hs hrs hp hq hblk
   obtain ⟨x,x1,x2,_⟩:=hobj r hr
   obtain ⟨y,y1,y2,_⟩:=hobj s hs
   obtain ⟨r',s',ms,z1,z2,z3,z4,z5,z6⟩:=hW.sep r.b s.b _ _ p q hrs x1 y1 rfl rfl x2 y2 hp hq hblk
   cases z1;cases z2
   have hd:∀ {l:List KRow},distinct A' l=true->r∈l->s∈l->x.grp≠y.grp:=by
    intro l
    induction l with
    | nil=>intro _ h;simp at h
    | cons t l ih =>
     intro hd hr hs
     simp only [distinct,Bool.and_eq_true] at hd
     rcases List.mem_cons.1 hr with e1 | hr2 <;> rcases List.mem_cons.1 hs with e2 | hs2
     ·exact absurd (congrArg KRow.b (e1.trans e2.symm)) hrs
     ·subst e1
      have:=List.all_eq_true.1 hd.1 s hs2
      rw [x1,y1] at this
      have this':(!Nat.beq x.grp y.grp)=true:=this
      intro e;rw [e] at this';simp at this'
     ·subst e2
      have:=List.all_eq_true.1 hd.1 r hr2
      rw [x1,y1] at this
      have this':(!Nat.beq y.grp x.grp)=true:=this
      intro e;rw [e] at this';simp at this'
     ·exact ih hd.2 hr2 hs2
   exact hd h4 hr hs z3
  ·intro B hB
   have hw:w.heap[B]? = some w.heap[B]:=Array.getElem?_eq_getElem hB
   rw [hw]
   exact hW.key B _ hw
end
end Go.AM
namespace Go.AM.SX
open Go
inductive At where
 | v (x:Value)
 | n (k:Nat)
inductive X where
 | at (a:At)
 | ifc (t:TypeId) (a:At)
 | fn (f:FuncId) (cs:List At)
 | sl (a:At) (len:Nat)
abbrev Sg:=List Value
def look:Sg->Nat->Value
 | [],_=>undef
 | v::_,0=>v
 | _::l,k+1=>look l k
def At.den (σ:Sg):At->Value
 | .v x=>x
 | .n k=>look σ k
def slV (p:Value) (len:Nat):Value:=match p with
 | .pointer a=>.slice a len len
 | _=>undef
def X.den (σ:Sg):X->Value
 | .at a=>a.den σ
 | .ifc t a=>.iface t (a.den σ)
 | .fn f cs=>.func (.func f) #[] (cs.map (·.den σ)).toArray
 | .sl a len=>slV (a.den σ) len
def At.ok (n:Nat):At->Bool
 | .v _=>true
 | .n k=>Nat.blt k n
def X.ok (n:Nat):X->Bool
 | .at a=>a.ok n
 | .ifc _ a=>a.ok n
 | .fn _ cs=>cs.all (·.ok n)
 | .sl a _=>a.ok n
def At.same:At->At->Bool
 | .v (.int k a),.v (.int j b)=>decide (k=j)&&decide (a=b)
 | .v (.bool a),.v (.bool b)=>decide (a=b)
 | .v (.string a),.v (.string b)=>decide (a.data.toList=b.data.toList)
 | .v (.pointer none),.v (.pointer none)=>true
 | .v .nilIface,.v .nilIface=>true
 | .v (.slice none a b),.v (.slice none c d)=>decide (a=c)&&decide (b=d)
 | .n a,.n b=>Nat.beq a b
 | _,_=>false
def mH:List At->List At->Bool
 | [],[]=>true
 | a::l,b::m=>a.same b&&mH l m
 | _,_=>false
def X.same:X->X->Bool
 | .at a,.at b=>a.same b
 | .ifc t a,.ifc u b=>Nat.beq t u&&a.same b
 | .fn f l,.fn g m=>Nat.beq f g&&mH l m
 | .sl a l,.sl b m=>a.same b&&Nat.beq l m
 | _,_=>false
inductive R where
 | idStr
 | bin (op:BinOp)
 | eqn (d:TypeDesc) (neg:Bool)
 | beq (neg:Bool)
 | not
 | neg
 | conv (k:IntKind)
 | runeStr
 | toStr
 | toBytes (e:TypeId)
 | alloc (t:TypeId) (z:List Value)
 | box (t:TypeId)
 | build (z:List Value) (places:List (Nat×Nat))
 | newSl (t:TypeId) (z:List Value) (places:List (Nat×Nat))
 | mkMap
 | mkSl (e:TypeId) (z:List Value) (bytes:Nat)
 | load (n:Option Nat)
 | store (n:Nat)
 | nilc
 | fld (off:Nat)
 | field (off:Nat) (n:Option Nat)
 | idxA (s:Nat)
 | idxP (len s:Nat)
 | idxS
 | lenL
 | lenS
 | lenM
 | capL
 | subS (lo hi:Bool)
 | subL (sz:Nat) (lo hi mx:Bool)
 | app (e:TypeId) (i:TypeInfo) (z:Value)
 | appZ (e:TypeId) (i:TypeInfo) (z:Value)
 | copy (sz:Nat)
 | lookup (kd:TypeDesc) (z:Value) (ok:Bool)
 | mapUpd (kd:TypeDesc)
 | mapEnt (kd:TypeDesc) (z:Value)
 | entSt
 | del (kd:TypeDesc)
 | range (str:Bool)
 | next (str:Bool)
 | ext (i:Nat)
 | ta (t:TypeId) (z:Value) (ok:Bool)
 | tup
 | mm (mx:Bool)
 | extern (name:String)
def mI (op:BinOp) (k:IntKind) (a b:Int):Option Value :=
 match op with
 | .quo=>if b=0 then none else some (.int k (k.wrap (a.tdiv b)))
 | .rem=>if b=0 then none else some (.int k (a.tmod b))
 | .and=>some (.int k (k.wrap (BitVec.ofInt k.bits a &&& BitVec.ofInt k.bits b).toNat))
 | .or=>some (.int k (k.wrap (BitVec.ofInt k.bits a ||| BitVec.ofInt k.bits b).toNat))
 | .xor=>some (.int k (k.wrap (BitVec.ofInt k.bits a ^^^ BitVec.ofInt k.bits b).toNat))
 | .andNot=>some (.int k (k.wrap (BitVec.ofInt k.bits a &&& ~~~ BitVec.ofInt k.bits b).toNat))
 | _=>none
def p9 (op:BinOp) (x y:ByteArray):Option Value :=
 match op with
 | .add=>if ((x.size+y.size:Nat):Int) > IntKind.i64.max then none else some (.string (x++y))
 | .lss=>some (.bool (Op.bytesLess x.toList y.toList))
 | .leq=>some (.bool (Op.bytesLess x.toList y.toList||x.toList==y.toList))
 | .gtr=>some (.bool !(Op.bytesLess x.toList y.toList||x.toList==y.toList))
 | .geq=>some (.bool !(Op.bytesLess x.toList y.toList))
 | _=>none
def wY (op:BinOp) (k:IntKind) (x y:Int):Option Value :=
 if y < 0 then none else match op with
 | .shl=>some (.int k (k.wrap (x * 2 ^ min y.toNat k.bits)))
 | .shr=>some (.int k (x.fdiv (2 ^ min y.toNat k.bits)))
 | _=>none
def jk:BinOp->Bool
 | .shl | .shr=>true
 | _=>false
def fP (op:BinOp) (x y:Value):Option Value :=
 match cU [] op x y with
 | some v=>some v
 | none=>match x,y with
  | .int k a,.int k' b=>if jk op then wY op k a b else if k=k' then mI op k a b else none
  | .string a,.string b=>p9 op a b
  | _,_=>none
def dw:TypeDesc->Value->Value->Option Bool
 | .pointer _,.pointer (some _),.pointer none=>some false
 | .pointer _,.pointer none,.pointer none=>some true
 | .slice _,.slice (some _) _ _,.slice none _ _=>some false
 | .slice _,.slice none _ _,.slice none _ _=>some true
 | .map _ _,.map (some _),.map none=>some false
 | .map _ _,.map none,.map none=>some true
 | .interface _,.iface _ _,.nilIface=>some false
 | .interface _,.nilIface,.nilIface=>some true
 | .func _ _ _,.func _ _ _,.nilFunc=>some false
 | .func _ _ _,.nilFunc,.nilFunc=>some true
 | _,_,_=>none
def setFrom:List Value->Nat->List Value->List Value
 | l,_,[]=>l
 | l,off,c::cs=>setFrom (l.set off c) (off+1) cs
def dx:List (Nat×Nat)->List Value->List Value->Option (List Value)
 | [],[],l=>some l
 | (off,size)::pl,v::vs,l=>if v.cells.size=size/\off+v.cells.size<=l.length then dx pl vs (setFrom l off v.cells.toList) else none
 | _,_,_=>none
def cz (A:St) (sz:Nat) (x:Value):Option (Nat×List Value) :=
 match dN x with
 | some n=>match cS A sz n x with
  | some new=>some (n,new)
  | none=>none
 | none=>none
def aB (r:R) (args:List Value) (A:St):Option (Value×St) :=
 match r,args with
 | .idStr,[.string s]=>some (.string s,A)
 | .bin op,[x,y]=>match fP op x y with
  | some v=>some (v,A)
  | none=>none
 | .eqn d neg,[x,y]=>match dw d x y with
  | some b=>some (.bool (b != neg),A)
  | none=>none
 | .beq neg,[.bool a,.bool b]=>some (.bool ((a==b) != neg),A)
 | .not,[.bool b]=>some (.bool !b,A)
 | .neg,[.int k n]=>some (.int k (k.wrap (0 - n)),A)
 | .conv k,[.int _ n]=>some (.int k (k.wrap n),A)
 | .runeStr,[.int _ n]=>some (.string (Utf8.encode n),A)
 | .toStr,[x]=>match dO A x with
  | some l=>some (mkStr l,A)
  | none=>none
 | .toBytes e,[.string s]=>some (.slice (some ⟨A.next,0,none⟩) s.size s.size,
    { A with next:=A.next+1,h:=A.h.set A.next (.row { own:=true,size:=s.size,cells:=T.ofList (s.data.toList.map fun c=>.int .u8 c.toNat),elem:=e,esz:=1,opn:=true,grp:=A.next,frz:=0,sb:=true }) })
 | .alloc t z,[]=>some (.pointer (some ⟨A.next,0,none⟩),(A.newRow t z).2)
 | .box t,[x]=>some (.pointer (some ⟨A.next,0,none⟩),(A.newRow t x.cells.toList).2)
 | .build z pl,vs=>match dx pl vs z with
  | some cs=>some (.agg cs.toArray,A)
  | none=>none
 | .newSl t z pl,vs=>match dx pl vs z with
  | some cs=>some (.pointer (some ⟨A.next,0,none⟩),(A.newRow t cs).2)
  | none=>none
 | .mkMap,[]=>some (.map (some A.next),(A.new (.map [] 0)).2)
 | .mkSl e z bytes,[.int _ ln,.int _ cp] =>
  if 0<=ln/\ln<=cp/\cp * bytes<=140737488355328/\cp<=4294967296 then
   some (.slice (some ⟨A.next,0,none⟩) ln.toNat cp.toNat,(A.newRow e (zeros z cp.toNat)).2)
  else none
 | .load none,[.pointer (some a)]=>match A.loadN a 1 with
  | some [v]=>some (v,A)
  | _=>none
 | .load (some n),[.pointer (some a)]=>match A.loadN a n with
  | some vs=>some (.agg vs.toArray,A)
  | none=>none
 | .store n,[.pointer (some a),v]=>if v.cells.size==n then match A.storeN a v.cells.toList with
   | some A'=>some (undef,A')
   | none=>none
  else none
 | .nilc,[x]=>match x with
  | .pointer none | .nilIface | .nilFunc=>none
  | .func (.func _) _ _=>some (x,A)
  | .func (.yield _) _ _=>some (x,A)
  | .func _ _ _=>none
  | x=>some (x,A)
 | .fld off,[.pointer (some a)]=>some (.pointer (some (aJ a off)),A)
 | .field off none,[.agg cs]=>match cs[off]? with
  | some v=>some (v,A)
  | none=>none
 | .field off (some n),[.agg cs]=>some (.agg (cs.extract off (off+n)),A)
 | .idxA s,[.slice (some a) len _,.int _ i]=>if 0<=i/\i < (len:Int) then some (.pointer (some (aJ a (i.toNat * s))),A) else none
 | .idxP len s,[.pointer (some a),.int _ i]=>if 0<=i/\i < (len:Int) then some (.pointer (some (aJ a (i.toNat * s))),A) else none
 | .idxS,[.string s,.int _ i]=>if 0<=i then match s.data.toList[i.toNat]? with
   | some b=>some (.int .u8 b.toNat,A)
   | none=>none
  else none
 | .lenL,[.slice _ n _]=>some (goInt n,A)
 | .lenS,[.string s]=>some (goInt s.size,A)
 | .lenM,[.map none]=>some (goInt 0,A)
 | .lenM,[.map (some r)]=>match A.h.get r with
  | some (.map es _)=>some (goInt es.length,A)
  | _=>none
 | .capL,[.slice none _ n]=>some (goInt n,A)
 | .capL,[.slice (some a) _ n]=>match A.row? a.block with
  | some r=>if r.opn then none else some (goInt n,A)
  | none=>none
 | .subS lo hi,.string s::vs =>
  let l:=if lo then vs.head? else none
  let h:=if hi then (if lo then vs.tail.head? else vs.head?) else none
  match aL h s.size s.size with
   | some h=>match aL l h 0 with
    | some l=>some (.string (s.extract l h),A)
    | none=>none
   | none=>none
 | .subL sz lo hi mx,x::vs =>
  let l:=if lo then vs.head? else none
  let vs1:=if lo then vs.tail else vs
  let h:=if hi then vs1.head? else none
  let vs2:=if hi then vs1.tail else vs1
  let m:=if mx then vs2.head? else none
  match x with
  | .slice none len cap=>if Nat.ble len cap then match aL m cap cap with
   | some m=>match aL h m len with
    | some h=>match aL l h 0 with
     | some l=>some (.slice none (h - l) (m - l),A)
     | none=>none
    | none=>none
   | none=>none
   else none
  | .slice (some a) len cap=>match A.row? a.block with
   | some r=>match aL m cap cap with
    | some m=>match aL h m len with
     | some h=>match aL l h 0 with
      | some l=>match r.opn with
       | true=>if r.esz != sz then none else some (kA A mx a sz l h m,A)
       | false=>some (.slice (some (if m=l then a else aJ a (l * sz))) (h - l) (m - l),A)
      | none=>none
     | none=>none
    | none=>none
   | none=>none
  | _=>none
 | .app e i z,[.slice base len cap,x]=>match cz A i.size x with
  | some (n,new) =>
   if i.size≠0/\new.length=n * i.size/\(len+n) * i.bytes<=140737488355328/\len+n<=4611686018427387904/\z.cells.size=i.size/\new.all one=true then
    if len+n<=cap then b8 A base i.size len n cap new else bI A e i base len n new
   else none
  | none=>none
 | .appZ e i z,[.slice base len cap,.int _ n]=>if 0<=n/\n<=4294967296/\z.cells.size=i.size then
   if i.size≠0/\(zeros z.cells.toList n.toNat).length=n.toNat * i.size/\(len+n.toNat) * i.bytes<=140737488355328/\len+n.toNat<=4611686018427387904/\z.cells.size=i.size/\(zeros z.cells.toList n.toNat).all one=true then
    if len+n.toNat<=cap then b8 A base i.size len n.toNat cap (zeros z.cells.toList n.toNat) else bI A e i base len n.toNat (zeros z.cells.toList n.toNat)
   else none
  else none
 | .copy sz,[.slice base dl _,src]=>match dN src with
  | some sl=>match cS A sz (Nat.min sl dl) src with
   | some cs=>match base with
    | none=>some (goInt (Nat.min sl dl),A)
    | some a=>if cs.length=0 then some (goInt (Nat.min sl dl),A) else
     match A.storeN a cs with
     | some A'=>some (goInt (Nat.min sl dl),A')
     | none=>none
   | none=>none
  | none=>none
 | .lookup kd z ok,[m,k]=>if bW kd k then
   match (match m with
    | .map none=>some []
    | .map (some r)=>match A.h.get r with
     | some (.map es _)=>some es
     | _=>none
    | _=>none:Option (List MapEntry)) with
   | some es=>match bV k es 0 with
    | some (some (_,v))=>some (if ok then .tuple #[v,.bool true] else v,A)
    | some none=>some (if ok then .tuple #[z,.bool false] else z,A)
    | none=>none
   | none=>none
  else none
 | .mapUpd kd,[.map (some r),k,x]=>match A.h.get r with
  | some (.map es c)=>if bW kd k then match me es c k x with
    | some (es',c')=>some (undef,A.setObj r (.map es' c'))
    | none=>none
   else none
  | _=>none
 | .mapEnt kd z,[.map (some r),k]=>match A.h.get r with
  | some (.map es c)=>if bW kd k then match bV k es 0 with
    | some (some (i,v))=>match es[i]? with
     | some e=>some (.tuple #[v,goInt e.born],A)
     | none=>none
    | some none=>some (.tuple #[z,goInt c],A.setObj r (.map (es++[{ key:=k,val:=z,born:=c }]) (c+1)))
    | none=>none
   else none
  | _=>none
 | .entSt,[.map (some r),.int _ n,x]=>match A.h.get r with
  | some (.map es c)=>match es.findIdx? (fun e=>(e.born:Int)==n) with
   | some i=>some (undef,A.setObj r (.map (es.modify i fun e=>{ e with val:=x }) c))
   | none=>none
  | _=>none
 | .del kd,[.map (some r),k]=>match A.h.get r with
  | some (.map es c)=>if bW kd k then match bV k es 0 with
    | some (some (i,_))=>some (.tuple #[],A.setObj r (.map (es.eraseIdx i) c))
    | some none=>some (.tuple #[],A)
    | none=>none
   else none
  | _=>none
 | .range true,[.string s]=>some (.pointer (some ⟨A.next,0,none⟩),(A.new (.siter s 0)).2)
 | .range false,[.map none]=>some (.pointer (some ⟨A.next,0,none⟩),(A.new (.miter none 0 [] 0)).2)
 | .range false,[.map (some m)]=>match A.h.get m with
  | some (.map _ c)=>some (.pointer (some ⟨A.next,0,none⟩),(A.new (.miter (some m) c [] c)).2)
  | _=>none
 | .next true,[.pointer (some ⟨b,0,none⟩)]=>match A.h.get b with
  | some (.siter s pos) =>
   if pos < s.size then
    some (.tuple #[.bool true,goInt pos,.int .i32 (Utf8.decode s pos).1],A.setObj b (.siter s (pos+(Utf8.decode s pos).2)))
   else some (.tuple #[.bool false],A)
  | _=>none
 | .next false,[.pointer (some ⟨b,0,none⟩)]=>match A.h.get b with
  | some (.miter none _ _ _)=>some (.tuple #[.bool false],A)
  | some (.miter (some m) since seen stepped)=>match A.h.get m with
   | some (.map es c) =>
    if c=since/\c=stepped/\es.all (fun e=>Nat.blt e.born c) then
     match es.filter (fun e=>!seen.contains e.born) with
     | []=>some (.tuple #[.bool false],A)
     | [e]=>some (.tuple #[.bool true,e.key,e.val],A.setObj b (.miter (some m) since (seen++[e.born]) c))
     | _=>none
    else none
   | _=>none
  | _=>none
 | .ext i,[.tuple vs]=>match vs[i]? with
  | some v=>some (v,A)
  | none=>none
 | .ta _ z ok,[.nilIface]=>if ok then some (.tuple #[z,.bool false],A) else none
 | .ta t z ok,[.iface ty v]=>if ty=t then some (if ok then .tuple #[v,.bool true] else v,A) else if ok then some (.tuple #[z,.bool false],A) else none
 | .tup,vs=>some (.tuple vs.toArray,A)
 | .mm true,[.int k x,.int _ y]=>some (.int k (if y > x then y else x),A)
 | .mm false,[.int k x,.int _ y]=>some (.int k (if y < x then y else x),A)
 | .extern name,vs=>kE A name vs
 | _,_=>none
end Go.AM.SX
namespace Go.AM.SX
open Go
inductive N where
 | bad
 | fin (o:Nat) (outs:List X)
 | op (r:R) (args:List X) (k:N)
 | opAt (b:Nat) (off:Nat) (r:R) (args:List X) (k:N)
 | br (x:X) (a b:N)
 | call (f:FuncId) (args:List X) (k:N)
 | callv (f:X) (args:List X) (k:N)
 | callm (recv:X) (name:String) (args:List X) (k:N)
 | loop (ins:List X) (body k:N)
 | sw (x:Nat) (c:Nat) (a b:N)
 | bump (n:Nat) (k:N)
 | save (k:N)
 | self (x:X) (k:N)
 | chk (i:Nat) (r:R) (args:List X) (x:X) (k:N)
def cP (E:Env) (f:FuncId) (args:List Value) (A:St) (v:Value) (A':St):Prop:=∃ n,(big E n).call f args A=some (v,A')
abbrev bd:=Nat->List Value->St->Prop
def fQ (W:List Value->St->bd->Prop) (Q:bd):Nat->List Value->St->Prop
 | 0,_,_=>False
 | n+1,vs,A=>W vs A fun o outs A'=>match o with
  | 0=>fQ W Q n outs A'
  | o+1=>Q (o+1) outs A'
def denL (σ:Sg) (xs:List X):List Value:=xs.map (·.den σ)
def c7:Value->Nat
 | .int _ n=>n.toNat
 | _=>0
def wp (E:Env):N->Sg->List St->St->bd->Prop
 | .bad,_,_,_,_=>False
 | .fin o xs,σ,_,A,Q=>Q o (denL σ xs) A
 | .op r xs k,σ,H,A,Q=>∃ v A',aB r (denL σ xs) A=some (v,A')/\wp E k (σ++[v]) H A' Q
 | .opAt b off r xs k,σ,H,A,Q=>∃ v A',aB r (denL σ xs) { A with next:=c7 (look σ b)+off }=some (v,A')/\wp E k (σ++[v]) H { A' with next:=A.next } Q
 | .br x a b,σ,H,A,Q=>∃ t,x.den σ=.bool t/\(t=true->wp E a σ H A Q)/\(t=false->wp E b σ H A Q)
 | .call f xs k,σ,H,A,Q=>∃ v A',cP E f (denL σ xs) A v A'/\wp E k (σ++[v]) H A' Q
 | .callv f xs k,σ,H,A,Q=>∃ g fs cs v A',f.den σ=.func (.func g) fs cs/\(∃ fn,E.fn.get g=some fn/\fn.body.isSome=true)/\cP E g (fs.toList++denL σ xs++cs.toList) A v A'/\wp E k (σ++[v]) H A' Q
 | .callm x name xs k,σ,H,A,Q=>∃ g args v A',fe E A (x.den σ) name (denL σ xs)=some (.enter g args,A)/\cP E g args A v A'/\wp E k (σ++[v]) H A' Q
 | .loop xs body k,σ,H,A,Q=>∃ n,fQ (fun vs A Q'=>wp E body (σ++vs) H A Q') (fun o outs A'=>wp E k (σ++goInt o::outs) H A' Q) n (denL σ xs) A
 | .sw x c a b,σ,H,A,Q=>(c7 (look σ x)=c->wp E a σ H A Q)/\(c7 (look σ x)≠c->wp E b σ H A Q)
 | .bump n k,σ,H,A,Q=>wp E k (σ++[goInt A.next]) H { A with next:=A.next+n } Q
 | .save k,σ,H,A,Q=>wp E k σ (H++[A]) A Q
 | .self x k,σ,H,A,Q=>veq 40 (x.den σ) (x.den σ)=true/\wp E k σ H A Q
 | .chk i r xs x k,σ,H,A,Q=>(∃ B v A',H[i]? = some B/\aB r (denL σ xs) B=some (v,A')/\veq 40 v (x.den σ)=true)/\wp E k σ H A Q
abbrev SF:=List (Nat×X)
def SF.get:SF->Nat->Option X
 | [],_=>none
 | (t,x)::sf,n=>if Nat.beq t n then some x else SF.get sf n
def vn (k:Nat):X:=.at (.n k)
def vv (v:Value):X:=.at (.v v)
@[reducible] def vi (k:Int):X:=.at (.v (.int .i64 k))
def At.learn (k:Nat) (b:Bool):At->At
 | .n j=>if Nat.beq j k then .v (.bool b) else .n j
 | a=>a
def X.learn (k:Nat) (b:Bool):X->X
 | .at a=>.at (a.learn k b)
 | x=>x
def SF.learn (k:Nat) (b:Bool):SF->SF
 | []=>[]
 | (t,x)::sf=>(t,x.learn k b)::SF.learn k b sf
section
variable (E:Env)
def aT (sf:SF):Operand->Option X
 | .tmp t=>sf.get t
 | .const v=>some (vv v)
 | .global g=>some (vv (.pointer (some ⟨g,0,none⟩)))
 | .func f=>some (.fn f [])
def fR (sf:SF):List Operand->Option (List X)
 | []=>some []
 | o::os=>match aT sf o,fR sf os with
  | some x,some xs=>some (x::xs)
  | _,_=>none
inductive Act where
 | st (x:X)
 | op (r:R) (args:List X)
 | opSl (r:R) (args:List X) (len:Nat)
 | eff (r:R) (args:List X)
 | call (f:FuncId) (args:List X)
 | callv (f:X) (args:List X)
 | callm (x:X) (name:String) (args:List X)
 | pick (k:Nat) (a b:X)
def isConst:Operand->Bool
 | .const _=>true
 | _=>false
def VY:X->Bool
 | .at (.v (.pointer none)) | .at (.v (.slice none _ _)) | .at (.v (.map none)) | .at (.v .nilIface) | .at (.v .nilFunc)=>true
 | _=>false
def pc (a b:X) (op:BinOp):Option X :=
 match a,b with
 | .at (.v u),.at (.v w)=>match fP op u w with
  | some v=>if aH u&&aH w&&aH v then some (vv v) else none
  | none=>none
 | _,_=>none
def pd (op:BinOp) (t:TypeId) (y:Operand) (a b:X):Option Act :=
 match pc a b op with
 | some x=>some (.st x)
 | none =>
  if isConst y&&VY b then match op,E.und t with
   | .eql,some d=>some (.op (.eqn d false) [a,b])
   | .neq,some d=>some (.op (.eqn d true) [a,b])
   | _,_=>none
  else match op,E.und t with
   | .eql,some .bool=>some (.op (.beq false) [a,b])
   | .neq,some .bool=>some (.op (.beq true) [a,b])
   | _,_=>some (.op (.bin op) [a,b])
def mJ (pl:List (Nat×Nat)):List Nat->Option (List (Nat×Nat))
 | []=>some []
 | i::is=>match pl[i]?,mJ pl is with
  | some p,some ps=>some (p::ps)
  | _,_=>none
def pe (sf:SF) (t:TypeId) (parts:List (Nat×Operand)):Option Act :=
 match E.und t,E.zero t,fR sf (parts.map (·.2)) with
 | some (.struct fs),some z,some xs=>match fs.toList.mapM (fun f=>(E.size f.type).map fun s=>(f.offset,s)) with
  | some pl=>match mJ pl (parts.map (·.1)) with
   | some pl'=>some (.op (.build z.cells.toList pl') xs)
   | none=>none
  | none=>none
 | some (.array _ e),some z,some xs=>match E.size e with
  | some s=>some (.op (.build z.cells.toList (parts.map fun p=>(p.1 * s,s))) xs)
  | none=>none
 | _,_,_=>none
def pf (sf:SF) (t:TypeId) (len:Nat) (parts:List (Nat×Operand)):Option Act :=
 match E.und t,fR sf (parts.map (·.2)) with
 | some (.slice e),some xs=>match E.size e,E.zero e with
  | some s,some z =>
   if s=0\/len * s > 16777216\/z.cells.size≠s then none else
   some (.opSl (.newSl e (zeros z.cells.toList len) (parts.map fun p=>(p.1 * s,s))) xs len)
  | _,_=>none
 | _,_=>none
def iS (sf:SF):List (Option Operand)->Option (List X)
 | []=>some []
 | none::os=>iS sf os
 | some o::os=>match aT sf o,iS sf os with
  | some x,some xs=>some (x::xs)
  | _,_=>none
def pg (sf:SF) (t:TypeId) (x:Operand) (lo hi mx:Option Operand):Option Act :=
 if mx.isSome&&hi.isNone then none else
 match E.und t,aT sf x,iS sf [lo,hi,mx] with
 | some .string,some a,some xs=>match mx with
  | some _=>none
  | none=>some (.op (.subS lo.isSome hi.isSome) (a::xs))
 | some (.slice e),some a,some xs=>match E.size e with
  | some sz=>some (.op (.subL sz lo.isSome hi.isSome mx.isSome) (a::xs))
  | none=>none
 | _,_,_=>none
def ph (sf:SF) (src dst:TypeId) (x:Operand):Option Act :=
 match E.und src,E.und dst,aT sf x with
 | some (.int _),some (.int k),some a=>match a with
  | .at (.v (.int _ n))=>some (.st (vv (.int k (k.wrap n))))
  | _=>some (.op (.conv k) [a])
 | some (.int _),some .string,some a=>some (.op .runeStr [a])
 | some (.slice e),some .string,some a=>match E.und e with
  | some (.int .u8)=>some (.op .toStr [a])
  | _=>none
 | some .string,some (.slice e),some a=>match E.und e with
  | some (.int .u8)=>some (.op (.toBytes e) [a])
  | _=>none
 | some .string,some .string,some a=>some (.op .idStr [a])
 | _,_,_=>none
def pj (b:Builtin) (ts:List TypeId) (args:List X):Option Act :=
 match b,ts,args with
 | .len,t::_,[a]=>match E.und t with
  | some (.slice _)=>match a with
   | .sl _ n=>some (.st (vv (goInt n)))
   | .at (.v (.slice _ n _))=>some (.st (vv (goInt n)))
   | _=>some (.op .lenL [a])
  | some .string=>match a with
   | .at (.v (.string s))=>some (.st (vv (goInt s.size)))
   | _=>some (.op .lenS [a])
  | some (.map _ _)=>some (.op .lenM [a])
  | some (.array n _)=>some (.st (vv (goInt n)))
  | _=>none
 | .cap,t::_,[a]=>match E.und t with
  | some (.slice _)=>some (.op .capL [a])
  | _=>none
 | .append,[t,t1],[a,b]=>match E.und t,E.und t1 with
  | some (.slice e),some (.int _)=>match E.inf e,E.zero e with
   | some i,some z=>some (.op (.appZ e i z) [a,b])
   | _,_=>none
  | some (.slice e),some _=>match E.inf e,E.zero e with
   | some i,some z=>some (.op (.app e i z) [a,b])
   | _,_=>none
  | _,_=>none
 | .copy,t::_,[a,b]=>match E.und t with
  | some (.slice e)=>match E.size e with
   | some sz=>some (.op (.copy sz) [a,b])
   | none=>none
  | _=>none
 | .delete,t::_,[a,b]=>match E.und t with
  | some (.map kt _)=>match E.und kt with
   | some kd=>some (.op (.del kd) [a,b])
   | none=>none
  | _=>none
 | .max,_,[a,b]=>some (.op (.mm true) [a,b])
 | .min,_,[a,b]=>some (.op (.mm false) [a,b])
 | _,_,_=>none
def pk (sf:SF) (c:Call):Option Act :=
 match fR sf c.args.toList with
 | none=>none
 | some xs=>match c.callee with
  | .builtin b=>pj E b c.argTypes.toList xs
  | .value f=>match aT sf f with
   | some (.fn g cs)=>match E.fn.get g with
    | some fn=>match fn.body with
     | some _=>some (.call g (xs++cs.map .at))
     | none=>match cs with
      | []=>some (.op (.extern fn.name) xs)
      | _=>none
    | none=>none
   | some (.at (.n k))=>some (.callv (vn k) xs)
   | _=>none
  | .invoke r name=>match aT sf r with
   | some x=>some (.callm x name xs)
   | none=>none
def atomic:X->Option At
 | .at a=>some a
 | _=>none
def mK:List X->Option (List At)
 | []=>some []
 | x::xs=>match atomic x,mK xs with
  | some a,some l=>some (a::l)
  | _,_=>none
def tr (sf:SF) (o:Oper):Option Act :=
 match o.op with
 | .move x | .assign x=>(aT sf x).map .st
 | .pick c a b=>match aT sf c,aT sf a,aT sf b with
  | some (.at (.v (.bool t))),some a,some b=>some (.st (if t then a else b))
  | some (.at (.n k)),some a,some b=>some (.pick k a b)
  | _,_,_=>none
 | .alloc t=>match E.zero t with
  | some z=>some (.op (.alloc t z.cells.toList) [])
  | none=>none
 | .box t x=>match aT sf x with
  | some a=>some (.op (.box t) [a])
  | none=>none
 | .build t parts=>pe E sf t parts.toList
 | .buildSlice t len parts=>pf E sf t len parts.toList
 | .load t a=>match E.agg t,E.size t,aT sf a with
  | some true,some n,some x=>some (.op (.load (some n)) [x])
  | some false,_,some x=>some (.op (.load none) [x])
  | _,_,_=>none
 | .store t a v=>match E.size t,aT sf a,aT sf v with
  | some n,some x,some y=>some (.eff (.store n) [x,y])
  | _,_,_=>none
 | .nilCheck x=>match aT sf x with
  | some (.fn f cs)=>some (.st (.fn f cs))
  | some (.ifc t a)=>some (.st (.ifc t a))
  | some x=>some (.op .nilc [x])
  | none=>none
 | .binOp op t x y _=>match aT sf x,aT sf y with
  | some a,some b=>pd E op t y a b
  | _,_=>none
 | .unOp op _ x=>match op,aT sf x with
  | .not,some a=>match a with
   | .at (.v (.bool b))=>some (.st (vv (.bool !b)))
   | _=>some (.op .not [a])
  | .neg,some a=>some (.op .neg [a])
  | _,_=>none
 | .convert src dst x=>ph E sf src dst x
 | .makeInterface t x=>match E.und t,aT sf x with
  | some (.interface _),_=>none
  | some _,some (.at a)=>some (.st (.ifc t a))
  | _,_=>none
 | .makeFunc (.func f) first captured=>match first.toList,fR sf captured.toList with
  | [],some xs=>match mK xs with
   | some l=>some (.st (.fn f l))
   | none=>none
  | _,_=>none
 | .makeMap _ none=>some (.op .mkMap [])
 | .makeSlice t l c=>match E.und t,aT sf l,aT sf c with
  | some (.slice e),some x,some y=>match E.inf e,E.zero e with
   | some i,some z=>if i.size≠0/\z.cells.size=i.size then some (.op (.mkSl e z.cells.toList i.bytes) [x,y]) else none
   | _,_=>none
  | _,_,_=>none
 | .slice t x lo hi mx=>pg E sf t x lo hi mx
 | .fieldAddr s x f=>match E.und s,aT sf x with
  | some (.struct fs),some a=>match fs[f]? with
   | some fd=>match E.size fd.type with
    | some n=>if n=0 then none else some (.op (.fld fd.offset) [a])
    | none=>none
   | none=>none
  | _,_=>none
 | .field t x f=>match E.und t,aT sf x with
  | some (.struct fs),some a=>match fs[f]? with
   | some fd=>match E.agg fd.type,E.size fd.type with
    | some true,some n=>some (.op (.field fd.offset (some n)) [a])
    | some false,_=>some (.op (.field fd.offset none) [a])
    | _,_=>none
   | none=>none
  | _,_=>none
 | .indexAddr t x ix=>match E.und t,aT sf x,aT sf ix with
  | some (.slice e),some a,some i=>match E.size e with
   | some s=>if s=0 then none else some (.op (.idxA s) [a,i])
   | none=>none
  | some (.array len e),some a,some i=>match E.size e with
   | some s=>if s=0 then none else some (.op (.idxP len s) [a,i])
   | none=>none
  | _,_,_=>none
 | .index t x ix=>match E.und t,aT sf x,aT sf ix with
  | some .string,some a,some i=>some (.op .idxS [a,i])
  | _,_,_=>none
 | .lookup t m ix ok=>match E.und t,aT sf m,aT sf ix with
  | some (.map kt et),some a,some i=>match E.und kt,E.zero et with
   | some kd,some z=>some (.op (.lookup kd z ok) [a,i])
   | _,_=>none
  | _,_,_=>none
 | .mapUpdate t m k x | .insert t m k x=>match E.und t,aT sf m,aT sf k,aT sf x with
  | some (.map kt _),some a,some b,some c=>match E.und kt with
   | some kd=>some (.eff (.mapUpd kd) [a,b,c])
   | none=>none
  | _,_,_,_=>none
 | .mapEntry t m k=>match E.und t,aT sf m,aT sf k with
  | some (.map kt et),some a,some b=>match E.und kt,E.zero et with
   | some kd,some z=>some (.op (.mapEnt kd z) [a,b])
   | _,_=>none
  | _,_,_=>none
 | .entryStore _ m s x=>match aT sf m,aT sf s,aT sf x with
  | some a,some b,some c=>some (.eff .entSt [a,b,c])
  | _,_,_=>none
 | .range t x=>match E.und t,aT sf x with
  | some .string,some a=>some (.op (.range true) [a])
  | some (.map _ _),some a=>some (.op (.range false) [a])
  | _,_=>none
 | .next it isStr=>match aT sf it with
  | some a=>some (.op (.next isStr) [a])
  | none=>none
 | .typeAssert x _ t ok=>match E.und t,aT sf x,E.zero t with
  | some (.interface _),_,_=>none
  | some _,some a,some z=>some (.op (.ta t z ok) [a])
  | _,_,_=>none
 | .extract t i=>match aT sf t with
  | some a=>some (.op (.ext i) [a])
  | none=>none
 | .call c=>pk E sf c
 | _=>none
end
end Go.AM.SX
namespace Go.AM.SX
open Go
structure Cfg where
 inl:List Nat
 unr:List (Nat×Nat)
abbrev K:=SF->Nat->Nat->Option N
abbrev KO:=Nat->SF->Nat->Nat->Option N
abbrev KX:=X->Nat->Nat->Option N
structure SRec where
 code:Nat->Nat->Code->SF->Nat->Nat->KO->Option N
 call:Nat->List X->Nat->Nat->KX->Option N
def pn (nt:Nat) (sf:SF) (d:Option Tmp) (x:X):Option SF :=
 match d with
 | none=>some sf
 | some d=>match Nat.blt d nt with
  | true=>some ((d,x)::sf)
  | false=>none
inductive G where
 | yes
 | no
 | sym (k:Nat) (want:Bool)
 | bad
def gd (ops:Array Oper) (o:Oper) (sf:SF):G :=
 match o.guard with
 | none=>.yes
 | some (j,want)=>match ((ops[j]?).bind (·.dst)).bind (SF.get sf ·) with
  | some (.at (.v (.bool b)))=>if b==want then .yes else .no
  | some (.at (.v _))=>.no
  | some (.at (.n k))=>.sym k want
  | _=>.bad
def fS (k:Nat) (a b:Option N):Option N:=match a,b with
 | some a,some b=>some (.br (vn k) a b)
 | _,_=>none
def nOp (r:R) (args:List X):Option N->Option N
 | some n=>some (.op r args n)
 | none=>none
def wZ (f:Nat) (args:List X):Option N->Option N
 | some n=>some (.call f args n)
 | none=>none
def w5 (f:X) (args:List X):Option N->Option N
 | some n=>some (.callv f args n)
 | none=>none
def w6 (x:X) (name:String) (args:List X):Option N->Option N
 | some n=>some (.callm x name args n)
 | none=>none
def po (b off:Nat) (r:R) (args:List X):Option N->Option N
 | some n=>some (.opAt b off r args n)
 | none=>none
def mL:Option N->Option N
 | some n=>some (.save n)
 | none=>none
def w7 (m:Nat):Option N->Option N
 | some n=>some (.bump m n)
 | none=>none
section
variable (E:Env) (cfg:Cfg) (rec_:SRec)
def mM (a:Act) (nv nh:Nat) (k:KX):Option N :=
 match a with
 | .st x=>k x nv nh
 | .op r args=>nOp r args (k (vn nv) (nv+1) nh)
 | .opSl r args len=>nOp r args (k (.sl (.n nv) len) (nv+1) nh)
 | .eff r args=>nOp r args (k (vv undef) (nv+1) nh)
 | .call f args=>if cfg.inl.any (Nat.beq f) then rec_.call f args nv nh k else wZ f args (k (vn nv) (nv+1) nh)
 | .callv f args=>w5 f args (k (vn nv) (nv+1) nh)
 | .callm x name args=>w6 x name args (k (vn nv) (nv+1) nh)
 | .pick ..=>none
def ar (nt:Nat) (sf:SF) (d:Option Tmp) (k:K):KX:=fun x nv nh=>match pn nt sf d x with
 | some sf1=>k sf1 nv nh
 | none=>none
def VZ (o:Oper):Bool:=match o.op with
 | .panic _=>true
 | _=>false
def fT (nt:Nat) (o:Oper) (sf:SF) (nv nh:Nat) (k:K):Option N :=
 if cD E o then
  match tr E sf o with
  | none=>if VZ o then some .bad else none
  | some (.pick j a b)=>fS j (ar nt (sf.learn j true) o.dst k (a.learn j true) nv nh) (ar nt (sf.learn j false) o.dst k (b.learn j false) nv nh)
  | some act=>mM cfg rec_ act nv nh (ar nt sf o.dst k)
 else none
def dZ (nt:Nat) (ops:Array Oper):List Oper->SF->Nat->Nat->K->Option N
 | [],sf,nv,nh,k=>k sf nv nh
 | o::os,sf,nv,nh,k =>
  match gd ops o sf with
  | .yes=>fT E cfg rec_ nt o sf nv nh fun sf nv nh=>dZ nt ops os sf nv nh k
  | .no=>ar nt sf o.dst (fun sf nv nh=>dZ nt ops os sf nv nh k) (vv undef) nv nh
  | .sym j true=>fS j (fT E cfg rec_ nt o (sf.learn j true) nv nh fun sf nv nh=>dZ nt ops os sf nv nh k) (ar nt (sf.learn j false) o.dst (fun sf nv nh=>dZ nt ops os sf nv nh k) (vv undef) nv nh)
  | .sym j false=>fS j (ar nt (sf.learn j true) o.dst (fun sf nv nh=>dZ nt ops os sf nv nh k) (vv undef) nv nh) (fT E cfg rec_ nt o (sf.learn j false) nv nh fun sf nv nh=>dZ nt ops os sf nv nh k)
  | .bad=>none
structure SEnt where
 kind:Nat
 r:Option (R×List X)
 x:X
 bef:Nat
def jl (e:SEnt) (i:Nat) (befs ks:List Nat):List (Nat×Nat)->Option N->Option N
 | [],n=>n
 | (k,h)::Hs,n=>if allowed i e.bef befs ks k then
   match e.r,jl e i befs ks Hs n with
   | some (r,args),some n=>some (.chk h r args e.x n)
   | none,some n=>some (.self e.x n)
   | _,none=>none
  else jl e i befs ks Hs n
def jm (befs ks:List Nat) (Hs:List (Nat×Nat)):List SEnt->Nat->Option N->Option N
 | [],_,n=>n
 | e::es,i,n=>match e.kind with
  | 1=>jl e i befs ks Hs (jm befs ks Hs es (i+1) n)
  | _=>jm befs ks Hs es (i+1) n
def mN (nt:Nat) (o:Oper) (bf:Nat) (sf:SF) (nv nh:Nat) (k:SF->Nat->Nat->SEnt->Option N):Option N :=
 if cD E o then
  match tr E sf o with
  | some (.st x)=>ar nt sf o.dst (fun sf nv nh=>k sf nv nh { kind:=1,r:=none,x,bef:=bf }) x nv nh
  | some (.op r args)=>if args.all (·.ok nv) then nOp r args (ar nt sf o.dst (fun sf' nv' nh'=>k sf' nv' nh' { kind:=1,r:=some (r,args),x:=vn nv,bef:=bf }) (vn nv) (nv+1) nh) else none
  | some (.pick j a b)=>fS j
    (ar nt (sf.learn j true) o.dst (fun sf nv nh=>k sf nv nh { kind:=1,r:=none,x:=a.learn j true,bef:=bf }) (a.learn j true) nv nh)
    (ar nt (sf.learn j false) o.dst (fun sf nv nh=>k sf nv nh { kind:=1,r:=none,x:=b.learn j false,bef:=bf }) (b.learn j false) nv nh)
  | _=>none
 else none
def mO (nt:Nat) (b i:Nat) (o:Oper) (bf:Nat) (sf:SF) (nv nh:Nat) (k:SF->Nat->Nat->SEnt->Option N):Option N :=
 if cD E o then
  match tr E sf o with
  | some (.op r args)=>po b i r args (ar nt sf o.dst (fun sf nv nh=>k sf nv nh { kind:=3,r:=none,x:=vv undef,bef:=bf }) (vn nv) (nv+1) nh)
  | some (.opSl r args len)=>po b i r args (ar nt sf o.dst (fun sf nv nh=>k sf nv nh { kind:=3,r:=none,x:=vv undef,bef:=bf }) (.sl (.n nv) len) (nv+1) nh)
  | _=>none
 else none
def calm (Hs:List (Nat×Nat)) (log:List SEnt):Bool:=Nat.beq Hs.length 1&&log.all fun e=>!Nat.beq e.kind 3
def jo:List SEnt->Option N->Option N
 | [],n=>n
 | e::es,n=>match e.kind with
  | 1=>match jo es n with
   | some n=>some (.self e.x n)
   | none=>none
  | _=>jo es n
def dL (nt:Nat) (ops:Array Oper) (befs:List Nat) (b:Nat):List (Oper×Nat)->Nat->SF->Nat->Nat->List SEnt->List (Nat×Nat)->List Nat->K->Option N
 | [],_,sf,nv,nh,log,Hs,ks,k=>if calm Hs log then jo log.reverse (k sf nv nh) else jm befs ks Hs log.reverse 0 (k sf nv nh)
 | (o,bf)::os,i,sf,nv,nh,log,Hs,ks,k =>
  let no:=fun sf=>ar nt sf o.dst (fun sf nv nh=>dL nt ops befs b os (i+1) sf nv nh ({ kind:=0,r:=none,x:=vv undef,bef:=bf }::log) Hs ks k) (vv undef) nv nh
  let yes:=fun sf =>
   if cF E o then mN E nt o bf sf nv nh fun sf nv nh e=>dL nt ops befs b os (i+1) sf nv nh (e::log) Hs ks k
   else if bP o then mO E nt b i o bf sf nv nh fun sf nv nh e=>dL nt ops befs b os (i+1) sf nv nh (e::log) Hs ks k
   else fT E cfg rec_ nt o sf nv nh fun sf nv nh=>mL (dL nt ops befs b os (i+1) sf nv (nh+1) ({ kind:=2,r:=none,x:=vv undef,bef:=bf }::log) ((i+1,nh)::Hs) (i::ks) k)
  match gd ops o sf with
  | .yes=>yes sf
  | .no=>no sf
  | .sym j true=>fS j (yes (sf.learn j true)) (no (sf.learn j false))
  | .sym j false=>fS j (no (sf.learn j true)) (yes (sf.learn j false))
  | .bad=>none
def pq (nt:Nat) (ops:Array Oper) (sf:SF) (nv nh:Nat) (k:K):Option N :=
 if bn E ops then
  w7 ops.size (mL (dL E cfg rec_ nt ops (Region.before ops).toList nv (ops.toList.zip (Region.before ops).toList) 0 sf (nv+1) (nh+1) [] [(0,nh)] [] k))
 else none
def w8 (nt:Nat) (ops:Array Oper) (sf:SF) (nv nh:Nat) (k:K):Option N:=pq E cfg rec_ nt (jA E ops) sf nv nh k
def dstsOf (ops:List Oper):List Nat:=ops.filterMap (·.dst)
def dz:Code->List Nat
 | .seq a b=>dz a++dz b
 | .cond _ a b=>dz a++dz b
 | .block _ b=>dz b
 | .loop b=>dz b
 | .scope b=>dz b
 | .region _ ops _=>dstsOf ops.toList
 | _=>[]
def gL:Code->Option Nat
 | .seq a b=>match gL a with
  | some n=>some n
  | none=>gL b
 | .cond _ a _=>gL a
 | .block _ b=>gL b
 | .loop b=>gL b
 | .scope b=>gL b
 | .region i _ _=>some i
 | _=>none
def jq (l:List Nat) (n:Nat):Bool:=l.any (Nat.beq n)
def dedup:List Nat->List Nat
 | []=>[]
 | x::l=>let r:=dedup l;if jq r x then r else x::r
def fU (M:List Nat):SF->List Nat->SF
 | [],_=>[]
 | (t,x)::sf,seen=>if jq seen t||jq M t then fU M sf (t::seen) else if x.same x then (t,x)::fU M sf (t::seen) else fU M sf (t::seen)
def eZ (sf:SF):List Nat->Option (List X)
 | []=>some []
 | t::ts=>match sf.get t,eZ sf ts with
  | some x,some xs=>some (x::xs)
  | _,_=>none
def gM (nv:Nat):List Nat->SF
 | []=>[]
 | t::ts=>(t,vn nv)::gM (nv+1) ts
def jr (sf:SF):SF->Bool
 | []=>true
 | (t,x)::r=>(match sf.get t with
  | some y=>x.same y
  | none=>false)&&jr sf r
def N.outs:N->List Nat
 | .fin o _=>[o]
 | .op _ _ k | .opAt _ _ _ _ k | .call _ _ k | .callv _ _ k | .callm _ _ _ k | .loop _ _ k | .bump _ k | .save k | .self _ k | .chk _ _ _ _ k=>k.outs
 | .br _ a b | .sw _ _ a b=>a.outs++b.outs
 | .bad=>[]
def swK (x:Nat) (k:Nat->Option N):List Nat->Option N
 | []=>some .bad
 | o::os=>match k o,swK x k os with
  | some a,some b=>some (.sw x o a b)
  | _,_=>none
def pt (f nt:Nat) (b:Code) (sf:SF) (nv nh:Nat) (k:KO):Option N :=
 let M:=dz b
 let V:=(dedup M).filter fun t=>(SF.get sf t).isSome
 let kept:=fU M sf []
 match eZ sf V with
 | none=>none
 | some ins=>match rec_.code f nt b (gM nv V++kept) (nv+V.length) nh (fun o sf' _ _=>if jr sf' kept then match eZ sf' V with
   | some outs=>some (.fin o outs)
   | none=>none
   else none) with
  | none=>none
  | some body=>match swK nv (fun o=>k o (gM (nv+1) V++kept) (nv+1+V.length) nh) ((dedup body.outs).filter fun o=>!Nat.beq o 0) with
   | some kk=>some (.loop ins body kk)
   | none=>none
def qA (g:SF->Nat->Nat->Option N) (k:KO):KO:=fun o sf nv nh=>match o with
 | 0=>g sf nv nh
 | o+1=>k (o+1) sf nv nh
def V0 (id:Nat) (k:KO):KO:=fun o sf nv nh=>k (if Nat.beq o (id+2) then 0 else o) sf nv nh
def gotoB:Nat:=1000000000
def qB (b:Code) (go:Code->SF->Nat->Nat->Option N) (k:KO):KO:=fun o sf nv nh=>match o with
 | 0=>k 0 sf nv nh
 | 1=>k 1 sf nv nh
 | o+2=>match Nat.blt o gotoB with
  | true=>k (o+2) sf nv nh
  | false=>match labelIn b (o - gotoB) with
   | none=>k (o+2) sf nv nh
   | some rest=>go rest sf nv nh
def js (f nt:Nat) (b:Code):Nat->KO->KO
 | 0,k=>qB b (fun _ _ _ _=>none) k
 | n+1,k=>qB b (fun rest sf nv nh=>rec_.code f nt rest sf nv nh (js f nt b n k)) k
def V1 (f:Nat) (b:Code):Bool:=match gL b with
 | some r=>cfg.unr.any fun p=>Nat.beq p.1 f&&Nat.beq p.2 r
 | none=>false
def qC (f nt:Nat) (c:Code) (sf:SF) (nv nh:Nat) (k:KO):Option N :=
 match c with
 | .skip | .label _=>k 0 sf nv nh
 | .seq a b=>rec_.code f nt a sf nv nh (qA (fun sf nv nh=>rec_.code f nt b sf nv nh k) k)
 | .cond c t e=>match aT sf c with
  | some (.at (.v (.bool true)))=>rec_.code f nt t sf nv nh k
  | some (.at (.v (.bool false)))=>rec_.code f nt e sf nv nh k
  | some (.at (.n j))=>fS j (rec_.code f nt t (sf.learn j true) nv nh k) (rec_.code f nt e (sf.learn j false) nv nh k)
  | _=>none
 | .block id b=>if Nat.blt id gotoB then rec_.code f nt b sf nv nh (V0 id k) else none
 | .loop b=>if V1 cfg f b then rec_.code f nt b sf nv nh (qA (fun sf nv nh=>rec_.code f nt (.loop b) sf nv nh k) k) else pt rec_ f nt b sf nv nh k
 | .scope b=>rec_.code f nt b sf nv nh (js rec_ f nt b 4 k)
 | .exit id=>if Nat.blt id gotoB then k (id+2) sf nv nh else none
 | .goto l=>k (l+gotoB+2) sf nv nh
 | .ret=>k 1 sf nv nh
 | .region _ ops draw=>if draw then w8 E cfg rec_ nt ops sf nv nh (k 0) else dZ E cfg rec_ nt ops ops.toList sf nv nh (k 0)
 | _=>none
def eA (sf:SF):List ResultVar->Nat->Nat->(List X->Nat->Nat->Option N)->Option N
 | [],nv,nh,k=>k [] nv nh
 | r::rs,nv,nh,k=>match r with
  | .tmp t=>match sf.get t with
   | some x=>eA sf rs nv nh fun xs nv nh=>k (x::xs) nv nh
   | none=>none
  | .cell a t=>match sf.get a,E.agg t,E.size t with
   | some x,some true,some n=>nOp (.load (some n)) [x] (eA sf rs (nv+1) nh fun xs nv' nh=>k (vn nv::xs) nv' nh)
   | some x,some false,_=>nOp (.load none) [x] (eA sf rs (nv+1) nh fun xs nv' nh=>k (vn nv::xs) nv' nh)
   | _,_,_=>none
def jt:Nat->List X->SF
 | _,[]=>[]
 | i,x::xs=>(i,x)::jt (i+1) xs
def w9 (k:KX):List X->Nat->Nat->Option N
 | [x],nv,nh=>k x nv nh
 | xs,nv,nh=>nOp .tup xs (k (vn nv) (nv+1) nh)
def qD (f:Nat) (args:List X) (nv nh:Nat) (k:KX):Option N :=
 if E.known.any (fun k=>Nat.beq k.f f)||E.xf.any (Nat.beq f)||E.xj.any (Nat.beq f) then none else
 match E.fn.get f with
 | none=>none
 | some fn=>match fn.body with
  | none=>none
  | some c=>if args.length<=fn.ntmps then
    rec_.code f fn.ntmps c (jt 0 args) nv nh fun o sf nv nh=>match o with
     | 0 | 1=>eA E sf fn.results.toList nv nh (w9 k)
     | _+2=>none
   else none
def sx:Nat->SRec
 | 0=>{ code:=fun _ _ _ _ _ _ _=>none,call:=fun _ _ _ _ _=>none }
 | n+1=>{ code:=qC E cfg (sx n),call:=qD E (sx n) }
def gN:Nat->Nat->List X
 | _,0=>[]
 | i,n+1=>vn i::gN (i+1) n
def aC (fuel f n:Nat):Option N:=(sx E cfg fuel).call f (gN 0 n) n 0 fun x _ _=>some (.fin 1 [x])
end
end Go.AM.SX
namespace Go.AM.SX
open Go
theorem look_eq (σ:Sg) (k:Nat):look σ k=(σ[k]?).getD undef:=by
 induction σ generalizing k with
 | nil=>rfl
 | cons v l ih=>cases k with
  | zero=>rfl
  | succ k=>simpa [look] using ih k
theorem eB (σ τ:Sg) {k:Nat} (h:k < σ.length):look (σ++τ) k=look σ k:=by
 rw [look_eq,look_eq,List.getElem?_append_left h]
theorem qE (σ:Sg) (v:Value) (τ:Sg):look (σ++v::τ) σ.length=v:=by
 rw [look_eq,List.getElem?_append_right (Nat.le_refl _)];simp
theorem fV (σ:Sg) (v:Value):look (σ++[v]) σ.length=v:=qE σ v []
theorem wa {n k:Nat} (h:Nat.blt k n=true):k < n:=by rw [Nat.blt_eq] at h;exact h
theorem At.den_append {a:At} {σ:Sg} (τ:Sg) (h:a.ok σ.length=true):a.den (σ++τ)=a.den σ:=by
 cases a with
 | v x=>rfl
 | n k=>exact eB σ τ (wa h)
theorem X.den_append {x:X} {σ:Sg} (τ:Sg) (h:x.ok σ.length=true):x.den (σ++τ)=x.den σ:=by
 cases x with
 | «at» a=>exact At.den_append τ h
 | ifc t a=>simp only [X.den];rw [At.den_append τ h]
 | fn f cs =>
  simp only [X.den]
  have:cs.map (·.den (σ++τ))=cs.map (·.den σ):=by
   apply List.map_congr_left
   intro a ha
   exact At.den_append τ (List.all_eq_true.1 h a ha)
  rw [this]
 | sl a n=>simp only [X.den];rw [At.den_append τ h]
theorem At.ok_mono {a:At} {n m:Nat} (h:n<=m) (ha:a.ok n=true):a.ok m=true:=by
 cases a with
 | v x=>rfl
 | n k=>exact (by rw [Nat.blt_eq];exact Nat.lt_of_lt_of_le (wa ha) h:Nat.blt k m=true)
theorem X.ok_mono {x:X} {n m:Nat} (h:n<=m) (hx:x.ok n=true):x.ok m=true:=by
 cases x with
 | «at» a=>exact At.ok_mono h hx
 | ifc t a=>exact At.ok_mono h hx
 | fn f cs=>exact List.all_eq_true.2 fun a ha=>At.ok_mono h (List.all_eq_true.1 hx a ha)
 | sl a n=>exact At.ok_mono h hx
theorem qF {n k:Nat} (h:k < n):(vn k).ok n=true:=(by rw [Nat.blt_eq];exact h:Nat.blt k n=true)
theorem fW {xs:List X} {σ:Sg} (τ:Sg) (h:∀ x,x∈xs->x.ok σ.length=true):denL (σ++τ) xs=denL σ xs :=
 List.map_congr_left fun x hx=>X.den_append τ (h x hx)
def X.wf (σ:Sg):X->Prop
 | .sl a _=>∃ p,a.den σ=.pointer p
 | _=>True
def X.good (σ:Sg) (x:X):Prop:=x.ok σ.length=true/\x.wf σ
theorem X.good.append {x:X} {σ:Sg} (h:x.good σ) (τ:Sg):x.good (σ++τ):=by
 refine ⟨X.ok_mono (by simp) h.1,?_⟩
 cases x with
 | sl a n =>
  obtain ⟨p,hp⟩:=h.2
  exact ⟨p,by rw [At.den_append τ h.1];exact hp⟩
 | _=>trivial
theorem c8 (σ:Sg) (v:Value):(vv v).good σ:=⟨rfl,trivial⟩
theorem mP {σ:Sg} {k:Nat} (h:k < σ.length):(vn k).good σ:=⟨qF h,trivial⟩
def FrRel (σ:Sg) (sf:SF) (fr:Fr):Prop:=∀ t x,sf.get t=some x->x.good σ/\fr.tm.get t=some (x.den σ)
theorem FrRel.append {σ:Sg} {sf:SF} {fr:Fr} (h:FrRel σ sf fr) (τ:Sg):FrRel (σ++τ) sf fr:=fun t x hx =>
 let ⟨h1,h2⟩:=h t x hx
 ⟨h1.append τ,by rw [X.den_append τ h1.1];exact h2⟩
theorem FrRel.put {σ:Sg} {sf:SF} {fr:Fr} (h:FrRel σ sf fr) {d:Nat} {x:X} (hx:x.good σ) :
  FrRel σ ((d,x)::sf) { fr with tm:=fr.tm.set d (x.den σ) }:=by
 intro t y hy
 unfold SF.get at hy
 split at hy
 ·rename_i e
  cases hy
  have:d=t:=Nat.eq_of_beq_eq_true e
  subst this
  exact ⟨hx,T.get_set_same _ _ _⟩
 ·rename_i e
  obtain ⟨h1,h2⟩:=h t y hy
  refine ⟨h1,?_⟩
  show (fr.tm.set d (x.den σ)).get t=_
  rw [T.get_set_other _ _ (by intro e';subst e';simp at e)]
  exact h2
theorem SF.get_learn (k:Nat) (b:Bool) (sf:SF) (t:Nat):(sf.learn k b).get t=(sf.get t).map (·.learn k b):=by
 induction sf with
 | nil=>rfl
 | cons p sf ih =>
  obtain ⟨s,x⟩:=p
  simp only [SF.learn,SF.get]
  split
  ·rfl
  ·exact ih
theorem X.learn_den {σ:Sg} {k:Nat} {b:Bool} (h:look σ k=.bool b) (x:X):(x.learn k b).den σ=x.den σ:=by
 cases x with
 | «at» a =>
  cases a with
  | v x=>rfl
  | n j =>
   simp only [X.learn,At.learn]
   split
   ·rename_i e
    have:j=k:=Nat.eq_of_beq_eq_true e
    subst this
    exact h.symm
   ·rfl
 | ifc t a=>rfl
 | fn f cs=>rfl
 | sl a n=>rfl
theorem X.learn_ok {σ:Sg} {k:Nat} {b:Bool} {x:X} (h:x.good σ):(x.learn k b).good σ:=by
 cases x with
 | «at» a =>
  cases a with
  | v x=>exact c8 σ x
  | n j =>
   simp only [X.learn,At.learn]
   split
   ·exact c8 σ _
   ·exact h
 | ifc t a=>exact h
 | fn f cs=>exact h
 | sl a n=>exact h
theorem FrRel.learn {σ:Sg} {sf:SF} {fr:Fr} (h:FrRel σ sf fr) {k:Nat} {b:Bool} (hk:look σ k=.bool b):FrRel σ (sf.learn k b) fr:=by
 intro t x hx
 rw [SF.get_learn] at hx
 cases hs:sf.get t with
 | none=>rw [hs] at hx;cases hx
 | some y =>
  rw [hs] at hx
  cases hx
  obtain ⟨h1,h2⟩:=h t y hs
  exact ⟨X.learn_ok h1,by rw [X.learn_den hk];exact h2⟩
section
variable {E:Env} {σ:Sg} {sf:SF} {fr:Fr}
theorem aK (hf:FrRel σ sf fr) {o:Operand} {x:X} (h:aT sf o=some x):x.good σ/\aD fr o=x.den σ:=by
 cases o with
 | tmp t =>
  obtain ⟨h1,h2⟩:=hf t x h
  exact ⟨h1,by simp only [aD,h2];rfl⟩
 | const v=>cases h;exact ⟨c8 σ v,rfl⟩
 | «global» g=>cases h;exact ⟨c8 σ _,rfl⟩
 | func f=>cases h;exact ⟨⟨rfl,trivial⟩,rfl⟩
theorem mQ (hf:FrRel σ sf fr):∀ {os:List Operand} {xs:List X},fR sf os=some xs->(∀ x,x∈xs->x.good σ)/\os.map (aD fr)=denL σ xs
 | [],xs,h=>by cases h;exact ⟨fun x hx=>by simp at hx,rfl⟩
 | o::os,xs,h=>by
  simp only [fR] at h
  split at h
  ·rename_i x xs' h1 h2
   cases h
   obtain ⟨a1,a2⟩:=aK hf h1
   obtain ⟨b1,b2⟩:=mQ hf h2
   refine ⟨fun y hy=>?_,by simp only [List.map_cons,denL];rw [a2,b2];rfl⟩
   rcases List.mem_cons.1 hy with rfl | hy
   ·exact a1
   ·exact b1 y hy
  ·cases h
def da (E:Env) (σ:Sg) (fr:Fr) (o:Oper):Act->Prop
 | .st x=>x.good σ/\∀ A,opX E A (aD fr) o=some (.val (x.den σ),A)
 | .op r args=>∀ A v A',aB r (denL σ args) A=some (v,A')->opX E A (aD fr) o=some (.val v,A')
 | .opSl r args len=>∀ A v A',aB r (denL σ args) A=some (v,A')->(∃ p,v=.pointer p)/\opX E A (aD fr) o=some (.val (slV v len),A')
 | .eff r args=>∀ A v A',aB r (denL σ args) A=some (v,A')->opX E A (aD fr) o=some (.skip,A')
 | .call f args=>(∀ x,x∈args->x.good σ)/\∀ A,opX E A (aD fr) o=some (.enter f (denL σ args),A)
 | .callv x args=>∀ A g fs cs,x.den σ=.func (.func g) fs cs->(∃ fn,E.fn.get g=some fn/\fn.body.isSome=true)->opX E A (aD fr) o=some (.enter g (fs.toList++denL σ args++cs.toList),A)
 | .callm x name args=>∀ A g as,fe E A (x.den σ) name (denL σ args)=some (.enter g as,A)->opX E A (aD fr) o=some (.enter g as,A)
 | .pick k a b=>a.good σ/\b.good σ/\∀ A t,look σ k=.bool t->opX E A (aD fr) o=some (.val (if t then a.den σ else b.den σ),A)
theorem e8 {A:St} {ρ:Operand->Value} {o:Oper} (hl:cD E o=true):opX E A ρ o=opD E A ρ o:=by
 unfold opX;rw [if_pos hl]
end
end Go.AM.SX
