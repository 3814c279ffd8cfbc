/- What was asked since a state was saved, by the tree's text alone: so what is said of values needs no list of it. -/
import Derived.Test.YtilbjefgojocaaaGreatDoorPvSem
namespace Go.AM.PV
open Go Go.AM Go.AM.SX
def AgS (S:Nat->Prop) (h:T AObj) (A:St):Prop:=∀ b,S b->A.h.get b=h.get b
section
variable {β:List Nat} {S:Nat->Prop} {h:T AObj}
theorem Th {r:R} {ps:List P} {p:P} {vs:List Value} (hr:RepL β S h vs ps) (hs:bc r ps=some p):∃ v,(∀ A,aB r vs A=some (v,A))/\p=.c v:=by
 unfold bc at hs
 split at hs
 ·rename_i hm
  split at hs
  ·rename_i xs hu
   split at hs
   ·rename_i v B hv
    cases hs
    have:=vu ps xs vs hu hr
    subst this
    exact ⟨v,fun A=>Tg hm hv A,rfl⟩
   ·cases hs
  ·cases hs
 ·cases hs
theorem inv1 {vs:List Value} {p:P} (r:RepL β S h vs [p]):∃ v,vs=[v]/\Rep β S h v p:=by
 cases r with
 | cons v _ vs _ r rs=>cases rs;exact ⟨v,rfl,r⟩
theorem inv2 {vs:List Value} {p q:P} (r:RepL β S h vs [p,q]):∃ v w,vs=[v,w]/\Rep β S h v p/\Rep β S h w q:=by
 cases r with
 | cons v _ vs _ r rs=>obtain ⟨w,rfl,hw⟩:=inv1 rs;exact ⟨v,w,rfl,r,hw⟩
theorem pL {vs:List Value} {p:P} {ps:List P} (r:RepL β S h vs (p::ps)):∃ v ws,vs=v::ws/\Rep β S h v p/\RepL β S h ws ps:=by
 cases r with
 | cons v _ vs _ r rs=>exact ⟨v,vs,rfl,r,rs⟩
theorem Ti {d:TypeDesc} {v w:Value} {p q:P} (hn:pI d p q=true) (hp:Rep β S h v p) (hq:Rep β S h w q):dw d v w=some false:=by
 unfold pI at hn
 split at hn <;> first
  | (cases hn;done)
  | (cases hq;cases hp;rfl)
  | (cases hq;cases hp <;> first
    | rfl
    | (simp at hn;done))
inductive OptR (β:List Nat) (S:Nat->Prop) (h:T AObj):Option P->Option Value->Prop where
 | none:OptR β S h none none
 | some (p:P) (v:Value):Rep β S h v p->OptR β S h (some p) (some v)
theorem pM {o:Option P} {ov:Option Value} (ho:OptR β S h o ov) {hi d k:Nat} (hb:eS o hi d=some k):aL ov hi d=some k:=by
 cases ho with
 | none=>exact hb
 | some p v ho =>
  cases p with
  | c x=>cases ho;exact hb
  | _=>cases hb
theorem Tj {v:Value} {hi k:Nat} (hb:bound v hi=some k):k<=hi:=by
 unfold bound at hb
 split at hb
 ·split at hb
  ·cases hb;omega
  ·cases hb
 ·cases hb
theorem lZ {o:Option P} {hi d k:Nat} (hd:d<=hi) (hb:eS o hi d=some k):k<=hi:=by
 unfold eS at hb
 split at hb
 ·cases hb;exact hd
 ·exact Tj hb
 ·cases hb
theorem Tk {v:Value} {hi hi' k:Nat} (hle:hi<=hi') (hb:bound v hi=some k):bound v hi'=some k:=by
 unfold bound at hb ⊢
 split at hb
 ·rename_i i
  split at hb
  ·rename_i hc
   rw [if_pos (by omega)];exact hb
  ·cases hb
 ·cases hb
theorem Tl {o:Option P} {ov:Option Value} (ho:OptR β S h o ov) {hi hi' d k:Nat} (hle:hi<=hi') (hb:eS o hi d=some k):aL ov hi' d=some k:=by
 cases ho with
 | none=>exact hb
 | some p v ho =>
  cases p with
  | c x=>cases ho;exact Tk hle hb
  | _=>cases hb
theorem iN {vs:List Value} {ps:List P} (r:RepL β S h vs ps):OptR β S h ps.head? vs.head? := by
 cases r with
 | nil=>exact .none
 | cons v p vs ps r rs=>exact .some _ _ r
theorem RepL.tail {vs:List Value} {ps:List P} (r:RepL β S h vs ps):RepL β S h vs.tail ps.tail:=by
 cases r with
 | nil=>exact .nil
 | cons v p vs ps r rs=>exact rs
theorem Rdc.sub {a:Addr} {sz:Nat} {vs:List Value} (x:Rdc h sz a vs) (i n:Nat) (hi:i+n<=vs.length):Rdc h sz (aJ a i) ((vs.drop i).take n):=by
 obtain ⟨h0,r,h1,h2,h3,h4,h5⟩:=x
 refine ⟨rfl,r,h1,h2,by simp [aJ];omega,?_,fun j hj=>?_⟩
 ·rw [List.all_eq_true] at h4 ⊢
  intro y hy
  exact h4 y (List.mem_of_mem_drop (List.mem_of_mem_take hy))
 ·simp only [List.length_take,List.length_drop] at hj
  simp only [aJ]
  rw [show a.off+i+j=a.off+(i+j) by omega,h5 (i+j) (by omega),List.getElem?_take,if_pos (by omega),List.getElem?_drop]
theorem vx {a:Addr} {sz sz' n c:Nat} {vs:List Value} {l:List P} (hS:S a.block) (hx:Rdc h sz' a vs) (hl:vs.length=n * sz') (hn:n<=c) (hr:RepL β S h vs l) {lo hi:Bool} {ws:List Value} {qs:List P} (hw:RepL β S h ws qs) {p:P}
  (hs:eT sz lo hi qs sz' n l=some p):∃ v,(∀ A,AgS S h A->aB (.subL sz lo hi false) (.slice (some a) n c::ws) A=some (v,A))/\Rep β S h v p:=by
 unfold eT at hs
 simp only at hs
 split at hs
 ·rename_i hsz
  subst hsz
  split at hs
  ·rename_i hh hb1
   split at hs
   ·rename_i kk hb2
    cases hs
    have e1:hh<=n:=lZ (Nat.le_refl _) hb1
    have e2:kk<=hh:=lZ (Nat.zero_le _) hb2
    have o1:aL (if hi then (if lo then ws.tail else ws).head? else none) c n=some hh:=by
     refine Tl (β:=β) (S:=S) (h:=h) ?_ hn hb1
     cases hi
     ·exact .none
     ·cases lo
      ·exact iN hw
      ·exact iN hw.tail
    have o2:aL (if lo then ws.head? else none) hh 0=some kk:=by
     refine pM (β:=β) (S:=S) (h:=h) ?_ hb2
     cases lo
     ·exact .none
     ·exact iN hw
    have hm:kk * sz'+(hh - kk) * sz'<=vs.length:=by
     rw [hl,<- Nat.add_mul]
     exact Nat.mul_le_mul_right _ (by omega)
    have hlen:((vs.drop (kk * sz')).take ((hh - kk) * sz')).length=(hh - kk) * sz':=by
     rw [List.length_take,List.length_drop];omega
    have hxx:=hx
    obtain ⟨h0,r,h1,h2,h3,h4,h5⟩:=hx
    by_cases ho:r.opn=true
    ·refine ⟨.slice (some (aJ a (kk * sz'))) (hh - kk) (c - kk),fun A hA=>?_,?_⟩
     ·simp only [aB]
      simp only [St.row?,hA _ hS,h1]
      simp only [aL] at o1 o2 ⊢
      simp only [o1,o2,ho,h2 ho,bne_self_eq_false,Bool.false_eq_true,if_false]
      rfl
     ·exact .sl _ _ _ _ _ _ hS (hxx.sub _ _ hm) hlen (by omega) ((hr.drop _).take _)
    ·rw [Bool.not_eq_true] at ho
     refine ⟨.slice (some (if c=kk then a else aJ a (kk * sz'))) (hh - kk) (c - kk),fun A hA=>?_,?_⟩
     ·simp only [aB]
      simp only [St.row?,hA _ hS,h1]
      simp only [aL] at o1 o2 ⊢
      simp only [o1,o2,ho,Bool.false_eq_true,if_false]
     ·split
      ·rename_i hck
       have:hh - kk=0:=by omega
       rw [this,Nat.zero_mul]
       have hz:(hh - kk) * sz'=0:=by rw [this,Nat.zero_mul]
       simp only [List.take_zero]
       have:=hxx.sub 0 0 (by omega)
       rw [jc h0,List.take_zero] at this
       exact .sl _ _ _ _ [] [] hS this (by simp) (by omega) .nil
      ·exact .sl _ _ _ _ _ _ hS (hxx.sub _ _ hm) hlen (by omega) ((hr.drop _).take _)
   ·cases hs
  ·cases hs
 ·cases hs
theorem Tm {sz sz':Nat} {lo hi:Bool} {ws:List Value} {qs:List P} (hw:RepL β S h ws qs) {p:P}
  (hs:eT sz lo hi qs sz' 0 []=some p):∃ v,(∀ A,AgS S h A->aB (.subL sz lo hi false) (.slice none 0 0::ws) A=some (v,A))/\Rep β S h v p:=by
 unfold eT at hs
 simp only at hs
 split at hs
 ·rename_i hsz
  subst hsz
  split at hs
  ·rename_i hh hb1
   split at hs
   ·rename_i kk hb2
    cases hs
    have e1:hh<=0:=lZ (Nat.le_refl _) hb1
    have e1':hh=0:=by omega
    subst e1'
    have e2:kk<=0:=lZ (Nat.zero_le _) hb2
    have e2':kk=0:=by omega
    subst e2'
    have o1:aL (if hi then (if lo then ws.tail else ws).head? else none) 0 0=some 0:=by
     refine pM (β:=β) (S:=S) (h:=h) ?_ hb1
     cases hi
     ·exact .none
     ·cases lo
      ·exact iN hw
      ·exact iN hw.tail
    have o2:aL (if lo then ws.head? else none) 0 0=some 0:=by
     refine pM (β:=β) (S:=S) (h:=h) ?_ hb2
     cases lo
     ·exact .none
     ·exact iN hw
    refine ⟨.slice none 0 0,fun A _=>?_,?_⟩
    ·simp only [aB]
     simp only [aL] at o1 o2 ⊢
     simp only [o1,o2,Bool.false_eq_true,if_false]
     rfl
    ·simpa using Rep.nil (β:=β) (S:=S) (h:=h) sz'
   ·cases hs
  ·cases hs
 ·cases hs
theorem vy:∀ (l:List P) (bs:List UInt8) (vs:List Value),fJ l=some bs->RepL β S h vs l ->
  vs.foldr (fun v acc=>match v,acc with | .int .u8 b,some l=>some (UInt8.ofNat b.toNat::l) | _,_=>none) (some [])=some bs
 | [],bs,vs,hi,r=>by cases r;simp only [fJ,Option.some.injEq] at hi;subst hi;rfl
 | p :: l,bs,vs,hi,r=>by
  obtain ⟨v,ws,rfl,hv,hw⟩:=pL r
  cases p with
  | c x =>
   cases hv
   cases v with
   | int k b =>
    cases k <;> simp only [fJ] at hi <;> first
     | (cases hi;done)
     | skip
    split at hi
    ·rename_i cs hc
     cases hi
     simp only [List.foldr_cons,vy l cs ws hc hw]
    ·cases hi
   | _=>simp only [fJ] at hi;cases hi
  | _=>simp only [fJ] at hi;cases hi
theorem l4 {A:St} {a:Addr} {v:Value} (h:A.loadN a 1=some [v]):aB (.load none) [.pointer (some a)] A=some (v,A):=by
 simp only [aB,h]
theorem pN {A:St} {a:Addr} {n:Nat} {vs:List Value} (h:A.loadN a n=some vs):aB (.load (some n)) [.pointer (some a)] A=some (.agg vs.toArray,A):=by
 simp only [aB,h]
set_option maxHeartbeats 1000000 in
theorem l5 {r:R} {ps:List P} {p:P} {vs:List Value} (hr:RepL β S h vs ps) (hs:aS r ps=some p):∃ v,(∀ A,AgS S h A->aB r vs A=some (v,A))/\Rep β S h v p:=by
 unfold aS at hs
 split at hs
 ·rename_i q hc
  cases hs
  obtain ⟨v,h1,rfl⟩:=Th hr hc
  exact ⟨v,fun A _=>h1 A,.c v⟩
 ·split at hs
  ·-- ext
   obtain ⟨v,rfl,hv⟩:=inv1 hr
   cases hv with
   | tup ws l hl =>
    obtain ⟨w,h1,h2⟩:=hl.get hs
    exact ⟨w,fun A _=>by simp only [aB,List.getElem?_toArray,h1],h2⟩
  ·-- field
   obtain ⟨v,rfl,hv⟩:=inv1 hr
   cases hv with
   | agg ws l hl =>
    obtain ⟨w,h1,h2⟩:=hl.get hs
    exact ⟨w,fun A _=>by simp only [aB,List.getElem?_toArray,h1],h2⟩
  ·obtain ⟨v,rfl,hv⟩:=inv1 hr
   cases hv with
   | agg ws _ hl =>
    cases hs
    refine ⟨_,fun A _=>?_,.agg _ _ ((hl.drop _).take _)⟩
    simp only [aB,List.extract_toArray,List.extract]
    rw [Nat.add_sub_cancel_left]
  ·-- build
   split at hs
   ·rename_i l hl
    cases hs
    obtain ⟨cs,h1,h2⟩:=pK hr (RepL.consts _) hl
    exact ⟨.agg cs.toArray,fun A _=>by simp only [aB,h1],.agg _ _ h2⟩
   ·cases hs
  ·cases hs
   exact ⟨.tuple vs.toArray,fun A _=>by simp only [aB],.tup _ _ hr⟩
  ·-- ta
   rename_i t z ok ty q heq
   obtain ⟨v,rfl,hv⟩:=inv1 hr
   cases hv with
   | ifc _ w _ hw =>
    split at hs
    ·rename_i he
     cases hs
     subst he
     refine ⟨if ok then .tuple #[w,.bool true] else w,fun A _=>by simp only [aB,if_true],?_⟩
     cases ok
     ·exact hw
     ·exact .tup [w,.bool true] _ (.cons _ _ _ _ hw (.one (.c _)))
    ·rename_i he
     split at hs
     ·rename_i hok
      cases hs
      refine ⟨.tuple #[z,.bool false],fun A _=>by simp only [aB,if_neg he,hok,if_true],?_⟩
      exact .tup [z,.bool false] _ (.cons _ _ _ _ (.c _) (.one (.c _)))
     ·cases hs
  ·-- nilc
   obtain ⟨v,rfl,hv⟩:=inv1 hr
   split at hs
   ·rename_i hn
    cases hs
    refine ⟨v,fun A _=>?_,hv⟩
    cases hv <;> first
     | rfl
     | (cases hn;done)
   ·cases hs
  ·-- eqn
   obtain ⟨v,w,rfl,hv,hw⟩:=inv2 hr
   split at hs
   ·rename_i hn
    cases hs
    refine ⟨.bool (false != _),fun A _=>by simp only [aB,Ti hn hv hw];rfl,?_⟩
    rw [Bool.false_bne]
    exact .c _
   ·cases hs
  ·-- len
   cases hs
   obtain ⟨v,rfl,hv⟩:=inv1 hr
   cases hv <;> exact ⟨_,fun A _=>rfl,.c _⟩
  ·cases hs
   obtain ⟨v,rfl,hv⟩:=inv1 hr
   cases hv;exact ⟨_,fun A _=>rfl,.c _⟩
  ·cases hs
   obtain ⟨v,rfl,hv⟩:=inv1 hr
   cases hv;exact ⟨_,fun A _=>rfl,.c _⟩
  ·-- idxA sl
   obtain ⟨v,w,rfl,hv,hw⟩:=inv2 hr
   cases hw
   split at hs
   ·rename_i hc
    cases hs
    cases hv with
    | nil=>exact absurd hc.2 (by omega)
    | sl a sz n c vs ps h1 h2 h3 h4 h5 =>
     obtain ⟨rfl,h6,h7⟩:=hc
     refine ⟨.pointer (some (aJ a _)),fun A _=>by simp only [aB];rw [if_pos ⟨h6,h7⟩],.ip a _ _ _ _ h1 h2 h5⟩
   ·cases hs
  ·obtain ⟨v,w,rfl,hv,hw⟩:=inv2 hr
   cases hw
   split at hs
   ·rename_i hc
    cases hs
    cases hv with
    | fx a sz n vs ps h1 h2 h3 h5 =>
     obtain ⟨rfl,h6,h7⟩:=hc
     refine ⟨.pointer (some (aJ a _)),fun A _=>by simp only [aB];rw [if_pos ⟨h6,h7⟩],.ip a 0 _ _ _ h1 (h2.rdc 0) h5⟩
   ·cases hs
  ·obtain ⟨v,w,rfl,hv,hw⟩:=inv2 hr
   cases hw
   split at hs
   ·rename_i hc
    cases hs
    cases hv with
    | ms k b off n c h1 =>
     refine ⟨_,fun A _=>?_,.lp _ _ _ h1⟩
     simp only [aB];rw [if_pos hc];rfl
   ·cases hs
  ·obtain ⟨v,w,rfl,hv,hw⟩:=inv2 hr
   cases hw
   split at hs
   ·rename_i hc
    cases hs
    cases hv with
    | lp k b off h1 =>
     refine ⟨_,fun A _=>?_,.lp _ _ _ h1⟩
     simp only [aB];rw [if_pos hc];rfl
   ·cases hs
  ·obtain ⟨v,w,rfl,hv,hw⟩:=inv2 hr
   cases hw
   split at hs
   ·rename_i hc
    cases hs
    cases hv with
    | ip a sz off vs ps h1 h2 h3 =>
     refine ⟨_,fun A _=>?_,.ip a _ _ _ _ h1 h2 h3⟩
     simp only [aB];rw [if_pos hc,vw]
   ·cases hs
  ·-- fld
   cases hs
   obtain ⟨v,rfl,hv⟩:=inv1 hr
   cases hv with
   | ip a sz off vs ps h1 h2 h3 =>
    refine ⟨_,fun A _=>?_,.ip a _ _ _ _ h1 h2 h3⟩
    simp only [aB,vw]
  ·cases hs
   obtain ⟨v,rfl,hv⟩:=inv1 hr
   cases hv with
   | lit a vs ps h1 h2 h3=>exact ⟨.pointer (some (aJ a _)),fun A _=>rfl,.ip a 0 _ _ _ h1 (h2.rdc 0) h3⟩
  ·cases hs
   obtain ⟨v,rfl,hv⟩:=inv1 hr
   cases hv with
   | lp i b off h1=>exact ⟨_,fun A _=>rfl,.lp _ _ _ h1⟩
  ·-- load
   obtain ⟨v,rfl,hv⟩:=inv1 hr
   cases hv with
   | ip a sz off vs ps h1 h2 h3 =>
    obtain ⟨w,e1,e2⟩:=h3.get hs
    exact ⟨w,fun A hA=>l4 (h2.at (hA _ h1) e1),e2⟩
  ·obtain ⟨v,rfl,hv⟩:=inv1 hr
   split at hs
   ·rename_i hle
    cases hs
    cases hv with
    | ip a sz off vs ps h1 h2 h3 =>
     exact ⟨_,fun A hA=>pN (h2.range (hA _ h1) (by rw [h3.length];exact hle)),.agg _ _ ((h3.drop _).take _)⟩
   ·cases hs
  ·obtain ⟨v,rfl,hv⟩:=inv1 hr
   cases hv with
   | lit a vs ps h1 h2 h3 =>
    obtain ⟨w,e1,e2⟩:=h3.get hs
    refine ⟨w,fun A hA=>?_,e2⟩
    have:=(h2.rdc 0).at (hA _ h1) e1
    rw [jc h2.1] at this
    exact l4 this
  ·obtain ⟨v,rfl,hv⟩:=inv1 hr
   split at hs
   ·rename_i hle
    cases hs
    cases hv with
    | lit a vs ps h1 h2 h3 =>
     refine ⟨_,fun A hA=>pN (n:=_) (vs:=(vs.drop 0).take _) ?_,.agg _ _ ((h3.drop 0).take _)⟩
     have:=(h2.rdc 0).range (hA _ h1) (i:=0) (n:=_) (by rw [h3.length,Nat.zero_add];exact hle)
     rw [jc h2.1] at this
     exact this
   ·cases hs
  ·-- subL
   obtain ⟨v,ws,rfl,hv,hw⟩:=pL hr
   cases hv with
   | nil sz=>exact Tm hw hs
   | sl a sz n c vs ps h1 h2 h3 h4 h5=>exact vx h1 h2 h3 h4 h5 hw hs
  ·obtain ⟨v,ws,rfl,hv,hw⟩:=pL hr
   cases hv with
   | fx a sz n vs ps h1 h2 h3 h5=>exact vx h1 (h2.rdc _) h3 (Nat.le_refl _) h5 hw hs
  ·-- toStr
   rename_i n l heq
   obtain ⟨v,rfl,hv⟩:=inv1 hr
   split at hs
   ·rename_i hl
    split at hs
    ·rename_i bs hb
     cases hs
     cases hv with
     | nil =>
      simp only [fJ,Option.some.injEq] at hb
      subst hb
      exact ⟨_,fun A _=>rfl,.c _⟩
     | sl a sz n c vs ps h1 h2 h3 h4 h5 =>
      refine ⟨mkStr bs,fun A hA=>?_,.c _⟩
      have hvl:=h5.length
      have hld:A.loadN a vs.length=some vs:=by
       have:=h2.range (hA _ h1) (i:=0) (n:=vs.length) (by omega)
       rw [jc h2.1,List.drop_zero,List.take_length] at this
       exact this
      rw [hvl.trans hl] at hld
      have hbl:dO A (.slice (some a) l.length c)=some bs:=by
       show (match A.loadN a l.length with | some vs=>_ | none=>none)=_
       rw [hl,hld]
       exact vy _ _ _ hb h5
      rw [hl] at hbl
      simp only [aB,hbl]
    ·cases hs
   ·cases hs
  ·cases hs
end
end Go.AM.PV
namespace Go.AM.PV
open Go Go.AM Go.AM.SX
section
variable {β β':List Nat} {S S':Nat->Prop} {A B:St}
theorem OwnR.mono (hS:∀ b,S b->S' b) (hh:∀ b,S b->B.h.get b=A.h.get b) (hβ:∀ (i b:Nat),β[i]? = some b->β'[i]? = some b) (hn:A.next<=B.next) {v:Value} {e:TypeId} {sz n:Nat} {l:List P} {g:List Nat}
  (hg:∀ k,k∈g->B.g.get k=A.g.get k) (r:OwnR β S A v e sz n l g):OwnR β' S' B v e sz n l g:=by
 cases r with
 | nil=>exact .nil _ _
 | fx a e sz n vs ps h1 h2 h3 h4=>exact .fx a _ _ _ vs _ (hS _ h1) (h2.mono (hh _ h1)) h3 (h4.mono hS hh hβ)
 | ow b r _ _ n vs ps he hs h1 h2 h3 h4 h5 h6 h7 h8 h9 h10 h11 h12 =>
  refine .ow b r _ _ _ vs _ he hs (hS _ h1) ((hh _ h1).trans h2) h3 h4 h5 h6 h7 h8 h9 (h10.mono hS hh hβ) (Nat.lt_of_lt_of_le h11 hn) ?_
  rw [hg r.grp (by simp)]
  exact h12
theorem OwnR.trunc {k:Nat} {v:Value} {e:TypeId} {sz n:Nat} {l:List P} {g:List Nat} (r:OwnR β S A v e sz n l g) (hk:okm.okL k l=true):OwnR (β.take k) S A v e sz n l g:=by
 cases r with
 | nil=>exact .nil _ _
 | fx a e sz n vs ps h1 h2 h3 h4=>exact .fx a _ _ _ vs _ h1 h2 h3 (h4.trunc hk)
 | ow b r _ _ n vs ps he hs h1 h2 h3 h4 h5 h6 h7 h8 h9 h10 h11 h12=>exact .ow b r _ _ _ vs _ he hs h1 h2 h3 h4 h5 h6 h7 h8 h9 (h10.trunc hk) h11 h12
theorem OwnR.glt {v:Value} {e:TypeId} {sz n:Nat} {l:List P} {g:List Nat} (r:OwnR β S A v e sz n l g):∀ k,k∈g->k < A.next:=by
 cases r with
 | nil=>intro k hk;cases hk
 | fx=>intro k hk;cases hk
 | ow b r _ _ n vs ps he hs h1 h2 h3 h4 h5 h6 h7 h8 h9 h10 h11 h12 =>
  intro k hk
  simp only [List.mem_singleton] at hk
  subst hk;exact h11
theorem OwnR.rep {v:Value} {e:TypeId} {sz n:Nat} {l:List P} {g:List Nat} (r:OwnR β S A v e sz n l g):Rep β S A.h v (.sl sz n l):=by
 cases r with
 | nil=>exact .nil _
 | fx a e sz n vs ps h1 h2 h3 h4=>exact .sl a _ _ _ vs _ h1 (h2.rdc _) h3 (Nat.le_refl _) h4
 | ow b r _ _ n vs ps he hs h1 h2 h3 h4 h5 h6 h7 h8 h9 h10 h11 h12 =>
  exact .sl ⟨b,0,none⟩ _ _ _ vs _ h1 ⟨rfl,r,h2,fun _=>hs,by simp [h5],h7,fun i hi=>by simpa using h8 i hi⟩ h9 (Nat.le_refl _) h10
theorem Rep.toT {v:Value} {p:P} (r:Rep β S A.h v p):RepT β S A v p []:=by
 cases p with
 | ow e sz n l=>cases r
 | _=>exact ⟨r,rfl⟩
theorem RepT.fz {v:Value} {p:P} {g:List Nat} (r:RepT β S A v p g):Rep β S A.h v (fz p):=by
 cases p with
 | ow e sz n l=>exact OwnR.rep r
 | _=>exact r.1
theorem RepT.mono (hS:∀ b,S b->S' b) (hh:∀ b,S b->B.h.get b=A.h.get b) (hβ:∀ (i b:Nat),β[i]? = some b->β'[i]? = some b) (hn:A.next<=B.next) {v:Value} {p:P} {g:List Nat}
  (hg:∀ k,k∈g->B.g.get k=A.g.get k) (r:RepT β S A v p g):RepT β' S' B v p g:=by
 cases p with
 | ow e sz n l=>exact OwnR.mono hS hh hβ hn hg r
 | _=>exact ⟨r.1.mono hS hh hβ,r.2⟩
theorem RepT.trunc {k:Nat} {v:Value} {p:P} {g:List Nat} (r:RepT β S A v p g) (hk:okm k p=true):RepT (β.take k) S A v p g:=by
 cases p with
 | ow e sz n l=>exact OwnR.trunc r (by simpa only [okm] using hk)
 | _=>exact ⟨r.1.trunc hk,r.2⟩
theorem RepT.glt {v:Value} {p:P} {g:List Nat} (r:RepT β S A v p g):∀ k,k∈g->k < A.next:=by
 cases p with
 | ow e sz n l=>exact OwnR.glt r
 | _=>obtain ⟨_,rfl⟩:=r;intro k hk;cases hk
theorem RepO.mono (hS:∀ b,S b->S' b) (hh:∀ b,S b->B.h.get b=A.h.get b) (hβ:∀ (i b:Nat),β[i]? = some b->β'[i]? = some b) (hn:A.next<=B.next) {vs:List Value} {ps:List P} {gs:List Nat}
  (r:RepO β S A vs ps gs) (hg:∀ k,k∈gs->B.g.get k=A.g.get k):RepO β' S' B vs ps gs:=by
 induction r with
 | nil=>exact .nil
 | cons v p g vs ps gs h1 _ ih=>exact .cons v p g vs ps gs (h1.mono hS hh hβ hn fun k hk=>hg k (by simp [hk])) (ih fun k hk=>hg k (by simp [hk]))
theorem RepO.trunc {k:Nat} {vs:List Value} {ps:List P} {gs:List Nat} (r:RepO β S A vs ps gs) (hk:okm.okL k ps=true):RepO (β.take k) S A vs ps gs:=by
 induction r with
 | nil=>exact .nil
 | cons v p g vs ps gs h1 _ ih =>
  simp only [okm.okL,Bool.and_eq_true] at hk
  exact .cons v p g vs ps gs (h1.trunc hk.1) (ih hk.2)
theorem RepO.glt {vs:List Value} {ps:List P} {gs:List Nat} (r:RepO β S A vs ps gs):∀ k,k∈gs->k < A.next:=by
 induction r with
 | nil=>intro k hk;cases hk
 | cons v p g vs ps gs h1 _ ih =>
  intro k hk
  rcases List.mem_append.1 hk with g | g
  ·exact h1.glt k g
  ·exact ih k g
theorem RepO.length {vs:List Value} {ps:List P} {gs:List Nat} (r:RepO β S A vs ps gs):vs.length=ps.length:=by
 induction r with
 | nil=>rfl
 | cons v p g vs ps gs h1 _ ih=>simp [ih]
theorem RepO.append {vs ws:List Value} {ps qs:List P} {gs hs:List Nat} (r:RepO β S A vs ps gs) (s:RepO β S A ws qs hs):RepO β S A (vs++ws) (ps++qs) (gs++hs):=by
 induction r with
 | nil=>exact s
 | cons v p g vs ps gs h1 _ ih=>rw [List.append_assoc];exact .cons v p g _ _ _ h1 ih
theorem RepO.one {v:Value} {p:P} {g:List Nat} (r:RepT β S A v p g):RepO β S A [v] [p] g:=by
 have:=RepO.cons v p g [] [] [] r .nil
 rwa [List.append_nil] at this
theorem RepO.snoc {vs:List Value} {ps:List P} {gs:List Nat} (r:RepO β S A vs ps gs) {v:Value} {p:P} {g:List Nat} (h:RepT β S A v p g):RepO β S A (vs++[v]) (ps++[p]) (gs++g):=r.append (.one h)
theorem RepO.of {vs:List Value} {ps:List P} (r:RepL β S A.h vs ps):RepO β S A vs ps []:=by
 have aux:∀ (vs:List Value) (ps:List P),RepL β S A.h vs ps->RepO β S A vs ps []:=by
  intro vs
  induction vs with
  | nil=>intro ps r;cases r;exact .nil
  | cons v vs ih =>
   intro ps r
   cases r with
   | cons _ p _ ps h1 h2=>exact .cons v p [] vs ps [] h1.toT (ih _ h2)
 exact aux _ _ r
theorem RepO.fz {vs:List Value} {ps:List P} {gs:List Nat} (r:RepO β S A vs ps gs):RepL β S A.h vs (ps.map PV.fz):=by
 induction r with
 | nil=>exact .nil
 | cons v p g vs ps gs h1 _ ih=>exact .cons _ _ _ _ h1.fz ih
theorem RepO.at {vs:List Value} {ps:List P} {gs:List Nat} (r:RepO β S A vs ps gs):∀ {k:Nat} {p:P},ps[k]? = some p ->
  ∃ v g gs',vs[k]? = some v/\RepT β S A v p g/\RepO β S A vs (ps.set k (PV.fz p)) gs'/\gs.Perm (g++gs'):=by
 induction r with
 | nil=>intro k p h;simp at h
 | cons v q g vs ps gs h1 hr ih =>
  intro k p hp
  cases k with
  | zero =>
   simp only [List.getElem?_cons_zero,Option.some.injEq] at hp
   subst hp
   exact ⟨v,g,gs,by simp,h1,.cons v _ [] vs ps gs h1.fz.toT hr,.refl _⟩
  | succ k =>
   simp only [List.getElem?_cons_succ] at hp
   obtain ⟨w,g1,gs1,e1,e2,e3,e4⟩:=ih hp
   refine ⟨w,g1,g++gs1,by simpa using e1,e2,.cons v q g vs _ gs1 h1 e3,?_⟩
   refine (e4.append_left g).trans ?_
   rw [<- List.append_assoc,<- List.append_assoc]
   exact List.perm_append_comm.append_right gs1
theorem RepO.setAt {vs:List Value} {ps:List P} {gs:List Nat} (r:RepO β S A vs ps gs):∀ {k:Nat} {v:Value} {p:P} {g:List Nat},k < vs.length->RepT β S A v p g ->
  ∃ g0 gs',RepO β S A (vs.set k v) (ps.set k p) (gs')/\(g++gs).Perm (g0++gs'):=by
 induction r with
 | nil=>intro k v p g h;simp at h
 | cons w q g1 vs ps gs h1 hr ih =>
  intro k v p g hk hv
  cases k with
  | zero =>
   refine ⟨g1,g++gs,.cons v p g vs ps gs hv hr,?_⟩
   rw [<- List.append_assoc,<- List.append_assoc]
   exact List.perm_append_comm.append_right gs
  | succ k =>
   obtain ⟨g0,gs',e1,e2⟩:=ih (by simpa using hk) hv
   refine ⟨g0,g1++gs',.cons w q g1 _ _ _ h1 e1,?_⟩
   calc (g++(g1++gs)).Perm (g1++(g++gs)):=by
         rw [<- List.append_assoc,<- List.append_assoc];exact List.perm_append_comm.append_right gs
     _ |>.Perm (g1++(g0++gs')):=e2.append_left g1
     _ |>.Perm (g0++(g1++gs')):=by
         rw [<- List.append_assoc,<- List.append_assoc];exact List.perm_append_comm.append_right gs'
theorem RepO.look {σ:Sg} {ps:List P} {gs:List Nat} (r:RepO β S A σ ps gs) (k:Nat):Rep β S A.h (SX.look σ k) (PV.fz (ps.getD k (.c undef))):=by
 induction r generalizing k with
 | nil=>exact .c _
 | cons v p g vs ps gs h1 _ ih =>
  cases k with
  | zero=>exact h1.fz
  | succ k=>simpa [SX.look] using ih k
theorem vz:∀ (σ:Sg) (k:Nat),SX.look σ k=σ.getD k undef
 | [],_=>by simp [SX.look]
 | v::_,0=>by simp [SX.look]
 | _::l,k+1=>by simpa [SX.look] using vz l k
theorem l6 {σ:Sg} {ps:List P} {gs:List Nat} (r:RepO β S A σ ps gs) (a:At):Rep β S A.h (a.den σ) (fz (bG ps a)):=by
 cases a with
 | v x=>exact .c x
 | n k=>exact r.look k
theorem l7 {α:Type} (f:α->Value) (g:α->P):∀ (l:List α),(∀ x,x∈l->Rep β S A.h (f x) (g x))->RepL β S A.h (l.map f) (l.map g)
 | [],_=>.nil
 | x::l,h=>.cons _ _ _ _ (h x (by simp)) (l7 f g l fun y hy=>h y (by simp [hy]))
theorem wA {σ:Sg} {ps:List P} {gs:List Nat} (r:RepO β S A σ ps gs) {x:X} {p:P} (hd:bT ps x=some p):Rep β S A.h (x.den σ) (fz p):=by
 cases x with
 | «at» a=>cases hd;exact l6 r a
 | ifc t a=>cases hd;exact .ifc t _ _ (l6 r a)
 | fn f cs=>cases hd;exact .fn f _ _ (l7 _ _ cs fun x _=>l6 r x)
 | sl a len =>
  simp only [bT] at hd
  split at hd
  ·rename_i l hl
   by_cases hlen:l.length=len * (if len=0 then 1 else l.length / len)
   ·rw [if_pos hlen,Option.some.injEq] at hd
    subst hd
    have:=l6 r a
    rw [hl] at this
    have e:a.den σ=a.den σ:=rfl
    simp only [X.den]
    generalize a.den σ=v at this
    cases this with
    | lit a vs ps h1 h2 h3=>exact .fx a _ len vs _ h1 h2 (by rw [h3.length];exact hlen) h3
   ·rw [if_neg hlen] at hd;cases hd
  ·cases hd
theorem bU {σ:Sg} {ps:List P} {gs:List Nat} (r:RepO β S A σ ps gs):∀ {xs:List X} {as:List P},denF ps xs=some as->RepL β S A.h (denL σ xs) as
 | [],_,h=>by cases h;exact .nil
 | x::xs,as,h=>by
  simp only [denF] at h
  split at h
  ·rename_i p l hp hl
   cases h
   exact .cons _ _ _ _ (wA r hp) (bU r hl)
  ·cases h
theorem Tn {σ:Sg} {ps:List P} {gs:List Nat} (r:RepO β S A σ ps gs) {x:X} {p:P} {ps':List P} (h:iJ ps x=some (p,ps')) :
  ∃ g gs',RepT β S A (x.den σ) p g/\RepO β S A σ ps' gs'/\gs.Perm (g++gs'):=by
 have gen:∀ q,bT ps x=some q->p=fz q->ps'=ps->∃ g gs',RepT β S A (x.den σ) p g/\RepO β S A σ ps' gs'/\gs.Perm (g++gs'):=by
  intro q hq h1 h2
  subst h1;subst h2
  exact ⟨[],gs,(wA r hq).toT,r,.refl _⟩
 unfold iJ at h
 split at h
 ·rename_i k
  cases h
  rcases Nat.lt_or_ge k ps.length with hk | hk
  ·obtain ⟨v,g,gs',e1,e2,e3,e4⟩:=r.at (List.getElem?_eq_getElem hk)
   have e5:ps.getD k (.c undef)=ps[k]:=by simp [List.getD_eq_getElem?_getD,List.getElem?_eq_getElem hk]
   rw [e5]
   refine ⟨g,gs',?_,e3,e4⟩
   simp only [X.den,At.den,vz,List.getD_eq_getElem?_getD,e1,Option.getD_some]
   exact e2
  ·have e5:ps.getD k (.c undef)=.c undef:=by simp [List.getD_eq_getElem?_getD,List.getElem?_eq_none hk]
   rw [e5,List.set_eq_of_length_le hk]
   refine ⟨[],gs,?_,r,.refl _⟩
   have:=r.look k
   rw [e5] at this
   exact this.toT
 ·split at h
  ·rename_i q hq
   cases h
   exact gen q hq rfl rfl
  ·cases h
theorem iO {σ:Sg}:∀ {xs:List X} {ps:List P} {gs:List Nat} {as ps':List P},RepO β S A σ ps gs->takeL ps xs=some (as,ps') ->
  ∃ g gs',RepO β S A (denL σ xs) as g/\RepO β S A σ ps' gs'/\gs.Perm (g++gs')
 | [],ps,gs,as,ps',r,h=>by cases h;exact ⟨[],gs,.nil,r,.refl _⟩
 | x::xs,ps,gs,as,ps',r,h=>by
  simp only [takeL] at h
  split at h
  ·rename_i p ps1 hx
   split at h
   ·rename_i l ps2 hl
    cases h
    obtain ⟨g1,gs1,e1,e2,e3⟩:=Tn r hx
    obtain ⟨g2,gs2,e4,e5,e6⟩:=iO e2 hl
    refine ⟨g1++g2,gs2,.cons _ _ _ _ _ _ e1 e4,e5,?_⟩
    rw [List.append_assoc]
    exact e3.trans (e6.append_left g1)
   ·cases h
  ·cases h
theorem Cel.mono {b:Nat} {vs:List Value} {r:Row} (c:Cel A b vs r) (hh:B.h.get b=A.h.get b) (hg:B.g.get r.grp=A.g.get r.grp) (hn:A.next<=B.next):Cel B b vs r :=
 ⟨hh.trans c.at_,c.own,c.opn,c.size,c.frz,c.ones,c.cells,hg.trans c.gnone,Nat.lt_of_lt_of_le c.glt hn⟩
theorem MemR.mono (hS:∀ b,S b->S' b) (hh:∀ b,S b->B.h.get b=A.h.get b) (hβ:∀ (i b:Nat),β[i]? = some b->β'[i]? = some b) (hn:A.next<=B.next) {bs:List Nat} {μ:Mu} {gm:List Nat}
  (r:MemR β S A bs μ gm) (hb:∀ b,b∈bs->B.h.get b=A.h.get b) (hg:∀ k,k∈gm->B.g.get k=A.g.get k):MemR β' S' B bs μ gm:=by
 induction r with
 | nil=>exact .nil
 | cons b r vs l g bs ls gs h1 h2 _ ih =>
  exact .cons b r vs l g bs ls gs (h1.mono (hb b (by simp)) (hg _ (by simp)) hn) (h2.mono hS hh hβ hn fun k hk=>hg k (by simp [hk])) (ih (fun c hc=>hb c (by simp [hc])) fun k hk=>hg k (by simp [hk]))
 | sit b s pos bs ls gs h1 _ ih=>exact .sit b s pos bs ls gs ((hb b (by simp)).trans h1) (ih (fun c hc=>hb c (by simp [hc])) hg)
theorem MemR.length {bs:List Nat} {μ:Mu} {gm:List Nat} (r:MemR β S A bs μ gm):bs.length=μ.length:=by
 induction r with
 | nil=>rfl
 | cons b r vs l g bs ls gs h1 h2 _ ih=>simp [ih]
 | sit b s pos bs ls gs h1 _ ih=>simp [ih]
theorem MemR.glt {bs:List Nat} {μ:Mu} {gm:List Nat} (r:MemR β S A bs μ gm):∀ k,k∈gm->k < A.next:=by
 induction r with
 | nil=>intro k hk;cases hk
 | cons b r vs l g bs ls gs h1 h2 _ ih =>
  intro k hk
  rw [List.mem_append,List.mem_cons] at hk
  rcases hk with (rfl | hk) | hk
  ·exact h1.glt
  ·exact h2.glt k hk
  ·exact ih k hk
 | sit b s pos bs ls gs h1 _ ih=>exact ih
theorem MemR.trunc {k:Nat} {bs:List Nat} {μ:Mu} {gm:List Nat} (r:MemR β S A bs μ gm) (hk:okM k μ=true):MemR (β.take k) S A bs μ gm:=by
 induction r with
 | nil=>exact .nil
 | cons b r vs l g bs ls gs h1 h2 _ ih =>
  simp only [okM,List.all_cons,Bool.and_eq_true] at hk
  exact .cons b r vs l g bs ls gs h1 (h2.trunc hk.1) (ih hk.2)
 | sit b s pos bs ls gs h1 _ ih =>
  simp only [okM,List.all_cons,Bool.and_eq_true] at hk
  exact .sit b s pos bs ls gs h1 (ih hk.2)
theorem MemR.take {bs:List Nat} {μ:Mu} {gm:List Nat} (r:MemR β S A bs μ gm):∀ k,∃ g1 g2,MemR β S A (bs.take k) (μ.take k) g1/\gm=g1++g2:=by
 induction r with
 | nil=>intro k;exact ⟨[],[],by simpa using .nil,rfl⟩
 | cons b r vs l g bs ls gs h1 h2 _ ih =>
  intro k
  cases k with
  | zero=>exact ⟨[],_,.nil,rfl⟩
  | succ k =>
   obtain ⟨g1,g2,e1,e2⟩:=ih k
   exact ⟨(r.grp::g)++g1,g2,.cons b r vs l g _ _ g1 h1 h2 e1,by rw [e2,List.append_assoc]⟩
 | sit b s pos bs ls gs h1 _ ih =>
  intro k
  cases k with
  | zero=>exact ⟨[],_,.nil,rfl⟩
  | succ k =>
   obtain ⟨g1,g2,e1,e2⟩:=ih k
   exact ⟨g1,g2,.sit b s pos _ _ g1 h1 e1,e2⟩
theorem MemR.snoc {bs:List Nat} {μ:Mu} {gm:List Nat} (r:MemR β S A bs μ gm) {b:Nat} {w:Row} {vs:List Value} {l:List P} {g:List Nat} (h1:Cel A b vs w) (h2:RepO β S A vs l g) :
  MemR β S A (bs++[b]) (μ++[.cells l]) (gm++(w.grp::g)):=by
 induction r with
 | nil=>simpa using MemR.cons b w vs l g [] [] [] h1 h2 .nil
 | cons b r vs l g bs ls gs k1 k2 _ ih=>rw [List.append_assoc];exact .cons b r vs l g _ _ _ k1 k2 ih
 | sit b s pos bs ls gs k1 _ ih=>exact .sit b s pos _ _ _ k1 ih
theorem MemR.snocIt {bs:List Nat} {μ:Mu} {gm:List Nat} (r:MemR β S A bs μ gm) {b pos:Nat} {s:ByteArray} (h1:A.h.get b=some (.siter s pos)):MemR β S A (bs++[b]) (μ++[.sit s pos]) gm:=by
 induction r with
 | nil=>exact .sit b s pos [] [] [] h1 .nil
 | cons b r vs l g bs ls gs k1 k2 _ ih=>exact .cons b r vs l g _ _ _ k1 k2 ih
 | sit b s pos bs ls gs k1 _ ih=>exact .sit b s pos _ _ _ k1 ih
theorem MemR.atIt {bs:List Nat} {μ:Mu} {gm:List Nat} (r:MemR β S A bs μ gm):∀ {i b pos:Nat} {s:ByteArray},bs[i]? = some b->μ[i]? = some (.sit s pos)->A.h.get b=some (.siter s pos):=by
 induction r with
 | nil=>intro i b pos s h;simp at h
 | cons b0 r vs l0 g bs ls gs h1 h2 _ ih =>
  intro i b pos s hb hl
  cases i with
  | zero=>simp at hl
  | succ i=>simp only [List.getElem?_cons_succ] at hb hl;exact ih hb hl
 | sit b0 s0 pos0 bs ls gs h1 _ ih =>
  intro i b pos s hb hl
  cases i with
  | zero =>
   simp only [List.getElem?_cons_zero,Option.some.injEq,Ob.sit.injEq] at hb hl
   subst hb;obtain ⟨rfl,rfl⟩:=hl;exact h1
  | succ i=>simp only [List.getElem?_cons_succ] at hb hl;exact ih hb hl
theorem MemR.setIt {B:St} (hS:∀ b,S b->B.h.get b=A.h.get b) (hg:∀ k,B.g.get k=A.g.get k) (hn:A.next<=B.next) {bs:List Nat} {μ:Mu} {gm:List Nat} (r:MemR β S A bs μ gm):∀ {i b pos pos':Nat} {s:ByteArray},bs.Nodup->(∀ c,c∈bs->c≠b->B.h.get c=A.h.get c) ->
  bs[i]? = some b->μ[i]? = some (.sit s pos)->B.h.get b=some (.siter s pos')->MemR β S B bs (μ.set i (.sit s pos')) gm:=by
 induction r with
 | nil=>intro i b pos pos' s _ _ h;simp at h
 | cons b0 w vs l0 g bs ls gs h1 h2 hr ih =>
  intro i b pos pos' s hnd hh hb hl hB
  rw [List.nodup_cons] at hnd
  cases i with
  | zero=>simp at hl
  | succ i =>
   simp only [List.getElem?_cons_succ] at hb hl
   have hne:b0≠b:=fun e=>hnd.1 (e ▸ (List.mem_of_getElem? hb))
   exact .cons b0 w vs l0 g bs _ gs (h1.mono (hh b0 (by simp) hne) (hg _) hn) (h2.mono (fun _ h=>h) hS (fun _ _ h=>h) hn fun k _=>hg k) (ih hnd.2 (fun c hc hne=>hh c (by simp [hc]) hne) hb hl hB)
 | sit b0 s0 pos0 bs ls gs h1 hr ih =>
  intro i b pos pos' s hnd hh hb hl hB
  rw [List.nodup_cons] at hnd
  cases i with
  | zero =>
   simp only [List.getElem?_cons_zero,Option.some.injEq,Ob.sit.injEq] at hb hl
   subst hb
   exact .sit b0 s pos' bs ls gs hB (hr.mono (fun _ h=>h) hS (fun _ _ h=>h) hn (fun c hc=>hh c (by simp [hc]) fun e=>hnd.1 (e ▸ hc)) fun k _=>hg k)
  | succ i =>
   simp only [List.getElem?_cons_succ] at hb hl
   have hne:b0≠b:=fun e=>hnd.1 (e ▸ (List.mem_of_getElem? hb))
   exact .sit b0 s0 pos0 bs _ gs ((hh b0 (by simp) hne).trans h1) (ih hnd.2 (fun c hc hne=>hh c (by simp [hc]) hne) hb hl hB)
theorem MemR.at {bs:List Nat} {μ:Mu} {gm:List Nat} (r:MemR β S A bs μ gm):∀ {i b:Nat} {l:List P},bs[i]? = some b->μ[i]? = some (.cells l) ->
  ∃ w vs g,Cel A b vs w/\RepO β S A vs l g/\(∀ k,k∈w.grp::g->k∈gm):=by
 induction r with
 | nil=>intro i b l h;simp at h
 | cons b0 r vs l0 g bs ls gs h1 h2 _ ih =>
  intro i b l hb hl
  cases i with
  | zero =>
   simp only [List.getElem?_cons_zero,Option.some.injEq,Ob.cells.injEq] at hb hl
   subst hb;subst hl
   exact ⟨r,vs,g,h1,h2,fun k hk=>by simp only [List.mem_append];exact .inl hk⟩
  | succ i =>
   simp only [List.getElem?_cons_succ] at hb hl
   obtain ⟨w,ws,g1,e1,e2,e3⟩:=ih hb hl
   exact ⟨w,ws,g1,e1,e2,fun k hk=>by simp only [List.mem_append];exact .inr (e3 k hk)⟩
 | sit b0 s pos bs ls gs h1 _ ih =>
  intro i b l hb hl
  cases i with
  | zero=>simp at hl
  | succ i =>
   simp only [List.getElem?_cons_succ] at hb hl
   exact ih hb hl
theorem pO {vs:List Value}:∀ {ps qs:List P} {gs:List Nat},RepO β S A vs ps gs->LeL ps qs->∃ gs',RepO β S A vs qs gs'/\∃ d,gs.Perm (d++gs'):=by
 intro ps qs gs r
 induction r generalizing qs with
 | nil=>intro h;cases h;exact ⟨[],.nil,[],.refl _⟩
 | cons v p g vs ps gs h1 _ ih =>
  intro h
  cases h with
  | cons _ q _ qs hq hqs =>
  obtain ⟨gs',e1,d,e2⟩:=ih hqs
  have hc:∀ g',RepT β S A v q g'->(∃ d1,g.Perm (d1++g'))->∃ gs',RepO β S A (v::vs) (q::qs) gs'/\∃ d,(g++gs).Perm (d++gs'):=by
   intro g' h2 ⟨d1,h3⟩
   refine ⟨g'++gs',.cons _ _ _ _ _ _ h2 e1,d1++d,?_⟩
   refine (h3.append e2).trans ?_
   rw [List.append_assoc,List.append_assoc,<- List.append_assoc g',<- List.append_assoc d]
   exact (List.perm_append_comm.append_right gs').append_left d1
  cases hq with
  | refl=>exact hc g h1 ⟨[],.refl _⟩
  | nilow e sz =>
   obtain ⟨h1,rfl⟩:=h1
   cases h1
   exact hc [] (OwnR.nil e sz) ⟨[],.refl _⟩
  | fxow e sz n l =>
   obtain ⟨h1,rfl⟩:=h1
   cases h1 with
   | fx a _ _ ws _ k1 k2 k3 k4=>exact hc [] (OwnR.fx a e sz n ws l k1 k2 k3 k4) ⟨[],.refl _⟩
  | nilsl sz =>
   obtain ⟨h1,rfl⟩:=h1
   cases h1
   exact hc [] ⟨.nil sz,rfl⟩ ⟨[],.refl _⟩
  | fxsl sz n l =>
   obtain ⟨h1,rfl⟩:=h1
   cases h1 with
   | fx a _ _ ws _ k1 k2 k3 k4=>exact hc [] ⟨.sl a sz n n ws l k1 (k2.rdc sz) k3 (Nat.le_refl _) k4,rfl⟩ ⟨[],.refl _⟩
  | owsl e sz n l=>exact hc [] ⟨OwnR.rep h1,rfl⟩ ⟨g,by rw [List.append_nil]⟩
  | wk _ _ hw =>
   cases hw with
   | refl=>exact hc g h1 ⟨[],.refl _⟩
   | nil sz=>obtain ⟨h1,rfl⟩:=h1;exact hc [] ⟨h1.wk (.nil sz),rfl⟩ ⟨[],.refl _⟩
   | fx sz n l=>obtain ⟨h1,rfl⟩:=h1;exact hc [] ⟨h1.wk (.fx sz n l),rfl⟩ ⟨[],.refl _⟩
   | agg l m w=>obtain ⟨h1,rfl⟩:=h1;exact hc [] ⟨h1.wk (.agg l m w),rfl⟩ ⟨[],.refl _⟩
   | tup l m w=>obtain ⟨h1,rfl⟩:=h1;exact hc [] ⟨h1.wk (.tup l m w),rfl⟩ ⟨[],.refl _⟩
   | ifc t p q w=>obtain ⟨h1,rfl⟩:=h1;exact hc [] ⟨h1.wk (.ifc t p q w),rfl⟩ ⟨[],.refl _⟩
   | any v hv=>obtain ⟨h1,rfl⟩:=h1;exact hc [] ⟨h1.wk (.any v hv),rfl⟩ ⟨[],.refl _⟩
end
end Go.AM.PV
namespace Go.AM.PV
open Go Go.AM Go.AM.SX
section
variable {gl:List GRow} {β β':List Nat} {S S' F F':Nat->Prop} {A B:St} {σ σ':Sg} {ps ps':List P} {gs gs' gm gm':List Nat} {μ μ':Mu}
theorem RS.setAll (R:RS gl A β S F σ ps gs μ gm) (h:RepO β S A σ' ps' gs') (hm:MemR β S A β μ' gm') (hp:∃ d,(gs++gm).Perm (d++(gs'++gm'))):RS gl A β S F σ' ps' gs' μ' gm':=by
 obtain ⟨d,hp⟩:=hp
 refine { R with F_g:=fun b hb=>⟨(R.F_g b hb).1,fun hk=>(R.F_g b hb).2 ?_⟩,vars:=h,objs:=hm,nd:=?_ }
 ·exact hp.symm.subset (List.mem_append_right _ hk)
 ·exact (List.nodup_append.1 (hp.nodup_iff.1 R.nd)).2.1
theorem RS.setVars (R:RS gl A β S F σ ps gs μ gm) (h:RepO β S A σ' ps' gs') (hp:∃ d,gs.Perm (d++gs')):RS gl A β S F σ' ps' gs' μ gm:=by
 obtain ⟨d,hp⟩:=hp
 exact R.setAll h R.objs ⟨d,by rw [<- List.append_assoc];exact hp.append_right gm⟩
theorem RS.pure (R:RS gl A β S F σ ps gs μ gm) {v:Value} {p:P} (h:Rep β S A.h v p):RS gl A β S F (σ++[v]) (ps++[p]) gs μ gm :=
 R.setVars (by have:=R.vars.snoc h.toT;rwa [List.append_nil] at this) ⟨[],.refl _⟩
theorem RS.glt (R:RS gl A β S F σ ps gs μ gm):∀ k,k∈gs++gm->k < A.next:=by
 intro k hk
 rcases List.mem_append.1 hk with h | h
 ·exact R.vars.glt k h
 ·exact R.objs.glt k h
theorem RS.fresh (R:RS gl A β S F σ ps gs μ gm) {b:Nat} (hb:A.next<=b\/F b):b ∉ β/\¬ S b/\A.g.get b=none/\b ∉ gs++gm:=by
 rcases hb with h | h
 ·exact ⟨fun e=>absurd (R.β_lt b e) (by omega),fun e=>absurd (R.S_lt b e) (by omega),R.ginv b h,fun e=>absurd (R.glt b e) (by omega)⟩
 ·exact ⟨R.F_β b h,R.F_S b h,(R.F_g b h).1,(R.F_g b h).2⟩
theorem RS.lookups {A B:St} (h:∀ b,S b->B.h.get b=A.h.get b) {r:GRow} (hr:S r.g/\bX A r=true):bX B r=true:=by
 have:=hr.2
 unfold bX at this ⊢
 rw [h _ hr.1];exact this
theorem Ext.refl (m:Nat) (A:St) (β:List Nat) (S F:Nat->Prop) (gs gm:List Nat) {gs' gm':List Nat} (hg:∀ k,k∈gs'++gm'->k∈gs++gm):Ext m A β S F gs gm A β S gs' gm' :=
 ⟨⟨Nat.le_refl _,fun _ _ _=>rfl,fun _ _ _=>rfl⟩,fun _ _=>rfl,fun _ h=>.inl h,fun _ h=>h,fun _ h=>.inl h,fun k h=>.inl (hg k h)⟩
theorem Ext.trans {m m1:Nat} {A B C:St} {β β1 β2:List Nat} {S S1 S2 F F1:Nat->Prop} {gs gm gs1 gm1 gs2 gm2:List Nat} (h:Ext m A β S F gs gm B β1 S1 gs1 gm1) (k:Ext m1 B β1 S1 F1 gs1 gm1 C β2 S2 gs2 gm2)
  (hm:m<=m1) (hF:∀ b,F1 b->F b\/A.next<=b):Ext m A β S F gs gm C β2 S2 gs2 gm2:=by
 have hn:=h.keep.next
 refine ⟨⟨Nat.le_trans hn k.keep.next,fun b hb hM=>?_,fun g hg hG=>?_⟩,fun i hi=>(k.objs i (Nat.lt_of_lt_of_le hi hm)).trans (h.objs i hi),fun b hb=>?_,fun b hb=>k.oldS b (h.oldS b hb),fun b hb=>?_,fun g hg=>?_⟩
 ·refine (k.keep.heap b (Nat.lt_of_lt_of_le hb hn) fun e=>hM ?_).trans (h.keep.heap b hb hM)
  rcases e with e | e
  ·rcases h.newβ b e with e | e | e
   ·exact .inl e
   ·omega
   ·exact .inr e
  ·rcases hF b e with e | e
   ·exact .inr e
   ·omega
 ·refine (k.keep.grps g (Nat.lt_of_lt_of_le hg hn) fun e=>hG ?_).trans (h.keep.grps g hg hG)
  rcases e with e | e
  ·rcases h.newg g e with e | e | e
   ·exact .inl e
   ·omega
   ·exact .inr e
  ·rcases hF g e with e | e
   ·exact .inr e
   ·omega
 ·rcases k.newβ b hb with e | e | e
  ·exact h.newβ b e
  ·exact .inr (.inl (by omega))
  ·rcases hF b e with e | e
   ·exact .inr (.inr e)
   ·exact .inr (.inl e)
 ·rcases k.newS b hb with e | e | e
  ·exact h.newS b e
  ·exact .inr (.inl (by omega))
  ·rcases hF b e with e | e
   ·exact .inr (.inr e)
   ·exact .inr (.inl e)
 ·rcases k.newg g hg with e | e | e
  ·exact h.newg g e
  ·exact .inr (.inl (by omega))
  ·rcases hF g e with e | e
   ·exact .inr (.inr e)
   ·exact .inr (.inl e)
theorem RS.newObj (R:RS gl A β S F σ ps gs μ gm) {m b:Nat} {w:Row} {vs:List Value} {l:List P} {v:Value} {p:P} (hb:A.next<=b\/F b) (hBh:B.h=A.h.set b (.row w)) (hBg:B.g=A.g) (hn:A.next<=B.next) (hbn:b < B.next)
  (hw:w.own=true/\(w.opn=true->w.esz=1)/\w.size=vs.length/\w.frz=0/\w.grp=b/\∀ i,i < vs.length->w.cells.get i=vs[i]?) (ho:vs.all one=true) (hl:RepL β S A.h vs l) (hF:∀ c,F' c->F c/\c≠b)
  (hv:∀ h,Rep (β++[b]) S h v p) (hm:m<=β.length) :
  RS gl B (β++[b]) S F' (σ++[v]) (ps++[p]) gs (μ++[.cells l]) (gm++[b])/\Ext m A β S F gs gm B (β++[b]) S gs (gm++[b]):=by
 obtain ⟨f1,f2,f3,f4⟩:=R.fresh hb
 have hh:∀ c,c≠b->B.h.get c=A.h.get c:=fun c hc=>by rw [hBh,T.get_set_other _ _ hc]
 have hS:∀ c,S c->B.h.get c=A.h.get c:=fun c hc=>hh c fun e=>f2 (e ▸ hc)
 have hβ:∀ (i c:Nat),β[i]? = some c->(β++[b])[i]? = some c:=fun i c h=>by
  rw [List.getElem?_append_left (List.getElem?_eq_some_iff.1 h).1];exact h
 have hg:∀ k,B.g.get k=A.g.get k:=fun k=>by rw [hBg]
 have hcel:Cel B b vs w:=⟨by rw [hBh,T.get_set_same],hw.1,hw.2.1,hw.2.2.1,hw.2.2.2.1,ho,hw.2.2.2.2.2,by rw [hg,hw.2.2.2.2.1];exact f3,by rw [hw.2.2.2.2.1];exact hbn⟩
 have hob:MemR (β++[b]) S B (β++[b]) (μ++[.cells l]) (gm++[b]):=by
  have h1:=R.objs.mono (S':=S) (B:=B) (β':=β++[b]) (fun _ h=>h) hS hβ hn (fun c hc=>hh c fun e=>f1 (e ▸ hc)) fun k _=>hg k
  have:=h1.snoc hcel (RepO.of (hl.mono (fun _ h=>h) hS hβ))
  rwa [hw.2.2.2.2.1] at this
 constructor
 ·refine { S_lt:=fun c hc=>Nat.lt_of_lt_of_le (R.S_lt c hc) hn,β_lt:=?_,F_lt:=fun c hc=>Nat.lt_of_lt_of_le (R.F_lt c (hF c hc).1) hn,β_S:=?_,F_S:=fun c hc=>R.F_S c (hF c hc).1,F_β:=?_,F_g:=?_,β_nd:=?_,
           ginv:=fun k hk=>by rw [hg];exact R.ginv k (Nat.le_trans hn hk),glob:=fun r hr=>⟨(R.glob r hr).1,RS.lookups hS (R.glob r hr)⟩,vars:=?_,objs:=hob,nd:=?_ }
  ·intro c hc
   rcases List.mem_append.1 hc with h | h
   ·exact Nat.lt_of_lt_of_le (R.β_lt c h) hn
   ·simp only [List.mem_singleton] at h;exact h ▸ hbn
  ·intro c hc
   rcases List.mem_append.1 hc with h | h
   ·exact R.β_S c h
   ·simp only [List.mem_singleton] at h;exact h ▸ f2
  ·intro c hc hm
   rcases List.mem_append.1 hm with h | h
   ·exact R.F_β c (hF c hc).1 h
   ·simp only [List.mem_singleton] at h;exact (hF c hc).2 h
  ·intro c hc
   refine ⟨by rw [hg];exact (R.F_g c (hF c hc).1).1,fun hm=>?_⟩
   rw [<- List.append_assoc] at hm
   rcases List.mem_append.1 hm with h | h
   ·exact (R.F_g c (hF c hc).1).2 h
   ·simp only [List.mem_singleton] at h;exact (hF c hc).2 h
  ·rw [List.nodup_append]
   exact ⟨R.β_nd,by simp,fun x hx y hy e=>by simp only [List.mem_singleton] at hy;subst hy;subst e;exact f1 hx⟩
  ·have h1:=(R.vars.mono (S':=S) (B:=B) (β':=β++[b]) (fun _ h=>h) hS hβ hn fun k _=>hg k).snoc ((hv B.h).toT)
   rwa [List.append_nil] at h1
  ·rw [<- List.append_assoc,List.nodup_append]
   exact ⟨R.nd,by simp,fun x hx y hy e=>by simp only [List.mem_singleton] at hy;subst hy;subst e;exact f4 hx⟩
 ·refine ⟨⟨hn,fun c hc hM=>hh c fun e=>?_,fun k _ _=>hg k⟩,fun i hi=>?_,fun c hc=>?_,fun _ h=>h,fun _ h=>.inl h,fun k hk=>?_⟩
  ·subst e
   rcases hb with h | h
   ·omega
   ·exact hM (.inr h)
  ·rw [List.getElem?_append_left (by omega)]
  ·rcases List.mem_append.1 hc with h | h
   ·exact .inl h
   ·simp only [List.mem_singleton] at h;subst h
    rcases hb with h | h
    ·exact .inr (.inl h)
    ·exact .inr (.inr h)
  ·rw [<- List.append_assoc] at hk
   rcases List.mem_append.1 hk with h | h
   ·exact .inl h
   ·simp only [List.mem_singleton] at h;subst h
    rcases hb with h | h
    ·exact .inr (.inl h)
    ·exact .inr (.inr h)
theorem RS.newIt (R:RS gl A β S F σ ps gs μ gm) {m b pos:Nat} {s:ByteArray} {v:Value} {p:P} (hb:A.next<=b\/F b) (hBh:B.h=A.h.set b (.siter s pos)) (hBg:B.g=A.g) (hn:A.next<=B.next) (hbn:b < B.next)
  (hF:∀ c,F' c->F c/\c≠b) (hv:∀ h,Rep (β++[b]) S h v p) (hm:m<=β.length) :
  RS gl B (β++[b]) S F' (σ++[v]) (ps++[p]) gs (μ++[.sit s pos]) gm/\Ext m A β S F gs gm B (β++[b]) S gs gm:=by
 obtain ⟨f1,f2,f3,f4⟩:=R.fresh hb
 have hh:∀ c,c≠b->B.h.get c=A.h.get c:=fun c hc=>by rw [hBh,T.get_set_other _ _ hc]
 have hS:∀ c,S c->B.h.get c=A.h.get c:=fun c hc=>hh c fun e=>f2 (e ▸ hc)
 have hβ:∀ (i c:Nat),β[i]? = some c->(β++[b])[i]? = some c:=fun i c h=>by
  rw [List.getElem?_append_left (List.getElem?_eq_some_iff.1 h).1];exact h
 have hg:∀ k,B.g.get k=A.g.get k:=fun k=>by rw [hBg]
 have hob:MemR (β++[b]) S B (β++[b]) (μ++[.sit s pos]) gm :=
  (R.objs.mono (S':=S) (B:=B) (β':=β++[b]) (fun _ h=>h) hS hβ hn (fun c hc=>hh c fun e=>f1 (e ▸ hc)) fun k _=>hg k).snocIt (by rw [hBh,T.get_set_same])
 constructor
 ·refine ⟨fun c hc=>Nat.lt_of_lt_of_le (R.S_lt c hc) hn,?_,fun c hc=>Nat.lt_of_lt_of_le (R.F_lt c (hF c hc).1) hn,?_,fun c hc=>R.F_S c (hF c hc).1,?_,fun c hc=>⟨by rw [hg];exact (R.F_g c (hF c hc).1).1,(R.F_g c (hF c hc).1).2⟩,?_,
           fun k hk=>by rw [hg];exact R.ginv k (Nat.le_trans hn hk),fun r hr=>⟨(R.glob r hr).1,RS.lookups hS (R.glob r hr)⟩,?_,hob,R.nd⟩
  ·intro c hc
   rcases List.mem_append.1 hc with h | h
   ·exact Nat.lt_of_lt_of_le (R.β_lt c h) hn
   ·simp only [List.mem_singleton] at h;exact h ▸ hbn
  ·intro c hc
   rcases List.mem_append.1 hc with h | h
   ·exact R.β_S c h
   ·simp only [List.mem_singleton] at h;exact h ▸ f2
  ·intro c hc hm
   rcases List.mem_append.1 hm with h | h
   ·exact R.F_β c (hF c hc).1 h
   ·simp only [List.mem_singleton] at h;exact (hF c hc).2 h
  ·rw [List.nodup_append]
   exact ⟨R.β_nd,by simp,fun x hx y hy e=>by simp only [List.mem_singleton] at hy;subst hy;subst e;exact f1 hx⟩
  ·have h1:=(R.vars.mono (S':=S) (B:=B) (β':=β++[b]) (fun _ h=>h) hS hβ hn fun k _=>hg k).snoc ((hv B.h).toT)
   rwa [List.append_nil] at h1
 ·refine ⟨⟨hn,fun c hc hM=>hh c fun e=>?_,fun k _ _=>hg k⟩,fun i hi=>?_,fun c hc=>?_,fun _ h=>h,fun _ h=>.inl h,fun k hk=>.inl hk⟩
  ·subst e
   rcases hb with h | h
   ·omega
   ·exact hM (.inr h)
  ·rw [List.getElem?_append_left (by omega)]
  ·rcases List.mem_append.1 hc with h | h
   ·exact .inl h
   ·simp only [List.mem_singleton] at h;subst h
    rcases hb with h | h
    ·exact .inr (.inl h)
    ·exact .inr (.inr h)
theorem RS.stepIt (R:RS gl A β S F σ ps gs μ gm) {m i b pos pos':Nat} {s:ByteArray} {v:Value} {p:P} (hb:β[i]? = some b) (hl:μ[i]? = some (.sit s pos)) (hBh:B.h=A.h.set b (.siter s pos')) (hBg:B.g=A.g) (hn:B.next=A.next) (hv:∀ h,Rep β S h v p) :
  RS gl B β S F (σ++[v]) (ps++[p]) gs (μ.set i (.sit s pos')) gm/\Ext m A β S F gs gm B β S gs gm:=by
 have hbm:b∈β:=List.mem_of_getElem? hb
 have hh:∀ c,c≠b->B.h.get c=A.h.get c:=fun c hc=>by rw [hBh,T.get_set_other _ _ hc]
 have hS:∀ c,S c->B.h.get c=A.h.get c:=fun c hc=>hh c fun e=>R.β_S b hbm (e ▸ hc)
 have hg:∀ k,B.g.get k=A.g.get k:=fun k=>by rw [hBg]
 have hob:=R.objs.setIt (B:=B) hS hg (by omega) (i:=i) R.β_nd (fun c _ hne=>hh c hne) hb hl (by rw [hBh,T.get_set_same])
 constructor
 ·refine ⟨fun c hc=>by rw [hn];exact R.S_lt c hc,fun c hc=>by rw [hn];exact R.β_lt c hc,fun c hc=>by rw [hn];exact R.F_lt c hc,R.β_S,R.F_S,R.F_β,fun c hc=>⟨by rw [hg];exact (R.F_g c hc).1,(R.F_g c hc).2⟩,R.β_nd,
           fun k hk=>by rw [hg];exact R.ginv k (by omega),fun r hr=>⟨(R.glob r hr).1,RS.lookups hS (R.glob r hr)⟩,?_,hob,R.nd⟩
  have h1:=(R.vars.mono (S':=S) (B:=B) (β':=β) (fun _ h=>h) hS (fun _ _ h=>h) (by omega) fun k _=>hg k).snoc ((hv B.h).toT)
  rwa [List.append_nil] at h1
 ·exact ⟨⟨by omega,fun c _ hM=>hh c fun e=>hM (.inl (e ▸ hbm)),fun k _ _=>hg k⟩,fun i _=>rfl,fun c hc=>.inl hc,fun _ h=>h,fun _ h=>.inl h,fun k hk=>.inl hk⟩
def orB (S:Nat->Prop) (b:Nat):Nat->Prop:=fun c=>S c\/c=b
theorem RS.newRow (R:RS gl A β S F σ ps gs μ gm) {m b:Nat} {o:AObj} {v:Value} {p:P} (hb:A.next<=b\/F b) (hBh:B.h=A.h.set b o) (hBg:B.g=A.g) (hn:A.next<=B.next) (hbn:b < B.next)
  (hF:∀ c,F' c->F c/\c≠b) (hv:Rep β (orB S b) B.h v p) :
  RS gl B β (orB S b) F' (σ++[v]) (ps++[p]) gs μ gm/\Ext m A β S F gs gm B β (orB S b) gs gm:=by
 obtain ⟨f1,f2,f3,f4⟩:=R.fresh hb
 have hh:∀ c,c≠b->B.h.get c=A.h.get c:=fun c hc=>by rw [hBh,T.get_set_other _ _ hc]
 have hS:∀ c,S c->B.h.get c=A.h.get c:=fun c hc=>hh c fun e=>f2 (e ▸ hc)
 have hg:∀ k,B.g.get k=A.g.get k:=fun k=>by rw [hBg]
 have hle:∀ c,S c->orB S b c:=fun c h=>.inl h
 constructor
 ·refine { S_lt:=?_,β_lt:=fun c hc=>Nat.lt_of_lt_of_le (R.β_lt c hc) hn,F_lt:=fun c hc=>Nat.lt_of_lt_of_le (R.F_lt c (hF c hc).1) hn,β_S:=?_,F_S:=?_,F_β:=fun c hc=>R.F_β c (hF c hc).1,F_g:=fun c hc=>⟨by rw [hg];exact (R.F_g c (hF c hc).1).1,(R.F_g c (hF c hc).1).2⟩,β_nd:=R.β_nd,
           ginv:=fun k hk=>by rw [hg];exact R.ginv k (Nat.le_trans hn hk),glob:=fun r hr=>⟨.inl (R.glob r hr).1,RS.lookups hS (R.glob r hr)⟩,vars:=?_,objs:=R.objs.mono hle hS (fun _ _ h=>h) hn (fun c hc=>hh c fun e=>f1 (e ▸ hc)) fun k _=>hg k,nd:=R.nd }
  ·intro c hc
   rcases hc with h | h
   ·exact Nat.lt_of_lt_of_le (R.S_lt c h) hn
   ·exact h ▸ hbn
  ·intro c hc hs
   rcases hs with h | h
   ·exact R.β_S c hc h
   ·exact f1 (h ▸ hc)
  ·intro c hc hs
   rcases hs with h | h
   ·exact R.F_S c (hF c hc).1 h
   ·exact (hF c hc).2 h
  ·have h1:=(R.vars.mono (S':=orB S b) (B:=B) (β':=β) hle hS (fun _ _ h=>h) hn fun k _=>hg k).snoc hv.toT
   rwa [List.append_nil] at h1
 ·refine ⟨⟨hn,fun c hc hM=>hh c fun e=>?_,fun k _ _=>hg k⟩,fun i _=>rfl,fun c hc=>.inl hc,hle,fun c hc=>?_,fun k hk=>.inl hk⟩
  ·subst e
   rcases hb with h | h
   ·omega
   ·exact hM (.inr h)
  ·rcases hc with h | h
   ·exact .inl h
   ·subst h
    rcases hb with h | h
    ·exact .inr (.inl h)
    ·exact .inr (.inr h)
end
end Go.AM.PV
namespace Go.AM.PV
open Go Go.AM Go.AM.SX
section
variable {gl:List GRow} {β β':List Nat} {S S' F F':Nat->Prop} {A B:St} {σ σ':Sg} {ps ps':List P} {gs gs' gm gm':List Nat} {μ μ':Mu}
theorem RepT.cells {v:Value} {p:P} {g:List Nat} (r:RepT β S A v p g):RepO β S A v.cells.toList (aX p) g:=by
 have gen:Rep β S A.h v p->g=[]->RepO β S A v.cells.toList (aX p) g:=fun h e=>by subst e;exact .of (RepL.cells h)
 cases p with
 | ow e sz n l =>
  have:v.cells.toList=[v]:=by
   have r':OwnR β S A v e sz n l g:=r
   cases r' <;> rfl
  rw [this]
  exact .one (p:=.ow e sz n l) r
 | _=>exact gen r.1 r.2
theorem RepO.setFrom:∀ {cs:List Value} {qs:List P} {vs:List Value} {l:List P} {off:Nat} {g g0:List Nat},RepO β S A cs qs g->RepO β S A vs l g0->off+cs.length<=vs.length ->
  ∃ d g',RepO β S A (setFrom vs off cs) (cZ l off qs) g'/\(g++g0).Perm (d++g'):=by
 intro cs qs vs l off g g0 h
 induction h generalizing vs l off g0 with
 | nil=>intro h0 _;exact ⟨[],g0,h0,.refl _⟩
 | cons v p g cs qs gs h1 _ ih =>
  intro h0 hl
  simp only [List.length_cons] at hl
  obtain ⟨d1,g1,e1,e2⟩:=h0.setAt (k:=off) (by omega) h1
  obtain ⟨d2,g2,e3,e4⟩:=ih e1 (off:=off+1) (by rw [List.length_set];omega)
  refine ⟨d1++d2,g2,e3,?_⟩
  calc ((g++gs)++g0).Perm (gs++(g++g0)):=by
        rw [<- List.append_assoc];exact List.perm_append_comm.append_right g0
    _ |>.Perm (gs++(d1++g1)):=e2.append_left gs
    _ |>.Perm (d1++(gs++g1)):=by
        rw [<- List.append_assoc,<- List.append_assoc];exact List.perm_append_comm.append_right g1
    _ |>.Perm (d1++(d2++g2)):=e4.append_left d1
    _ |>.Perm ((d1++d2)++g2):=by rw [List.append_assoc]
theorem jd:∀ (cs vs:List Value) (off k:Nat),off+cs.length<=vs.length->(setFrom vs off cs)[k]? = if off<=k/\k < off+cs.length then cs[k - off]? else vs[k]?
 | [],vs,off,k,_=>by simp only [SX.setFrom,List.length_nil];rw [if_neg (by omega)]
 | c::cs,vs,off,k,h=>by
  simp only [List.length_cons] at h
  simp only [SX.setFrom]
  rw [jd cs _ (off+1) k (by rw [List.length_set];omega)]
  by_cases h1:off+1<=k/\k < off+1+cs.length
  ·rw [if_pos h1,if_pos (by simp only [List.length_cons];omega)]
   rw [show k - off=(k - (off+1))+1 by omega,List.getElem?_cons_succ]
  ·rw [if_neg h1,List.getElem?_set]
   by_cases h2:off=k
   ·subst h2
    rw [if_pos rfl,if_pos (by omega),if_pos (by simp only [List.length_cons];omega)]
    simp
   ·rw [if_neg h2,if_neg (by simp only [List.length_cons];omega)]
theorem fK:∀ (cs vs:List Value) (off:Nat),(setFrom vs off cs).length=vs.length
 | [],_,_=>rfl
 | c::cs,vs,off=>by simp only [SX.setFrom];rw [fK cs,List.length_set]
theorem pP:∀ (cs vs:List Value) (off:Nat),vs.all one=true->cs.all one=true->(setFrom vs off cs).all one=true
 | [],_,_,h,_=>h
 | c::cs,vs,off,h,hc=>by
  simp only [List.all_cons,Bool.and_eq_true] at hc
  simp only [SX.setFrom]
  refine pP cs _ _ ?_ hc.2
  rw [List.all_eq_true] at h ⊢
  intro x hx
  rcases List.mem_or_eq_of_mem_set hx with g | g
  ·exact h x g
  ·exact g ▸ hc.1
theorem MemR.set (hS:∀ b,S b->B.h.get b=A.h.get b) (hg:∀ k,B.g.get k=A.g.get k) (hn:A.next<=B.next) {bs:List Nat} (r:MemR β S A bs μ gm):∀ {i b:Nat} {l:List P},bs.Nodup->(∀ c,c∈bs->c≠b->B.h.get c=A.h.get c)->bs[i]? = some b->μ[i]? = some (.cells l) ->
  ∃ w vs g0,Cel A b vs w/\RepO β S A vs l g0/\∀ w' vs' l' g',Cel B b vs' w'->w'.grp=w.grp->RepO β S B vs' l' g'->∃ gm',MemR β S B bs (μ.set i (.cells l')) gm'/\(g0++gm').Perm (g'++gm):=by
 induction r with
 | nil=>intro i b l _ _ h;simp at h
 | cons b0 w vs l0 g bs ls gs h1 h2 hr ih =>
  intro i b l hnd hh hb hl
  rw [List.nodup_cons] at hnd
  cases i with
  | zero =>
   simp only [List.getElem?_cons_zero,Option.some.injEq,Ob.cells.injEq] at hb hl
   subst hb;subst hl
   refine ⟨w,vs,g,h1,h2,fun w' vs' l' g' k1 k2 k3=>⟨(w'.grp::g')++gs,.cons b0 w' vs' l' g' bs ls gs k1 k3 ?_,?_⟩⟩
   ·exact hr.mono (fun _ h=>h) hS (fun _ _ h=>h) hn (fun c hc=>hh c (by simp [hc]) fun e=>hnd.1 (e ▸ hc)) fun k _=>hg k
   ·rw [k2]
    calc (g++((w.grp::g')++gs)).Perm ((w.grp::g')++(g++gs)):=by
          rw [<- List.append_assoc,<- List.append_assoc];exact List.perm_append_comm.append_right gs
      _ |>.Perm (g'++((w.grp::g)++gs)):=by
          simp only [List.cons_append]
          exact List.perm_middle.symm
  | succ i =>
   simp only [List.getElem?_cons_succ] at hb hl
   obtain ⟨w1,vs1,g1,e1,e2,e3⟩:=ih (i:=i) hnd.2 (fun c hc hne=>hh c (by simp [hc]) hne) hb hl
   refine ⟨w1,vs1,g1,e1,e2,fun w' vs' l' g' k1 k2 k3=>?_⟩
   obtain ⟨gm',f1,f2⟩:=e3 w' vs' l' g' k1 k2 k3
   have hne:b0≠b:=fun e=>hnd.1 (e ▸ (List.mem_of_getElem? hb))
   refine ⟨(w.grp::g)++gm',.cons b0 w vs l0 g bs _ gm' (h1.mono (hh b0 (by simp) hne) (hg _) hn) (h2.mono (fun _ h=>h) hS (fun _ _ h=>h) hn fun k _=>hg k) f1,?_⟩
   calc (g1++((w.grp::g)++gm')).Perm ((w.grp::g)++(g1++gm')):=by
         rw [<- List.append_assoc,<- List.append_assoc];exact List.perm_append_comm.append_right gm'
     _ |>.Perm ((w.grp::g)++(g'++gs)):=f2.append_left _
     _ |>.Perm (g'++((w.grp::g)++gs)):=by
         rw [<- List.append_assoc,<- List.append_assoc];exact List.perm_append_comm.append_right gs
 | sit b0 s0 pos0 bs ls gs h1 hr ih =>
  intro i b l hnd hh hb hl
  rw [List.nodup_cons] at hnd
  cases i with
  | zero=>simp at hl
  | succ i =>
   simp only [List.getElem?_cons_succ] at hb hl
   obtain ⟨w1,vs1,g1,e1,e2,e3⟩:=ih (i:=i) hnd.2 (fun c hc hne=>hh c (by simp [hc]) hne) hb hl
   refine ⟨w1,vs1,g1,e1,e2,fun w' vs' l' g' k1 k2 k3=>?_⟩
   obtain ⟨gm',f1,f2⟩:=e3 w' vs' l' g' k1 k2 k3
   have hne:b0≠b:=fun e=>hnd.1 (e ▸ (List.mem_of_getElem? hb))
   exact ⟨gm',.sit b0 s0 pos0 bs _ gm' ((hh b0 (by simp) hne).trans h1) f1,f2⟩
theorem Tp {gs g gs' gm gm' g0 g' d:List Nat} (hp:gs.Perm (g++gs')) (h1:(g++g0).Perm (d++g')) (h2:(g0++gm').Perm (g'++gm)):(gs++gm).Perm (d++(gs'++gm')):=by
 have h3 : (d++gm').Perm (g++gm):=by
  have : (g0++(d++gm')).Perm (g0++(g++gm)):=by
   calc (g0++(d++gm')).Perm (d++(g0++gm')):=by
         rw [<- List.append_assoc,<- List.append_assoc];exact List.perm_append_comm.append_right gm'
     _ |>.Perm (d++(g'++gm)):=h2.append_left d
     _ |>.Perm ((g++g0)++gm):=by rw [<- List.append_assoc];exact h1.symm.append_right gm
     _ |>.Perm (g0++(g++gm)):=by rw [<- List.append_assoc];exact List.perm_append_comm.append_right gm
  exact (List.perm_append_left_iff g0).1 this
 calc (gs++gm).Perm ((g++gs')++gm):=hp.append_right gm
   _ |>.Perm (gs'++(g++gm)):=by rw [<- List.append_assoc];exact List.perm_append_comm.append_right gm
   _ |>.Perm (gs'++(d++gm')):=h3.symm.append_left gs'
   _ |>.Perm (d++(gs'++gm')):=by rw [<- List.append_assoc,<- List.append_assoc];exact List.perm_append_comm.append_right gm'
theorem Tq {v:Value} {p:P} {g:List Nat} (r:RepT β S A v p g) (h:bz p=true):one v=true:=by
 cases p with
 | ow e sz n l =>
  have r':OwnR β S A v e sz n l g:=r
  cases r' <;> rfl
 | _ =>
  have r':=r.1
  cases r' <;> first
   | rfl
   | assumption
   | (cases h;done)
theorem RepO.ones {vs:List Value} {l:List P} {g:List Nat} (r:RepO β S A vs l g) (h:l.all bz=true):vs.all Go.AM.one=true:=by
 induction r with
 | nil=>rfl
 | cons v p g vs ps gs h1 _ ih =>
  simp only [List.all_cons,Bool.and_eq_true] at h ⊢
  exact ⟨Tq h1 h.1,ih h.2⟩
theorem RS.store (R:RS gl A β S F σ ps gs μ gm) {m i b off n:Nat} {l:List P} {v:Value} {p:P} {g:List Nat} (hb:β[i]? = some b) (hl:μ[i]? = some (.cells l)) (hσ:RepO β S A σ ps' gs') (hv:RepT β S A v p g) (hp:gs.Perm (g++gs'))
  (hn:(aX p).length=n) (ho:(aX p).all bz=true) (hle:off+n<=l.length) :
  ∃ B gm',aB (.store n) [.pointer (some ⟨b,off,none⟩),v] A=some (undef,B)/\(∀ c,c≠b->B.h.get c=A.h.get c)/\B.next=A.next/\B.g=A.g/\RS gl B β S F (σ++[undef]) (ps'++[.c undef]) gs' (μ.set i (.cells (cZ l off (aX p)))) gm'/\Ext m A β S F gs gm B β S gs' gm':=by
 have hbm:b∈β:=List.mem_of_getElem? hb
 have hc:=hv.cells
 have hcl:=hc.length
 have hones:=hc.ones ho
 obtain ⟨w,vs,g0,hcel,hvs,_⟩:=R.objs.at hb hl
 have hvl:=hvs.length
 have hal:A.alone b w=A:=by
  unfold St.alone
  rw [hcel.gnone]
 let w':Row:={ w with cells:=w.cells.setL off v.cells.toList }
 let B:St:=A.setObj b (.row w')
 have hh:∀ c,c≠b->B.h.get c=A.h.get c:=fun c hc=>T.get_set_other _ _ hc
 have hS:∀ c,S c->B.h.get c=A.h.get c:=fun c hc=>hh c fun e=>R.β_S b hbm (e ▸ hc)
 have hsem:aB (.store n) [.pointer (some ⟨b,off,none⟩),v] A=some (undef,B):=by
  have e1:A.storeN ⟨b,off,none⟩ v.cells.toList=some B:=by
   unfold St.storeN St.row?
   simp only [hcel.at_]
   rw [if_pos]
   ·simp only [hal];rfl
   ·simp only [hcel.own,hcel.frz,Bool.and_eq_true,decide_eq_true_eq,hcel.size]
    exact ⟨⟨⟨trivial,by omega⟩,by omega⟩,hones⟩
  show (if v.cells.size==n then match A.storeN ⟨b,off,none⟩ v.cells.toList with
   | some A'=>some (undef,A')
   | none=>none
  else none)=_
  rw [if_pos (by simp only [beq_iff_eq];rw [<- Array.length_toList];omega),e1]
 obtain ⟨w2,vs2,g2,k1,k2,k3⟩:=R.objs.set (B:=B) hS (fun _=>rfl) (Nat.le_refl _) (i:=i) R.β_nd (fun c _ hne=>hh c hne) hb hl
 have ew:w2=w:=by have:=k1.at_.symm.trans hcel.at_;cases this;rfl
 subst ew
 have ev:vs2=vs:=by
  apply List.ext_getElem?
  intro j
  have hl2:vs2.length=vs.length:=k1.size.symm.trans hcel.size
  rcases Nat.lt_or_ge j vs.length with hj | hj
  ·rw [<- k1.cells j (by omega),hcel.cells j hj]
  ·rw [List.getElem?_eq_none hj,List.getElem?_eq_none (by omega)]
 subst ev
 obtain ⟨d,g',e3,e4⟩:=hc.setFrom k2 (off:=off) (by omega)
 have e3':=e3.mono (S':=S) (B:=B) (β':=β) (fun _ h=>h) hS (fun _ _ h=>h) (Nat.le_refl _) fun _ _=>rfl
 have hcel':Cel B b (setFrom vs2 off v.cells.toList) w':=by
  refine ⟨T.get_set_same _ _ _,hcel.own,hcel.opn,by rw [fK];exact hcel.size,hcel.frz,pP _ _ _ hcel.ones hones,fun j hj=>?_,hcel.gnone,hcel.glt⟩
  rw [fK] at hj
  rw [jd _ _ _ _ (by omega),T.get_setL]
  split
  ·rfl
  ·exact hcel.cells j hj
 obtain ⟨gm',f1,f2⟩:=k3 w' _ _ g' hcel' rfl e3'
 have hperm:=Tp hp e4 f2
 refine ⟨B,gm',hsem,hh,rfl,rfl,?_,?_⟩
 ·refine { S_lt:=R.S_lt,β_lt:=R.β_lt,F_lt:=R.F_lt,β_S:=R.β_S,F_S:=R.F_S,F_β:=R.F_β,F_g:=fun c hc=>⟨(R.F_g c hc).1,fun hk=>(R.F_g c hc).2 (hperm.symm.subset (List.mem_append_right _ hk))⟩,β_nd:=R.β_nd,ginv:=R.ginv,
           glob:=fun r hr=>⟨(R.glob r hr).1,RS.lookups hS (R.glob r hr)⟩,vars:=?_,objs:=f1,nd:=(List.nodup_append.1 (hperm.nodup_iff.1 R.nd)).2.1 }
  have h1:=(hσ.mono (S':=S) (B:=B) (β':=β) (fun _ h=>h) hS (fun _ _ h=>h) (Nat.le_refl _) fun _ _=>rfl).snoc (Rep.toT (A:=B) (.c undef))
  rwa [List.append_nil] at h1
 ·exact ⟨⟨Nat.le_refl _,fun c _ hM=>hh c fun e=>hM (.inl (e ▸ hbm)),fun _ _ _=>rfl⟩,fun _ _=>rfl,fun _ h=>.inl h,fun _ h=>h,fun _ h=>.inl h,fun k hk=>.inl (hperm.symm.subset (List.mem_append_right _ hk))⟩
theorem RS.moveOut (R:RS gl A β S F σ ps gs μ gm) {m i b off:Nat} {l:List P} {p:P} (hb:β[i]? = some b) (hl:μ[i]? = some (.cells l)) (hp:l[off]? = some p) :
  ∃ v gs' gm',aB (.load none) [.pointer (some ⟨b,off,none⟩)] A=some (v,A)/\RS gl A β S F (σ++[v]) (ps++[p]) gs' (μ.set i (.cells (l.set off (fz p)))) gm'/\Ext m A β S F gs gm A β S gs' gm':=by
 obtain ⟨w,vs,g0,k1,k2,k3⟩:=R.objs.set (B:=A) (fun _ _=>rfl) (fun _=>rfl) (Nat.le_refl _) (i:=i) R.β_nd (fun c _ _=>rfl) hb hl
 obtain ⟨v,g,g1,e1,e2,e3,e4⟩:=k2.at hp
 obtain ⟨gm',f1,f2⟩:=k3 w vs _ g1 k1 rfl e3
 have h3:(g++gm').Perm gm:=by
  have:(g1++(g++gm')).Perm (g1++gm):=by
   calc (g1++(g++gm')).Perm ((g++g1)++gm'):=by rw [<- List.append_assoc];exact List.perm_append_comm.append_right gm'
     _ |>.Perm (g0++gm'):=e4.symm.append_right gm'
     _ |>.Perm (g1++gm):=f2
  exact (List.perm_append_left_iff g1).1 this
 have hperm:(gs++gm).Perm ([]++((gs++g)++gm')):=by
  rw [List.nil_append,List.append_assoc]
  exact h3.symm.append_left gs
 refine ⟨v,gs++g,gm',?_,R.setAll (R.vars.snoc e2) f1 ⟨[],hperm⟩,Ext.refl m A β S F gs gm fun k hk=>hperm.symm.subset hk⟩
 have hlt:=(List.getElem?_eq_some_iff.1 e1).1
 refine l4 ?_
 unfold St.loadN St.row?
 simp only [k1.at_]
 rw [if_pos (by have:=k1.size;omega)]
 simp only [T.range]
 rw [k1.cells off hlt,e1]
theorem RS.loadL (R:RS gl A β S F σ ps gs μ gm) {i b off:Nat} {n:Option Nat} {p:P} (hb:β[i]? = some b) (hp:cA μ n i off=some p) :
  ∃ v,(∀ B:St,B.h.get b=A.h.get b->aB (.load n) [.pointer (some ⟨b,off,none⟩)] B=some (v,B))/\Rep β S A.h v (fz p):=by
 unfold cA at hp
 split at hp
 ·rename_i l hl
  obtain ⟨w,vs,g,hc,hv,_⟩:=R.objs.at hb hl
  have hvl:=hv.length
  cases n with
  | none =>
   obtain ⟨v,g1,g2,e1,e2,_⟩:=hv.at hp
   refine ⟨v,fun B hB=>l4 ?_,e2.fz⟩
   have hlt:=(List.getElem?_eq_some_iff.1 e1).1
   unfold St.loadN St.row?
   simp only [hB.trans hc.at_]
   rw [if_pos (by have:=hc.size;omega)]
   simp only [T.range]
   rw [hc.cells off hlt,e1]
  | some n =>
   simp only at hp
   split at hp
   ·rename_i hle
    cases hp
    refine ⟨.agg ((vs.drop off).take n).toArray,fun B hB=>pN ?_,?_⟩
    ·unfold St.loadN St.row?
     simp only [hB.trans hc.at_]
     rw [if_pos (by have:=hc.size;omega)]
     have:=gI (t:=w.cells) (l:=(vs.drop off).take n) (off:=off) (fun j hj=>by
      simp only [List.length_take,List.length_drop] at hj
      rw [hc.cells (off+j) (by omega),List.getElem?_take,if_pos (by omega),List.getElem?_drop])
     rw [show ((vs.drop off).take n).length=n by simp;omega] at this
     exact this
    ·refine .agg _ _ ?_
     rw [List.map_take,List.map_drop]
     exact (hv.fz.drop off).take n
   ·cases hp
 ·cases hp
end
end Go.AM.PV
namespace Go.AM.PV
open Go Go.AM Go.AM.SX
section
variable {gl:List GRow} {β β':List Nat} {S S' F F':Nat->Prop} {A B:St} {σ σ':Sg} {ps ps':List P} {gs gs' gm gm':List Nat} {μ μ':Mu}
theorem RS.newOwH (R:RS gl A β S F σ ps gs μ gm) {m k:Nat} {v:Value} {e:TypeId} {sz n:Nat} {l:List P} {d:List Nat} (hσ:RepO β S A σ ps' gs') (hp:gs.Perm (d++gs')) (hh:∀ c,c≠A.next->B.h.get c=A.h.get c) (hBn:B.next=A.next+1)
  (hg:∀ j,j≠k->B.g.get j=A.g.get j) (hk:(k∈d/\k < A.next)\/k=A.next) (hv:OwnR β (orB S A.next) B v e sz n l [k]) :
  RS gl B β (orB S A.next) F (σ++[v]) (ps'++[.ow e sz n l]) (gs'++[k]) μ gm/\Ext m A β S F gs gm B β (orB S A.next) (gs'++[k]) gm:=by
 obtain ⟨f1,f2,f3,f4⟩:=R.fresh (b:=A.next) (.inl (Nat.le_refl _))
 have hn:A.next<=B.next:=by omega
 have hS:∀ c,S c->B.h.get c=A.h.get c:=fun c hc=>hh c fun e=>f2 (e ▸ hc)
 have hle:∀ c,S c->orB S A.next c:=fun c h=>.inl h
 have hall:(gs++gm).Perm (d++(gs'++gm)):=by rw [<- List.append_assoc];exact hp.append_right gm
 have hnd:(d++(gs'++gm)).Nodup:=hall.nodup_iff.1 R.nd
 have hkn:k ∉ gs'++gm:=by
  rcases hk with ⟨h,_⟩ | h
  ·intro hm;exact (List.nodup_append.1 hnd).2.2 k h k hm rfl
  ·subst h;exact fun hm=>f4 (hall.symm.subset (List.mem_append_right _ hm))
 have hkF:¬ F k:=by
  intro hF
  rcases hk with ⟨h,_⟩ | h
  ·exact (R.F_g k hF).2 (hall.symm.subset (List.mem_append_left _ h))
  ·exact absurd (R.F_lt k hF) (by omega)
 have hg':∀ j,j∈gs'++gm->B.g.get j=A.g.get j:=fun j hj=>hg j fun e=>hkn (e ▸ hj)
 have hkB:k < B.next:=by rcases hk with ⟨_,h⟩ | h <;> omega
 constructor
 ·refine { S_lt:=?_,β_lt:=fun c hc=>Nat.lt_of_lt_of_le (R.β_lt c hc) hn,F_lt:=fun c hc=>Nat.lt_of_lt_of_le (R.F_lt c hc) hn,β_S:=?_,F_S:=?_,F_β:=R.F_β,F_g:=?_,β_nd:=R.β_nd,
           ginv:=fun j hj=>by rw [hg j (by omega)];exact R.ginv j (Nat.le_trans hn hj),glob:=fun r hr=>⟨.inl (R.glob r hr).1,RS.lookups hS (R.glob r hr)⟩,vars:=?_,objs:=R.objs.mono hle hS (fun _ _ h=>h) hn (fun c hc=>hh c fun e=>f1 (e ▸ hc)) fun j hj=>hg' j (List.mem_append_right _ hj),nd:=?_ }
  ·intro c hc
   rcases hc with h | h
   ·exact Nat.lt_of_lt_of_le (R.S_lt c h) hn
   ·omega
  ·intro c hc hs
   rcases hs with h | h
   ·exact R.β_S c hc h
   ·exact f1 (h ▸ hc)
  ·intro c hc hs
   rcases hs with h | h
   ·exact R.F_S c hc h
   ·exact absurd (R.F_lt c hc) (by omega)
  ·intro c hc
   have hck:c≠k:=fun e=>hkF (e ▸ hc)
   refine ⟨by rw [hg c hck];exact (R.F_g c hc).1,fun hm=>?_⟩
   rw [List.append_assoc] at hm
   rcases List.mem_append.1 hm with h | h
   ·exact (R.F_g c hc).2 (hall.symm.subset (List.mem_append_right _ (List.mem_append_left _ h)))
   ·rcases List.mem_append.1 h with h | h
    ·simp only [List.mem_singleton] at h;exact hck h
    ·exact (R.F_g c hc).2 (List.mem_append_right _ h)
  ·exact (hσ.mono (S':=orB S A.next) (B:=B) (β':=β) hle hS (fun _ _ h=>h) hn fun j hj=>hg' j (List.mem_append_left _ hj)).snoc (p:=.ow e sz n l) hv
  ·have h1:((gs'++[k])++gm).Perm (k::(gs'++gm)):=by
    rw [List.append_assoc];exact List.perm_middle
   rw [h1.nodup_iff,List.nodup_cons]
   exact ⟨hkn,(List.nodup_append.1 hnd).2.1⟩
 ·refine ⟨⟨hn,fun c hc _=>hh c (by omega),fun j hj hG=>hg j fun e=>hG (.inl ?_)⟩,fun _ _=>rfl,fun c hc=>.inl hc,hle,fun c hc=>?_,fun j hj=>?_⟩
  ·subst e
   rcases hk with ⟨h,_⟩ | h
   ·exact hall.symm.subset (List.mem_append_left _ h)
   ·omega
  ·rcases hc with h | h
   ·exact .inl h
   ·exact .inr (.inl (by omega))
  ·rw [List.append_assoc] at hj
   rcases List.mem_append.1 hj with h | h
   ·exact .inl (hall.symm.subset (List.mem_append_right _ (List.mem_append_left _ h)))
   ·rcases List.mem_append.1 h with h | h
    ·simp only [List.mem_singleton] at h;subst h
     rcases hk with ⟨h,_⟩ | h
     ·exact .inl (hall.symm.subset (List.mem_append_left _ h))
     ·exact .inr (.inl (by omega))
    ·exact .inl (List.mem_append_right _ h)
theorem RS.newOw (R:RS gl A β S F σ ps gs μ gm) {m k:Nat} {o:AObj} {v:Value} {e:TypeId} {sz n:Nat} {l:List P} {d:List Nat} (hσ:RepO β S A σ ps' gs') (hp:gs.Perm (d++gs')) (hBh:B.h=A.h.set A.next o) (hBn:B.next=A.next+1)
  (hg:∀ j,j≠k->B.g.get j=A.g.get j) (hk:(k∈d/\k < A.next)\/k=A.next) (hv:OwnR β (orB S A.next) B v e sz n l [k]) :
  RS gl B β (orB S A.next) F (σ++[v]) (ps'++[.ow e sz n l]) (gs'++[k]) μ gm/\Ext m A β S F gs gm B β (orB S A.next) (gs'++[k]) gm :=
 RS.newOwH R hσ hp (fun c hc=>by rw [hBh,T.get_set_other _ _ hc]) hBn hg hk hv
theorem RS.sameOw (R:RS gl A β S F σ ps gs μ gm) {m:Nat} {v:Value} {p:P} {g d:List Nat} (hσ:RepO β S A σ ps' gs') (hp:gs.Perm (g++(d++gs'))) (hv:RepT β S A v p g) :
  RS gl A β S F (σ++[v]) (ps'++[p]) (gs'++g) μ gm/\Ext m A β S F gs gm A β S (gs'++g) gm:=by
 have h1:gs.Perm (d++(gs'++g)):=by
  refine hp.trans ?_
  rw [<- List.append_assoc d]
  exact List.perm_append_comm
 exact ⟨R.setVars (hσ.snoc hv) ⟨d,h1⟩,Ext.refl m A β S F gs gm fun k hk=>by
  rcases List.mem_append.1 hk with h | h
  ·exact List.mem_append_left _ (h1.symm.subset (List.mem_append_right _ h))
  ·exact List.mem_append_right _ h⟩
theorem Tr {l:List Value} {n:Nat} (h:l.length=n):l.take n=l:=by subst h;exact List.take_length
theorem dX {h:T AObj} (hA:A.h=h) {x:Value} {q:P} {sz n:Nat} {l:List P} (hx:Rep β S h x q) (hq:iK sz q=some (n,l)) :
  ∃ new,cz A sz x=some (n,new)/\RepL β S h new l/\new.length=n * sz/\new.all one=true:=by
 subst hA
 have rd:∀ (a:Addr) (c:Nat) (vs:List Value),Rdc A.h sz a vs->vs.length=n * sz->cz A sz (.slice (some a) n c)=some (n,vs):=by
  intro a c vs h2 h3
  unfold cz
  simp only [dN,cS]
  have:=h2.range (A:=A) rfl (i:=0) (n:=n * sz) (by omega)
  rw [jc h2.1,List.drop_zero,Tr h3] at this
  rw [this]
 unfold iK at hq
 split at hq
 ·split at hq
  ·rename_i hs
   cases hq
   subst hs
   cases hx with
   | nil=>exact ⟨[],rfl,.nil,by simp,rfl⟩
   | sl a _ _ c vs _ h1 h2 h3 h4 h5 =>
    obtain ⟨_,_,_,_,_,ho,_⟩:=id h2
    exact ⟨vs,rd a c vs h2 h3,h5,h3,ho⟩
  ·cases hq
 ·split at hq
  ·rename_i hs
   cases hq
   subst hs
   cases hx with
   | fx a _ _ vs _ h1 h2 h3 h5 =>
    obtain ⟨_,_,_,_,_,ho,_⟩:=id h2
    exact ⟨vs,rd a _ vs (h2.rdc _) h3,h5,h3,ho⟩
  ·cases hq
 ·cases hq
  cases hx
  exact ⟨[],rfl,.nil,by simp,rfl⟩
 ·split at hq
  ·rename_i hs
   cases hq
   subst hs
   cases hx
   rename_i s
   refine ⟨s.data.toList.map fun b=>.int .u8 b.toNat,?_,?_,by rw [List.length_map,Array.length_toList,Nat.mul_one];rfl,?_⟩
   ·unfold cz
    simp only [dN,cS]
    rw [List.take_of_length_le (by rw [Array.length_toList];exact Nat.le_refl _)]
   ·exact l7 (A:=A) _ _ _ fun x _=>.c _
   ·rw [List.all_eq_true]
    intro y hy
    obtain ⟨b,_,rfl⟩:=List.mem_map.1 hy
    rfl
  ·cases hq
 ·cases hq
theorem mV (R:RS gl A β S F σ ps gs μ gm) {m:Nat} {e:TypeId} {i:TypeInfo} {z v x:Value} {p q a:P} {g:List Nat} (hσ:RepO β S A σ ps' gs') (hp:gs.Perm (g++gs')) (hv:RepO β S A [v,x] [p,q] g) (ha:iL e i z p (fz q)=some a) :
  ∃ w B S' g2,aB (.app e i z) [v,x] A=some (w,B)/\RS gl B β S' F (σ++[w]) (ps'++[a]) (gs'++g2) μ gm/\Ext m A β S F gs gm B β S' (gs'++g2) gm/\(∀ c,c < A.next->B.h.get c=A.h.get c):=by
 obtain ⟨g1,g3,hvp,hxq,hgg⟩:∃ g1 g3,RepT β S A v p g1/\RepT β S A x q g3/\g=g1++(g3++[]):=by
  cases hv with
  | cons _ _ g1 _ _ _ h1 h2 =>
   cases h2 with
   | cons _ _ g3 _ _ _ h3 h4=>cases h4;exact ⟨g1,g3,h1,h3,rfl⟩
 rw [List.append_nil] at hgg
 subst hgg
 have hp':gs.Perm (g1++(g3++gs')):=by rw [<- List.append_assoc];exact hp
 unfold iL at ha
 split at ha
 ·rename_i n l n' l' hb hq
  split at ha
  ·rename_i hc
   cases ha
   obtain ⟨hz,hzc,hbytes,hlen⟩:=hc
   obtain ⟨new,hnew,hrn,hln,hon⟩:=dX rfl hxq.fz hq
   have hsem:∀ (base:Option Addr) (w:Value) (B:St),v=.slice base n n->(if n+n'<=n then b8 A base i.size n n' n new else bI A e i base n n' new)=some (w,B)->aB (.app e i z) [v,x] A=some (w,B):=by
    intro base w B hv hh
    subst hv
    show (match cz A i.size x with | some (n',new)=>_ | none=>none)=_
    rw [hnew]
    simp only
    rw [if_pos ⟨hz,hln,hbytes,hlen,hzc,hon⟩]
    exact hh
   -- nothing is appended
   have same:∀ (base:Option Addr),v=.slice base n n->n'=0->OwnR β S A v e i.size n l g1->∃ w B S' g2,aB (.app e i z) [v,x] A=some (w,B)/\RS gl B β S' F (σ++[w]) (ps'++[.ow e i.size (n+n') (l++l')]) (gs'++g2) μ gm/\Ext m A β S F gs gm B β S' (gs'++g2) gm/\(∀ c,c < A.next->B.h.get c=A.h.get c):=by
    intro base hve h0 ho
    subst h0
    have hl0:l'=[]:=by
     have:=hrn.length
     simp only [Nat.zero_mul] at hln
     exact List.length_eq_zero_iff.1 (by omega)
    subst hl0
    obtain ⟨r1,r2⟩:=R.sameOw (m:=m) (d:=g3) (p:=.ow e i.size n l) hσ hp' ho
    refine ⟨v,A,S,g1,hsem base v A hve ?_,by simpa using r1,r2,fun _ _=>rfl⟩
    rw [if_pos (by omega),hve]
    rfl
   -- a new array
   have fresh:∀ (base:Option Addr) (old:List Value),v=.slice base n n->0 < n'->g1=[]->old.length=n * i.size->old.all one=true->RepL β S A.h old l->bI A e i base n n' new=some (ay A e i.size (n+n') (old++new)) ->
     ∃ w B S' g2,aB (.app e i z) [v,x] A=some (w,B)/\RS gl B β S' F (σ++[w]) (ps'++[.ow e i.size (n+n') (l++l')]) (gs'++g2) μ gm/\Ext m A β S F gs gm B β S' (gs'++g2) gm/\(∀ c,c < A.next->B.h.get c=A.h.get c):=by
    intro base old hve h0 hg1 hlo hoo hro hgrow
    subst hg1
    have f:=R.fresh (b:=A.next) (.inl (Nat.le_refl _))
    have hh:∀ c,S c->(ay A e i.size (n+n') (old++new)).2.h.get c=A.h.get c:=fun c hc=>T.get_set_other _ _ fun e=>f.2.1 (e ▸ hc)
    have hown:OwnR β (orB S A.next) (ay A e i.size (n+n') (old++new)).2 (ay A e i.size (n+n') (old++new)).1 e i.size (n+n') (l++l') [A.next]:=by
     refine OwnR.ow A.next (dB (T.ofList (old++new)) (old++new).length e i.size A.next 0 false) e i.size (n+n') (old++new) (l++l') rfl rfl (.inr rfl) (T.get_set_same _ _ _) rfl rfl rfl (Nat.zero_le _) ?_ (fun j _=>T.get_ofList _ _) ?_ ?_ ?_ ?_
     ·rw [List.all_append,hoo,hon];rfl
     ·rw [List.length_append,hlo,hln,Nat.add_mul]
     ·exact (hro.append hrn).mono (fun _ h=>.inl h) hh (fun _ _ h=>h)
     ·exact Nat.lt_succ_self _
     ·exact .inl f.2.2.1
    obtain ⟨r1,r2⟩:=R.newOw (m:=m) (B:=(ay A e i.size (n+n') (old++new)).2) (k:=A.next) (d:=g3) hσ (by simpa using hp') rfl rfl (fun _ _=>rfl) (.inr rfl) hown
    refine ⟨_,_,_,_,hsem base _ _ hve ?_,r1,r2,fun c hc=>T.get_set_other _ _ (by omega)⟩
    rw [if_neg (by omega),hgrow]
   unfold pJ at hb
   split at hb
   ·-- nil
    cases hb
    obtain ⟨h1,h2⟩:=hvp
    cases h1
    subst h2
    rcases Nat.eq_zero_or_pos n' with h0 | h0
    ·exact same none rfl h0 (.nil _ _)
    ·refine fresh none [] rfl h0 rfl (by simp) rfl .nil ?_
     simp only [bI,Nat.zero_add,List.nil_append]
   ·-- ow
    split at hb
    ·rename_i hes
     cases hb
     obtain ⟨he1,he2⟩:=hes
     have he1':=he1.symm
     subst he1'
     subst he2
     have ho:OwnR β S A v e i.size n l g1:=hvp
     have hve:∃ base,v=.slice base n n:=by cases ho <;> exact ⟨_,rfl⟩
     obtain ⟨base,hve⟩:=hve
     rcases Nat.eq_zero_or_pos n' with h0 | h0
     ·exact same base hve h0 ho
     ·cases ho with
      | nil =>
       refine fresh none [] rfl h0 rfl (by simp) rfl .nil ?_
       simp only [bI,Nat.zero_add,List.nil_append]
      | fx a _ _ _ vs _ h1 h2 h3 h4 =>
       obtain ⟨k0,r,k1,k2,k3,k4,k5⟩:=id h2
       refine fresh (some a) vs rfl h0 rfl h3 k4 h4 ?_
       have:=gI (t:=r.cells) (l:=vs) (off:=a.off) k5
       rw [h3] at this
       simp only [bI,St.row?,k1]
       rw [if_pos (by omega),this]
       simp only [k2]
      | ow b r _ _ _ vs _ he hs h1 h2 h3 h4 h5 h6 h7 h8 h9 h10 h11 h12 =>
       have f:=R.fresh (b:=A.next) (.inl (Nat.le_refl _))
       have hrange:r.cells.range 0 (n * i.size)=some vs:=by
        have:=gI (t:=r.cells) (l:=vs) (off:=0) (by simpa using h8)
        rwa [h9] at this
       have hmode:∃ ms,gS A b r (Nat.beq (0+n * i.size) r.size)=(A.h,b::ms):=by
        have e1:Nat.beq (0+n * i.size) r.size=true:=by rw [Nat.beq_eq];omega
        unfold gS
        rw [e1]
        rcases h12 with h | ⟨ms,h⟩
        ·rw [h];exact ⟨[],rfl⟩
        ·rw [h]
         have:Nat.beq b b=true:=by rw [Nat.beq_eq]
         simp only [if_true,this]
         exact ⟨ms,rfl⟩
       obtain ⟨ms,hmode⟩:=hmode
       have e1:Nat.beq (0+n * i.size) r.size=true:=by rw [Nat.beq_eq];omega
       have e0:Nat.beq 0 0=true:=rfl
       let w':Row:=dB (r.cells.setL r.size new) ((n+n') * i.size) e i.size r.grp (r.frz - 0) r.sb
       let B:St:={ A with next:=A.next+1,h:=A.h.set A.next (.row w'),g:=A.g.set r.grp (A.next::b::ms) }
       have hgrow:bI A e i (some ⟨b,0,none⟩) n n' new=some (.slice (some ⟨A.next,0,none⟩) (n+n') (n+n'),B):=by
        simp only [bI,St.row?,h2]
        rw [if_pos (by omega),hrange]
        simp only [h4]
        rw [if_pos ⟨he,hs,h3,by omega⟩]
        rw [e1] at hmode
        simp only [gU,e1,e0,Bool.and_self,if_true,hmode]
        rfl
       have hh:∀ c,S c->B.h.get c=A.h.get c:=fun c hc=>T.get_set_other _ _ fun e=>f.2.1 (e ▸ hc)
       have hlen2:(vs++new).length=(n+n') * i.size:=by rw [List.length_append,h9,hln,Nat.add_mul]
       have hown:OwnR β (orB S A.next) B (.slice (some ⟨A.next,0,none⟩) (n+n') (n+n')) e i.size (n+n') (l++l') [r.grp]:=by
        refine OwnR.ow A.next w' e i.size (n+n') (vs++new) (l++l') rfl rfl (.inr rfl) (T.get_set_same _ _ _) rfl rfl hlen2.symm ?_ ?_ ?_ hlen2 ?_ ?_ ?_
        ·show r.frz - 0<=(n+n') * i.size
         rw [<- hlen2,List.length_append];omega
        ·rw [List.all_append,h7,hon];rfl
        ·intro j hj
         show (r.cells.setL r.size new).get j=_
         rw [T.get_setL]
         rw [List.length_append] at hj
         by_cases hj1:j < vs.length
         ·rw [if_neg (by omega),h8 j hj1,List.getElem?_append_left hj1]
         ·rw [if_pos (by omega),List.getElem?_append_right (by omega),h5]
        ·exact (h10.append hrn).mono (fun _ h=>.inl h) hh (fun _ _ h=>h)
        ·show r.grp < A.next+1
         omega
        ·exact .inr ⟨b::ms,T.get_set_same _ _ _⟩
       obtain ⟨r1,r2⟩:=R.newOw (m:=m) (B:=B) (k:=r.grp) (d:=[r.grp]++g3) hσ (by rw [List.append_assoc];exact hp') rfl rfl (fun j hj=>T.get_set_other _ _ hj) (.inl ⟨by simp,h11⟩) hown
       refine ⟨_,B,_,_,hsem _ _ B rfl ?_,r1,r2,fun c hc=>T.get_set_other _ _ (by omega)⟩
       rw [if_neg (by omega),hgrow]
    ·cases hb
   ·-- fx
    split at hb
    ·rename_i hes
     cases hb
     subst hes
     obtain ⟨h1,h2⟩:=hvp
     subst h2
     cases h1 with
     | fx a _ _ vs _ h1 h2 h3 h4 =>
      rcases Nat.eq_zero_or_pos n' with h0 | h0
      ·exact same (some a) rfl h0 (.fx a e i.size n vs l h1 h2 h3 h4)
      ·obtain ⟨k0,r,k1,k2,k3,k4,k5⟩:=id h2
       refine fresh (some a) vs rfl h0 rfl h3 k4 h4 ?_
       have:=gI (t:=r.cells) (l:=vs) (off:=a.off) k5
       rw [h3] at this
       simp only [bI,St.row?,k1]
       rw [if_pos (by omega),this]
       simp only [k2]
    ·cases hb
   ·cases hb
  ·cases ha
 ·cases ha
end
end Go.AM.PV
namespace Go.AM.PV
open Go Go.AM Go.AM.SX
theorem Ts:∀ (n:Nat) (v:Value),aU n v=true->veq n v v=true:=by
 have arr:∀ (n:Nat),(∀ v,aU n v=true->veq n v v=true)->∀ l:List Value,l.all (aU n)=true->((l.zip l).all fun p=>veq n p.1 p.2)=true:=by
  intro n ih l h
  induction l with
  | nil=>rfl
  | cons x l il =>
   simp only [List.all_cons,Bool.and_eq_true] at h
   simp only [List.zip_cons_cons,List.all_cons,Bool.and_eq_true]
   exact ⟨ih x h.1,il h.2⟩
 intro n
 induction n with
 | zero =>
  intro v h
  cases v <;> first
   | (simp [veq];done)
   | (cases h;done)
   | (rename_i p;cases p <;> first
     | rfl
     | (cases h;done))
   | (rename_i p _ _;cases p <;> first
     | (simp [veq];done)
     | (cases h;done))
 | succ n ih =>
  intro v h
  cases v with
  | iface t v=>simp only [aU] at h;simp [veq,ih v h]
  | agg a=>simp only [aU] at h;simp only [veq,beq_self_eq_true,Bool.true_and];exact arr n ih _ h
  | tuple a=>simp only [aU] at h;simp only [veq,beq_self_eq_true,Bool.true_and];exact arr n ih _ h
  | func f a c =>
   simp only [aU,Bool.and_eq_true] at h
   simp only [veq,beq_self_eq_true,Bool.true_and,decide_true,Bool.and_eq_true]
   exact ⟨arr n ih _ h.1.2,arr n ih _ h.2⟩
  | _=>first
   | (simp [veq];done)
   | (cases h;done)
   | (rename_i p;cases p <;> first
     | rfl
     | (cases h;done))
   | (rename_i p _ _;cases p <;> first
     | (simp [veq];done)
     | (cases h;done))
section
variable {β:List Nat} {S:Nat->Prop} {h:T AObj}
mutual
theorem l8:∀ {v:Value} {p:P} (n:Nat),Rep β S h v p->shal n p=true->veq n v v=true
 | _,_,n,.c x,hs=>by
  cases x <;> cases n <;> first
   | (cases hs;done)
   | (simp [veq];done)
   | (rename_i q;cases q <;> simp [veq];done)
   | (rename_i q;cases q;simp [veq];done)
   | (rename_i q _ _;cases q <;> simp [veq];done)
   | (rename_i q _;cases q <;> simp [veq];done)
   | (simp only [shal,Bool.and_eq_true] at hs;exact Ts _ _ hs.2)
   | (rename_i q _ _ _;cases q <;> simp [veq];done)
 | _,_,0,.ifc t v p r,hs=>by cases hs
 | _,_,n+1,.ifc t v p r,hs=>by
  simp only [shal] at hs
  simp [veq,l8 n r hs]
 | _,_,0,.agg vs ps r,hs=>by cases hs
 | _,_,n+1,.agg vs ps r,hs=>by
  simp only [shal] at hs
  simp only [veq,beq_self_eq_true,Bool.true_and]
  exact l9 n r hs
 | _,_,0,.tup vs ps r,hs=>by cases hs
 | _,_,n+1,.tup vs ps r,hs=>by
  simp only [shal] at hs
  simp only [veq,beq_self_eq_true,Bool.true_and]
  exact l9 n r hs
 | _,_,n,.nil sz,_=>by cases n <;> simp [veq]
 | _,_,n,.sl a sz k c vs ps h1 h2 h3 h4 r,_=>by cases n <;> simp [veq]
 | _,_,n,.fx a sz k vs ps h1 h2 h3 r,_=>by cases n <;> simp [veq]
 | _,_,n,.ip a sz off vs ps h1 h2 r,_=>by cases n <;> simp [veq]
 | _,_,n,.lit a vs ps h1 h2 r,_=>by cases n <;> simp [veq]
 | _,_,n,.lp i b off h1,_=>by cases n <;> simp [veq]
 | _,_,n,.ms i b off k c h1,_=>by cases n <;> simp [veq]
 | _,_,0,.fn f vs ps r,hs=>by cases hs
 | _,_,n+1,.fn f vs ps r,hs=>by
  simp only [shal] at hs
  simp only [veq,beq_self_eq_true,Bool.true_and,decide_true]
  simp only [List.zip_nil_left,List.all_nil,Bool.true_and]
  exact l9 n r hs
 | _,_,n,.any v h1,hs=>by cases n <;> cases hs
theorem l9:∀ {vs:List Value} {ps:List P} (n:Nat),RepL β S h vs ps->ps.all (shal n)=true->((vs.zip vs).all fun p=>veq n p.1 p.2)=true
 | _,_,_,.nil,_=>rfl
 | _,_,n,.cons v p vs ps r rs,hs=>by
  simp only [List.all_cons,Bool.and_eq_true] at hs
  simp only [List.zip_cons_cons,List.all_cons,Bool.and_eq_true]
  exact ⟨l8 n r hs.1,l9 n rs hs.2⟩
end
end
end Go.AM.PV
namespace Go.AM.PV
open Go Go.AM Go.AM.SX
section
variable {gl:List GRow} {β β':List Nat} {S S' F F':Nat->Prop} {A B:St} {σ σ':Sg} {ps ps':List P} {gs gs' gm gm':List Nat} {μ μ':Mu} {L:List Lg} {H:List St}
theorem fL (p:P):fz (fz p)=fz p:=by cases p <;> rfl
theorem Tt {n:Option Nat} {i off:Nat} {p:P} (h:cA (μ.map Ob.fz) n i off=some p):∃ q,cA μ n i off=some q/\fz p=fz q:=by
 unfold cA at h ⊢
 rw [List.getElem?_map] at h
 cases hm:μ[i]? with
 | none=>rw [hm] at h;cases h
 | some ob =>
  rw [hm] at h
  cases ob with
  | sit s pos=>cases h
  | cells l =>
  simp only [Option.map_some,Ob.fz] at h
  cases n with
  | none =>
   simp only [List.getElem?_map,Option.map_eq_some_iff] at h
   obtain ⟨q,h1,rfl⟩:=h
   exact ⟨q,h1,fL q⟩
  | some n =>
   simp only [List.length_map] at h
   split at h
   ·rename_i hle
    cases h
    refine ⟨.agg (((l.drop off).take n).map fz),by simp only [hle,if_true],?_⟩
    simp only [fz,P.agg.injEq]
    rw [List.map_take,List.map_drop,List.map_take,List.map_drop,List.map_map]
    congr 2
    exact List.map_congr_left fun x _=>fL x
   ·cases h
theorem wB (R:RS gl A β S F σ ps gs μ gm) {m b:Nat} {r:SX.R} {vs:List Value} {as:List P} {p:P} (hb:A.next<=b\/F b) (hr:RepL β S A.h vs as) (h:bH r as μ=some (p,μ')) (hm:m<=μ.length) :
  ∃ v A1 o,aB r vs { A with next:=b }=some (v,A1)/\A1.next=b+1/\A1.g=A.g/\A1.h=A.h.set b o/\μ.length<=μ'.length/\∀ (B:St) (F':Nat->Prop),B.h=A1.h->B.g=A1.g->A.next<=B.next->b < B.next->(∀ c,F' c->F c/\c≠b) ->
   ∃ β' S' gm',RS gl B β' S' F' (σ++[v]) (ps++[p]) gs μ' gm'/\Ext m A β S F gs gm B β' S' gs gm'/\(∀ c,c∈β->c∈β'):=by
 have hlen:=R.objs.length
 have obj:∀ (t:TypeId) (zs:List Value) (l:List P) (v:Value),zs.all one=true->RepL β S A.h zs l->(∀ h,Rep (β++[b]) S h v p)->μ'=μ++[.cells l]->aB r vs { A with next:=b }=some (v,(St.newRow { A with next:=b } t zs).2) ->
   ∃ v A1 o,aB r vs { A with next:=b }=some (v,A1)/\A1.next=b+1/\A1.g=A.g/\A1.h=A.h.set b o/\μ.length<=μ'.length/\∀ (B:St) (F':Nat->Prop),B.h=A1.h->B.g=A1.g->A.next<=B.next->b < B.next->(∀ c,F' c->F c/\c≠b) ->
    ∃ β' S' gm',RS gl B β' S' F' (σ++[v]) (ps++[p]) gs μ' gm'/\Ext m A β S F gs gm B β' S' gs gm'/\(∀ c,c∈β->c∈β'):=by
  intro t zs l v ho hl hv hμ hs
  subst hμ
  refine ⟨v,_,_,hs,rfl,rfl,rfl,by simp,fun B F' hBh hBg hn hbn hF=>?_⟩
  obtain ⟨r1,r2⟩:=R.newObj (m:=m) (vs:=zs) (w:={ own:=true,size:=zs.length,cells:=T.ofList zs,elem:=t,esz:=0,opn:=false,grp:=b,frz:=0,sb:=false }) hb hBh hBg hn hbn ⟨rfl,(fun e=>by cases e),rfl,rfl,rfl,fun i _=>T.get_ofList _ _⟩ ho hl hF hv (by omega)
  exact ⟨_,_,_,r1,r2,fun c hc=>List.mem_append_left _ hc⟩
 have idx:(β++[b])[μ.length]? = some b:=by rw [<- hlen,List.getElem?_append_right (Nat.le_refl _)];simp
 unfold bH at h
 split at h
 ·rename_i t z
  split at h
  ·rename_i ho
   cases h
   cases hr
   exact obj t z _ _ ho (.consts z) (fun h=>.lp _ b 0 idx) rfl rfl
  ·cases h
 ·rename_i t q
  split at h
  ·rename_i ho
   cases h
   obtain ⟨v,rfl,hv⟩:=inv1 hr
   exact obj t v.cells.toList _ _ ((RepO.of (A:=A) (RepL.cells hv)).ones ho) (RepL.cells hv) (fun h=>.lp _ b 0 idx) rfl rfl
  ·cases h
 ·rename_i t z pl
  split at h
  ·rename_i l hl
   split at h
   ·rename_i ho
    cases h
    obtain ⟨cs,h1,h2⟩:=pK hr (RepL.consts z) hl
    have hones:cs.all one=true:=(RepO.of (A:=A) h2).ones ho
    refine ⟨.pointer (some ⟨b,0,none⟩),(St.newRow { A with next:=b } t cs).2,_,by simp only [aB,h1],rfl,rfl,rfl,Nat.le_refl _,fun B F' hBh hBg hn hbn hF=>?_⟩
    have f:=R.fresh hb
    have hh:∀ c,S c->B.h.get c=A.h.get c:=fun c hc=>by
     have hcb:c≠b:=fun e=>f.2.1 (e ▸ hc)
     rw [hBh];exact T.get_set_other _ _ hcb
    have hv:Rep β (orB S b) B.h (.pointer (some ⟨b,0,none⟩)) (.lit l):=by
     refine .lit _ cs l (.inr rfl) ⟨rfl,{ own:=true,size:=cs.length,cells:=T.ofList cs,elem:=t,esz:=0,opn:=false,grp:=b,frz:=0,sb:=false },?_,rfl,?_,hones,fun i _=>?_⟩ (h2.mono (fun _ h=>.inl h) hh (fun _ _ h=>h))
     ·rw [hBh];exact T.get_set_same _ _ _
     ·simp
     ·simpa using T.get_ofList cs i
    obtain ⟨r1,r2⟩:=R.newRow (m:=m) hb hBh hBg hn hbn hF hv
    exact ⟨_,_,_,r1,r2,fun _ h=>h⟩
   ·cases h
  ·cases h
 ·rename_i t z bytes k1 ln k2 cp
  split at h
  ·rename_i hc
   cases h
   obtain ⟨v,w,rfl,hv,hw⟩:=inv2 hr
   cases hv;cases hw
   have hz:(zeros z cp.toNat).all one=true:=by
    have:∀ n,(zeros z n).all one=true:=by
     intro n
     induction n with
     | zero=>rfl
     | succ n ih=>simp only [zeros,List.all_append,ih,hc.2.2.2.2,Bool.and_self]
    exact this _
   refine obj t (zeros z cp.toNat) _ (.slice (some ⟨b,0,none⟩) ln.toNat cp.toNat) hz (.consts _) (fun h=>.ms _ b 0 _ _ idx) rfl ?_
   simp only [aB]
   rw [if_pos ⟨hc.1,hc.2.1,hc.2.2.1,hc.2.2.2.1⟩]
  ·cases h
 ·cases h
theorem RS.noF (R:RS gl A β S F σ ps gs μ gm):RS gl A β S PV.noF σ ps gs μ gm :=
 { R with F_lt:=fun _ h=>h.elim,F_S:=fun _ h=>h.elim,F_β:=fun _ h=>h.elim,F_g:=fun _ h=>h.elim }
theorem RS.call (R:RS gl A β S F σ ps gs μ gm) {m:Nat} {g gs1 gs2 gm2:List Nat} {v:Value} {r:P} {vs:List Value} {as:List P} {S':Nat->Prop} (hσ:RepO β S A σ ps' gs1) (hp:gs.Perm (g++gs1)) (_ha:RepO β S A vs as g)
  (hE:Ext μ.length A β S PV.noF g gm B β' S' gs2 gm2) (hR:RS gl B β' S' PV.noF [v] [r] gs2 μ' gm2) (hm:m<=μ.length) :
  RS gl B β' S' F (σ++[v]) (ps'++[r]) (gs1++gs2) μ' gm2/\Ext m A β S F gs gm B β' S' (gs1++gs2) gm2/\(∀ c,S c->B.h.get c=A.h.get c)/\(∀ c,c∈β->c∈β'):=by
 have hlen:=R.objs.length
 have hn:=hE.keep.next
 have hall:(gs++gm).Perm (gs1++(g++gm)):=by
  refine (hp.append_right gm).trans ?_
  rw [<- List.append_assoc]
  exact List.perm_append_comm.append_right gm
 have hnd:=hall.nodup_iff.1 R.nd
 have hS:∀ c,S c->B.h.get c=A.h.get c:=fun c hc=>hE.keep.heap c (R.S_lt c hc) fun e=>by
  rcases e with e | e
  ·exact R.β_S c e hc
  ·exact e.elim
 have hβ:∀ (i c:Nat),β[i]? = some c->β'[i]? = some c:=fun i c h=>by
  rw [hE.objs i (by rw [<- hlen];exact (List.getElem?_eq_some_iff.1 h).1)];exact h
 have hβm:∀ c,c∈β->c∈β':=fun c hc=>by
  obtain ⟨i,hi⟩:=List.mem_iff_getElem?.1 hc
  exact List.mem_of_getElem? (hβ i c hi)
 have hgs:∀ k,k∈gs1->B.g.get k=A.g.get k:=fun k hk=>hE.keep.grps k (hσ.glt k hk) fun e=>by
  rcases e with e | e
  ·exact (List.nodup_append.1 hnd).2.2 k hk k e rfl
  ·exact e.elim
 have hFB:∀ c,F c->¬ S' c:=fun c hc hs=>by
  rcases hE.newS c hs with e | e | e
  ·exact R.F_S c hc e
  ·exact absurd (R.F_lt c hc) (by omega)
  ·exact e.elim
 have hFg:∀ c,F c->B.g.get c=none/\c ∉ (gs1++gs2)++gm2:=fun c hc=>by
  obtain ⟨f1,f2⟩:=R.F_g c hc
  have f3:c ∉ gs1++(g++gm):=fun e=>f2 (hall.symm.subset e)
  refine ⟨(hE.keep.grps c (R.F_lt c hc) fun e=>?_).trans f1,fun e=>?_⟩
  ·rcases e with e | e
   ·exact f3 (List.mem_append_right _ e)
   ·exact e.elim
  ·rw [List.append_assoc] at e
   rcases List.mem_append.1 e with e | e
   ·exact f3 (List.mem_append_left _ e)
   ·rcases hE.newg c e with e | e | e
    ·exact f3 (List.mem_append_right _ e)
    ·exact absurd (R.F_lt c hc) (by omega)
    ·exact e.elim
 refine ⟨⟨hR.S_lt,hR.β_lt,fun c hc=>Nat.lt_of_lt_of_le (R.F_lt c hc) hn,hR.β_S,hFB,fun c hc hm=>?_,hFg,hR.β_nd,hR.ginv,hR.glob,?_,hR.objs,?_⟩,?_,hS,hβm⟩
 ·rcases hE.newβ c hm with e | e | e
  ·exact R.F_β c hc e
  ·exact absurd (R.F_lt c hc) (by omega)
  ·exact e.elim
 ·exact (hσ.mono (S':=S') (B:=B) (β':=β') hE.oldS hS hβ hn hgs).append hR.vars
 ·rw [List.append_assoc,List.nodup_append]
  refine ⟨(List.nodup_append.1 hnd).1,hR.nd,fun x hx y hy e=>?_⟩
  subst e
  rcases hE.newg x hy with e | e | e
  ·exact (List.nodup_append.1 hnd).2.2 x hx x e rfl
  ·exact absurd (hσ.glt x hx) (by omega)
  ·exact e.elim
 ·refine ⟨⟨hn,fun c hc hM=>hE.keep.heap c hc fun e=>hM ?_,fun k hk hG=>hE.keep.grps k hk fun e=>hG ?_⟩,fun i hi=>hE.objs i (by omega),fun c hc=>?_,hE.oldS,fun c hc=>?_,fun k hk=>?_⟩
  ·rcases e with e | e
   ·exact .inl e
   ·exact e.elim
  ·rcases e with e | e
   ·exact .inl (hall.symm.subset (List.mem_append_right _ e))
   ·exact e.elim
  ·rcases hE.newβ c hc with e | e | e
   ·exact .inl e
   ·exact .inr (.inl e)
   ·exact e.elim
  ·rcases hE.newS c hc with e | e | e
   ·exact .inl e
   ·exact .inr (.inl e)
   ·exact e.elim
  ·rw [List.append_assoc] at hk
   rcases List.mem_append.1 hk with e | e
   ·exact .inl (hall.symm.subset (List.mem_append_left _ e))
   ·rcases hE.newg k e with e | e | e
    ·exact .inl (hall.symm.subset (List.mem_append_right _ e))
    ·exact .inr (.inl e)
    ·exact e.elim
theorem RS.trunc (R:RS gl A β S F σ ps gs μ gm) {m k:Nat} (hk:m<=k) (h1:okm.okL k ps=true) (h2:okM k (μ.take k)=true) :
  ∃ gm',RS gl A (β.take k) S F σ ps gs (μ.take k) gm'/\Ext m A β S F gs gm A (β.take k) S gs gm':=by
 obtain ⟨g1,g2,hm,rfl⟩:=R.objs.take k
 have hsub:∀ c,c∈β.take k->c∈β:=fun c hc=>List.mem_of_mem_take hc
 refine ⟨g1,⟨R.S_lt,fun c hc=>R.β_lt c (hsub c hc),R.F_lt,fun c hc=>R.β_S c (hsub c hc),R.F_S,fun c hc e=>R.F_β c hc (hsub c e),fun c hc=>⟨(R.F_g c hc).1,fun e=>(R.F_g c hc).2 ?_⟩,
  R.β_nd.sublist (List.take_sublist _ _),R.ginv,R.glob,R.vars.trunc h1,hm.trunc h2,?_⟩,⟨⟨Nat.le_refl _,fun _ _ _=>rfl,fun _ _ _=>rfl⟩,fun i hi=>?_,fun c hc=>.inl (hsub c hc),fun _ h=>h,fun _ h=>.inl h,fun j hj=>.inl ?_⟩⟩
 ·rw [<- List.append_assoc];exact List.mem_append_left _ e
 ·have:=R.nd
  rw [<- List.append_assoc] at this
  exact (List.nodup_append.1 this).1
 ·rw [List.getElem?_take,if_pos (by omega)]
 ·rw [<- List.append_assoc];exact List.mem_append_left _ hj
end
end Go.AM.PV
namespace Go.AM.PV
open Go Go.AM Go.AM.SX
def rvOk (rv:Rv) (σ:Sg):Prop:=match rv with
 | none=>True
 | some (k,_,_)=>k < σ.length
theorem ax {rv:Rv} {σ:Sg} (h:rvOk rv σ) (τ:Sg):ak (σ++τ) rv=ak σ rv:=by
 cases rv with
 | none=>rfl
 | some x =>
  obtain ⟨k,n,us⟩:=x
  funext b
  simp only [ak]
  rw [eB _ _ h]
theorem rvOk.append {rv:Rv} {σ:Sg} (h:rvOk rv σ) (τ:Sg):rvOk rv (σ++τ):=by
 cases rv with
 | none=>trivial
 | some x=>exact Nat.lt_of_lt_of_le h (by simp)
section
variable {E:Env} {gl:List GRow}
def Res (gl:List GRow) (m:Nat) (A:St) (β:List Nat) (S F:Nat->Prop) (gs gm:List Nat) (Q:aW):bd:=fun o outs B =>
 ∃ outsP β' S' gs' μ' gm',Q o outsP μ'/\m<=μ'.length/\RS gl B β' S' noF outs outsP gs' μ' gm'/\Ext m A β S F gs gm B β' S' gs' gm'
theorem Res.trans {m m1:Nat} {A B:St} {β β1:List Nat} {S S1 F F1:Nat->Prop} {gs gm gs1 gm1:List Nat} {Q:aW} (hE:Ext m A β S F gs gm B β1 S1 gs1 gm1) (hm:m<=m1) (hF:∀ b,F1 b->F b\/A.next<=b) {o:Nat} {outs:List Value} {C:St}
  (h:Res gl m1 B β1 S1 F1 gs1 gm1 Q o outs C):Res gl m A β S F gs gm Q o outs C:=by
 obtain ⟨p,β',S',gs',μ',gm',h1,h2,h3,h4⟩:=h
 exact ⟨p,β',S',gs',μ',gm',h1,Nat.le_trans hm h2,h3,hE.trans h4 hm hF⟩
theorem RepL.repO_nil {β:List Nat} {S:Nat->Prop} {A:St} {vs ws:List Value} {ps qs:List P} (r:RepL β S A.h vs ps) (s:RepL β S A.h ws qs):RepO β S A (vs++ws) (ps++qs) []:=.of (r.append s)
end
end Go.AM.PV
namespace Go.AM.PV
open Go Go.AM Go.AM.SX
section
variable {E:Env} {gl:List GRow}
theorem PR.pre {f:FuncId} {ps qs:List P} {μ μ':Mu} {r:P} (h:PR E gl f qs μ r μ') (hl:LeL ps qs):PR E gl f ps μ r μ':=by
 intro A β S vs gs gm R
 obtain ⟨g2,e1,d,e2⟩:=pO R.vars hl
 have hs:∀ k,k∈g2++gm->k∈gs++gm:=fun k hk=>by
  rcases List.mem_append.1 hk with g | g
  ·exact List.mem_append_left _ (e2.symm.subset (List.mem_append_right _ g))
  ·exact List.mem_append_right _ g
 obtain ⟨v,B,β',S',gs',gm',h1,h2,h3⟩:=h A β S vs g2 gm (R.setVars e1 ⟨d,e2⟩)
 refine ⟨v,B,β',S',gs',gm',h1,⟨⟨h2.keep.next,h2.keep.heap,fun k hk hG=>h2.keep.grps k hk fun e=>hG ?_⟩,h2.objs,h2.newβ,h2.oldS,h2.newS,fun k hk=>?_⟩,h3⟩
 ·rcases e with e | e
  ·exact .inl (hs k e)
  ·exact .inr e
 ·rcases h2.newg k hk with e | e
  ·exact .inl (hs k e)
  ·exact .inr e
theorem PR.known {f:FuncId} {as:List Value} {k:Known} (hk:knw E f as=some k) (hl:∀ r,r∈k.looks->r∈gl/\r.g < E.ng) (hp:aH k.v=true) (μ:Mu):PR E gl f (as.map .c) μ (.c k.v) μ:=by
 intro A β S vs gs gm R
 have hv:vs=as:=by
  have h1:=R.vars.fz
  rw [List.map_map] at h1
  have:∀ (as vs:List Value),RepL β S A.h vs (as.map (fz ∘ .c))->vs=as:=by
   intro as
   induction as with
   | nil=>intro vs h;cases h;rfl
   | cons a as ih =>
    intro vs h
    cases h with
    | cons v _ vs _ h1 h2=>cases h1;rw [ih vs h2]
  exact this as vs h1
 subst hv
 obtain ⟨B,h1,h2⟩:=Ta (A:=A) hk (List.all_eq_true.2 fun r hr=>by
  simp only [Bool.and_eq_true]
  exact ⟨Nat.ble_eq_true_of_le (hl r hr).2,(R.glob r (hl r hr).1).2⟩) hp
 have hh:∀ b,b < A.next->B.h.get b=A.h.get b:=h2.2.1
 have hg:∀ j,B.g.get j=A.g.get j:=fun j=>by rw [h2.2.2]
 have hS:∀ c,S c->B.h.get c=A.h.get c:=fun c hc=>hh c (R.S_lt c hc)
 refine ⟨k.v,B,β,S,[],gm,h1,⟨⟨h2.1,fun b hb _=>hh b hb,fun j _ _=>hg j⟩,fun _ _=>rfl,fun _ h=>.inl h,fun _ h=>h,fun _ h=>.inl h,fun j hj=>.inl (List.mem_append_right _ hj)⟩,?_⟩
 refine ⟨fun b hb=>Nat.lt_of_lt_of_le (R.S_lt b hb) h2.1,fun b hb=>Nat.lt_of_lt_of_le (R.β_lt b hb) h2.1,fun _ h=>h.elim,R.β_S,fun _ h=>h.elim,fun _ h=>h.elim,fun _ h=>h.elim,R.β_nd,fun j hj=>by rw [hg];exact R.ginv j (Nat.le_trans h2.1 hj),fun r hr=>⟨(R.glob r hr).1,RS.lookups hS (R.glob r hr)⟩,?_,?_,?_⟩
 ·exact RepO.one (Rep.toT (.c k.v))
 ·exact R.objs.mono (fun _ h=>h) hS (fun _ _ h=>h) h2.1 (fun b hb=>hh b (R.β_lt b hb)) fun j _=>hg j
 ·exact (List.nodup_append.1 R.nd).2.1
end
end Go.AM.PV
namespace Go.AM.PV
open Go Go.AM Go.AM.SX
section
variable {E:Env} {gl:List GRow} {k a b:N} {m:Nat} {rv:Rv} {ps ps':List P} {μ μ':Mu} {L L':List Lg} {Q:aW} {xs:List X}
theorem LeL.refl:∀ (l:List P),LeL l l
 | []=>.nil
 | p::l=>.cons p p l l (.refl p) (LeL.refl l)
theorem LeL.one {p q:P} (h:Wk p q):LeL [p] [q]:=.cons p q [] [] (.wk p q h) .nil
theorem pQ {W:List P->Mu->aW->Prop} (hW:∀ vs μ P R,(∀ o outs ν,P o outs ν->R o outs ν)->W vs μ P->W vs μ R) {Q Q':aW} (hQ:∀ o outs ν,Q o outs ν->Q' o outs ν):∀ (n:Nat) (vs:List P) (μ:Mu),aQ W Q n vs μ->aQ W Q' n vs μ
 | 0,_,_,h=>h
 | n+1,vs,μ,h=>hW vs μ _ _ (fun o outs ν hp=>by
   cases o with
   | zero=>exact pQ hW hQ n outs ν hp
   | succ o=>exact hQ _ _ _ hp) h
theorem wC {W:List P->Mu->aW->Prop} (hW:∀ vs μ P R,(∀ o outs ν,P o outs ν->R o outs ν)->W vs μ P->W vs μ R) {Q:aW}:∀ (n n':Nat) (vs:List P) (μ:Mu),n<=n'->aQ W Q n vs μ->aQ W Q n' vs μ
 | 0,_,_,_,_,h=>h.elim
 | n+1,0,_,_,hn,_=>by omega
 | n+1,n'+1,vs,μ,hn,h=>hW vs μ _ _ (fun o outs ν hp=>by
   cases o with
   | zero=>exact wC hW n n' outs ν (Nat.le_of_succ_le_succ hn) hp
   | succ o=>exact hp) h
end
section
variable {E:Env} {gl:List GRow}
theorem Tu (e:TypeId) (a b:Nat) (l:List P):fz (.ow e a b l)=.sl a b l:=rfl
theorem Tv:fz .any=.any:=rfl
theorem Tw (x:Value):fz (.c x)=.c x:=rfl
theorem Tx (t:TypeId) (p:P):fz (.ifc t p)=.ifc t p:=rfl
theorem Ty (l:List P):fz (.agg l)=.agg l:=rfl
theorem Tz (l:List P):fz (.tup l)=.tup l:=rfl
theorem UA (a b:Nat) (l:List P):fz (.sl a b l)=.sl a b l:=rfl
theorem UB (a b:Nat) (l:List P):fz (.fx a b l)=.fx a b l:=rfl
theorem UC (l:List P) (o:Nat):fz (.ip l o)=.ip l o:=rfl
theorem UD (l:List P):fz (.lit l)=.lit l:=rfl
theorem UE (i o:Nat):fz (.lp i o)=.lp i o:=rfl
theorem UF (i o n c:Nat):fz (.ms i o n c)=.ms i o n c:=rfl
theorem UG (f:FuncId) (l:List P):fz (.fn f l)=.fn f l:=rfl
theorem UH (x:Value):aX (.c x)=(du x).map .c:=rfl
theorem UI (l:List P):aX (.agg l)=l:=rfl
theorem UJ (t:TypeId) (p:P):aX (.ifc t p)=[.ifc t p]:=rfl
theorem UK (l:List P):aX (.tup l)=[.tup l]:=rfl
theorem UL (a b:Nat) (l:List P):aX (.sl a b l)=[.sl a b l]:=rfl
theorem UM (a b:Nat) (l:List P):aX (.fx a b l)=[.fx a b l]:=rfl
theorem UN (l:List P) (o:Nat):aX (.ip l o)=[.ip l o]:=rfl
theorem UO (l:List P):aX (.lit l)=[.lit l]:=rfl
theorem UP (i o:Nat):aX (.lp i o)=[.lp i o]:=rfl
theorem UQ (i o n c:Nat):aX (.ms i o n c)=[.ms i o n c]:=rfl
theorem UR (f:FuncId) (l:List P):aX (.fn f l)=[.fn f l]:=rfl
theorem US (e:TypeId) (a b:Nat) (l:List P):aX (.ow e a b l)=[.ow e a b l]:=rfl
theorem UT (b:Bool):du (.bool b)=[.bool b]:=rfl
theorem UU (k:IntKind) (i:Int):du (.int k i)=[.int k i]:=rfl
theorem UV (s:ByteArray):du (.string s)=[.string s]:=rfl
theorem UW (a:Option Addr) (l c:Nat):du (.slice a l c)=[.slice a l c]:=rfl
theorem UX  : du (.nilIface)=[.nilIface]:=rfl
theorem UY (a:Option Addr):du (.pointer a)=[.pointer a]:=rfl
theorem UZ (l:List Value):du (.agg l.toArray)=l:=rfl
theorem pR (x:Value) (l:List Value):(x::l).map P.c=.c x::l.map P.c:=rfl
theorem pS:([]:List Value).map P.c=[]:=rfl
theorem pT (x y:P) (l:List P):(x::l).set 0 y=y::l:=rfl
theorem U0 (x y:P) (n:Nat) (l:List P):(x::l).set (n+1) y=x::l.set n y:=rfl
theorem U1 (x y:Ob) (l:List Ob):(x::l).set 0 y=y::l:=rfl
theorem U2 (x y:Ob) (n:Nat) (l:List Ob):(x::l).set (n+1) y=x::l.set n y:=rfl
theorem U3 (x:P) (l:List P):(x::l).map fz=fz x::l.map fz:=rfl
theorem U4:([]:List P).map fz=[]:=rfl
theorem U5 (x:P) (l m:List P):(x::l)++m=x::(l++m):=rfl
theorem U6 (m:List P):[]++m=m:=rfl
theorem U7 (x:Ob) (l m:List Ob):(x::l)++m=x::(l++m):=rfl
theorem U8 (m:List Ob):[]++m=m:=rfl
theorem gd0 (x:P) (l:List P) (d:P):(x::l).getD 0 d=x:=rfl
theorem gds (x:P) (l:List P) (n:Nat) (d:P):(x::l).getD (n+1) d=l.getD n d:=rfl
end
end Go.AM.PV
namespace Go.AM.PV
open Go Go.AM Go.AM.SX
section
variable {β:List Nat} {S:Nat->Prop} {h:T AObj} {A:St}
theorem RepT.noObj {v:Value} {p:P} {g:List Nat} (r:RepT β S A v p g) (hk:okm 0 p=true) (β':List Nat):RepT β' S A v p g:=by
 have:=r.trunc hk
 exact this.mono (fun _ h=>h) (fun _ _=>rfl) (fun i b hi=>by simp at hi) (Nat.le_refl _) fun _ _=>rfl
inductive Ren (i:Nat):P->P->Prop where
 | lp (off:Nat):Ren i (.lp 0 off) (.lp i off)
 | ms (off n c:Nat):Ren i (.ms 0 off n c) (.ms i off n c)
 | no (p:P):okm 0 p=true->Ren i p p
inductive RenL (i:Nat):List P->List P->Prop where
 | nil:RenL i [] []
 | cons (p q:P) (ps qs:List P):Ren i p q->RenL i ps qs->RenL i (p::ps) (q::qs)
theorem RepO.ren {i b:Nat} (hb:β[i]? = some b) {vs:List Value} {qs:List P} {gs:List Nat} (r:RepO β S A vs qs gs):∀ {ps:List P},RenL i ps qs->RepO [b] S A vs ps gs:=by
 induction r with
 | nil=>intro ps h;cases h;exact .nil
 | cons v q g vs qs gs h1 _ ih =>
  intro ps h
  cases h with
  | cons p _ ps _ hp hps =>
   refine .cons v p g vs ps gs ?_ (ih hps)
   cases hp with
   | lp off =>
    obtain ⟨h2,rfl⟩:=h1
    cases h2 with
    | lp _ c _ hc =>
     rw [hb] at hc;cases hc
     exact ⟨.lp 0 b off rfl,rfl⟩
   | ms off n c =>
    obtain ⟨h2,rfl⟩:=h1
    cases h2 with
    | ms _ c _ _ _ hc =>
     rw [hb] at hc;cases hc
     exact ⟨.ms 0 b off n c rfl,rfl⟩
   | no _ hk=>exact h1.noObj hk [b]
end
section
variable {E:Env} {gl:List GRow}
theorem PR.frameS {f:FuncId} {ps:List P} {r:P} (h:PR E gl f ps [] r []) (hk:okm.okL 0 ps=true) {μ:Mu} {A:St} {β:List Nat} {S:Nat->Prop} {vs:List Value} {gs gm:List Nat} (R:RS gl A β S noF vs ps gs μ gm) :
  ∃ v B S' gs',(∀ b,b < A.next->B.h.get b=A.h.get b)/\cP E f vs A v B/\Ext μ.length A β S noF gs gm B β S' gs' gm/\RS gl B β S' noF [v] [r] gs' μ gm:=by
 have hlen:=R.objs.length
 have hv:RepO [] S A vs ps gs:=by
  have:=R.vars.trunc hk
  exact this
 have R0:RS gl A [] S noF vs ps gs [] [] :=
  ⟨R.S_lt,(fun _ h=>by cases h),fun _ h=>h.elim,(fun _ h=>by cases h),fun _ h=>h.elim,fun _ h=>h.elim,fun _ h=>h.elim,List.nodup_nil,R.ginv,R.glob,hv,.nil,by rw [List.append_nil];exact (List.nodup_append.1 R.nd).1⟩
 obtain ⟨v,B,β',S',gs',gm',h1,h2,h3⟩:=h A [] S vs gs [] R0
 have hβ':β'=[]:=List.length_eq_zero_iff.1 (by rw [h3.objs.length];rfl)
 subst hβ'
 have hgm':gm'=[]:=by have:=h3.objs;cases this;rfl
 subst hgm'
 have hh:∀ b,b < A.next->B.h.get b=A.h.get b:=fun b hb=>h2.keep.heap b hb fun e=>by
  rcases e with e | e
  ·cases e
  ·exact e.elim
 have hn:=h2.keep.next
 have hgsm:∀ k,k∈gm->k ∉ gs:=fun k hk he=>(List.nodup_append.1 R.nd).2.2 k he k hk rfl
 have hgk:∀ k,k < A.next->k ∉ gs->B.g.get k=A.g.get k:=fun k hk hg=>h2.keep.grps k hk fun e=>by
  rcases e with e | e
  ·rw [List.append_nil] at e;exact hg e
  ·exact e.elim
 have hnewg:∀ k,k∈gs'->k∈gs\/A.next<=k:=fun k hk=>by
  rcases h2.newg k (by rw [List.append_nil];exact hk) with e | e | e
  ·rw [List.append_nil] at e;exact .inl e
  ·exact .inr e
  ·exact e.elim
 refine ⟨v,B,S',gs',hh,h1,⟨⟨hn,fun b hb _=>hh b hb,fun k hk hG=>hgk k hk fun e=>hG (.inl (List.mem_append_left _ e))⟩,fun _ _=>rfl,fun _ h=>.inl h,h2.oldS,h2.newS,fun k hk=>?_⟩,?_⟩
 ·rcases List.mem_append.1 hk with e | e
  ·rcases hnewg k e with e | e
   ·exact .inl (List.mem_append_left _ e)
   ·exact .inr (.inl e)
  ·exact .inl (List.mem_append_right _ e)
 ·refine ⟨h3.S_lt,fun b hb=>Nat.lt_of_lt_of_le (R.β_lt b hb) hn,fun _ h=>h.elim,fun b hb hs=>?_,fun _ h=>h.elim,fun _ h=>h.elim,fun _ h=>h.elim,R.β_nd,h3.ginv,h3.glob,?_,?_,?_⟩
  ·rcases h2.newS b hs with e | e | e
   ·exact R.β_S b hb e
   ·exact absurd (R.β_lt b hb) (by omega)
   ·exact e.elim
  ·exact h3.vars.mono (fun _ h=>h) (fun _ _=>rfl) (fun i b hi=>by simp at hi) (Nat.le_refl _) fun _ _=>rfl
  ·exact R.objs.mono h2.oldS (fun b hb=>hh b (R.S_lt b hb)) (fun _ _ h=>h) hn (fun b hb=>hh b (R.β_lt b hb)) fun k hk=>hgk k (R.objs.glt k hk) (hgsm k hk)
  ·have hnd3:=h3.nd
   rw [List.append_nil] at hnd3
   rw [List.nodup_append]
   refine ⟨hnd3,(List.nodup_append.1 R.nd).2.1,fun x hx y hy e=>?_⟩
   subst e
   rcases hnewg x hx with e | e
   ·exact hgsm x hy e
   ·exact absurd (R.objs.glt x hy) (by omega)
theorem PR.frame {f:FuncId} {ps:List P} {r:P} (h:PR E gl f ps [] r []) (hk:okm.okL 0 ps=true) (μ:Mu):PR E gl f ps μ r μ:=by
 intro A β S vs gs gm R
 obtain ⟨v,B,S',gs',_,h1,h2,h3⟩:=h.frameS hk R
 exact ⟨v,B,β,S',gs',gm,h1,h2,h3⟩
end
end Go.AM.PV
namespace Go.AM.PV
open Go Go.AM Go.AM.SX
section
variable {β:List Nat} {S S':Nat->Prop} {A B:St}
theorem RepO.noOw {vs:List Value} {l:List P} {g:List Nat} (r:RepO β S A vs l g) (h:∀ p,p∈l->PV.fz p=p):g=[]:=by
 induction r with
 | nil=>rfl
 | cons v p g vs ps gs h1 _ ih =>
  have e1:g=[]:=by
   have hp:=h p (by simp)
   cases p with
   | ow e sz n l=>cases hp
   | _=>exact h1.2
  rw [e1,ih fun q hq=>h q (by simp [hq])];rfl
theorem Cel.uniq {b:Nat} {vs vs':List Value} {w w':Row} (h:Cel A b vs w) (k:Cel A b vs' w'):w=w':=by
 have:=h.at_.symm.trans k.at_;cases this;rfl
theorem MemR.swap (hSS:∀ b,S b->S' b) (hS:∀ b,S b->B.h.get b=A.h.get b) (hn:A.next<=B.next) {vs':List Value} {w w':Row} {l l':List P} {b:Nat} {vs:List Value} (hw:Cel A b vs w) (hw':Cel B b vs' w') (hr:RepO β S' B vs' l' []) (hno:∀ p,p∈l->fz p=p)
  {bs:List Nat} {μ:Mu} {gm:List Nat} (r:MemR β S A bs μ gm):∀ {i:Nat},bs.Nodup->gm.Nodup->bs[i]? = some b->μ[i]? = some (.cells l)->(∀ c,c∈bs->c≠b->B.h.get c=A.h.get c)->(∀ k,k∈gm->k≠w.grp->B.g.get k=A.g.get k) ->
  w.grp∈gm/\∃ gm2,MemR β S' B bs (μ.set i (.cells l')) gm2/\(w.grp::gm2).Perm (w'.grp::gm):=by
 induction r with
 | nil=>intro i _ _ h;simp at h
 | cons b0 w0 vs0 l0 g bs ls gs h1 h2 hrs ih =>
  intro i hnb hng hb hl hh hg
  rw [List.nodup_cons] at hnb
  rw [List.nodup_append] at hng
  cases i with
  | zero =>
   simp only [List.getElem?_cons_zero,Option.some.injEq,Ob.cells.injEq] at hb hl
   subst hb;subst hl
   have e:=h1.uniq hw
   subst e
   have eg:=h2.noOw hno
   subst eg
   refine ⟨by simp,[w'.grp]++gs,.cons b0 w' vs' l' [] bs ls gs hw' hr (hrs.mono hSS hS (fun _ _ h=>h) hn (fun c hc=>hh c (by simp [hc]) fun e=>hnb.1 (e ▸ hc)) fun k hk=>hg k (by simp [hk]) fun e=>?_),?_⟩
   ·subst e;exact hng.2.2 _ (by simp) _ hk rfl
   ·simp only [List.cons_append,List.nil_append]
    exact List.Perm.swap _ _ _
  | succ i =>
   simp only [List.getElem?_cons_succ] at hb hl
   have hne:b0≠b:=fun e=>hnb.1 (e ▸ (List.mem_of_getElem? hb))
   obtain ⟨e1,gm2,e2,e3⟩:=ih (i:=i) hnb.2 hng.2.1 hb hl (fun c hc hne=>hh c (by simp [hc]) hne) fun k hk hne=>hg k (by simp [hk]) hne
   have hk0:∀ k,k∈w0.grp::g->B.g.get k=A.g.get k:=fun k hk=>hg k (List.mem_append_left _ hk) fun e=>hng.2.2 k hk w.grp e1 e
   refine ⟨List.mem_append_right _ e1,(w0.grp::g)++gm2,.cons b0 w0 vs0 l0 g bs _ gm2 (h1.mono (hh b0 (by simp) hne) (hk0 _ (by simp)) hn) (h2.mono hSS hS (fun _ _ h=>h) hn fun k hk=>hk0 k (by simp [hk])) e2,?_⟩
   calc (w.grp::((w0.grp::g)++gm2)).Perm ((w0.grp::g)++(w.grp::gm2)):=List.perm_middle.symm
     _ |>.Perm ((w0.grp::g)++(w'.grp::gs)):=e3.append_left _
     _ |>.Perm (w'.grp::((w0.grp::g)++gs)):=List.perm_middle
 | sit b0 s0 pos0 bs ls gs h1 hrs ih =>
  intro i hnb hng hb hl hh hg
  rw [List.nodup_cons] at hnb
  cases i with
  | zero=>simp at hl
  | succ i =>
   simp only [List.getElem?_cons_succ] at hb hl
   have hne:b0≠b:=fun e=>hnb.1 (e ▸ (List.mem_of_getElem? hb))
   obtain ⟨e1,gm2,e2,e3⟩:=ih (i:=i) hnb.2 hng hb hl (fun c hc hne=>hh c (by simp [hc]) hne) hg
   exact ⟨e1,gm2,.sit b0 s0 pos0 bs _ gm2 ((hh b0 (by simp) hne).trans h1) e2,e3⟩
theorem RepO.noObj {vs:List Value} {ps:List P} {gs:List Nat} (r:RepO β S A vs ps gs) (hk:okm.okL 0 ps=true) (β':List Nat):RepO β' S A vs ps gs:=by
 have:=r.trunc hk
 exact this.mono (fun _ h=>h) (fun _ _=>rfl) (fun i b hi=>by simp at hi) (Nat.le_refl _) fun _ _=>rfl
end
section
variable {E:Env} {gl:List GRow}
theorem PR.frame1 {f:FuncId} {ps qs:List P} {r:P} {l l':List P} {i:Nat} {μ:Mu} (h:PR E gl f ps [.cells l] r [.cells l']) (hren:RenL i ps qs) (hk:okm 0 r=true) (hl:okm.okL 0 l=true) (hl':okm.okL 0 l'=true) (hno:∀ p,p∈l->fz p=p) (hno':∀ p,p∈l'->fz p=p)
  (hi:μ[i]? = some (.cells l)):PR E gl f qs μ r (μ.set i (.cells l')):=by
 intro A β S vs gs gm R
 have hlen:=R.objs.length
 obtain ⟨b,hb⟩:∃ b,β[i]? = some b:=⟨β[i]'(by rw [hlen];exact (List.getElem?_eq_some_iff.1 hi).1),List.getElem?_eq_getElem _⟩
 have hbm:b∈β:=List.mem_of_getElem? hb
 obtain ⟨w,ws,g,hw,hws,hwg⟩:=R.objs.at hb hi
 have eg:=hws.noOw hno
 subst eg
 have hwgm:w.grp∈gm:=hwg _ (by simp)
 have hnd0:=List.nodup_append.1 R.nd
 have hwgs:w.grp ∉ gs:=fun e=>hnd0.2.2 _ e _ hwgm rfl
 have R0:RS gl A [b] S noF vs ps gs [.cells l] [w.grp] :=
  ⟨R.S_lt,(fun c hc=>by simp only [List.mem_singleton] at hc;subst hc;exact R.β_lt _ hbm),fun _ h=>h.elim,(fun c hc=>by simp only [List.mem_singleton] at hc;subst hc;exact R.β_S _ hbm),fun _ h=>h.elim,fun _ h=>h.elim,fun _ h=>h.elim,by simp,R.ginv,R.glob,R.vars.ren hb hren,
   by simpa using MemR.cons b w ws l [] [] [] [] hw (hws.noObj hl [b]) .nil,by
    rw [List.nodup_append]
    exact ⟨hnd0.1,by simp,fun x hx y hy e=>by simp only [List.mem_singleton] at hy;subst hy;subst e;exact hwgs hx⟩⟩
 obtain ⟨v,B,β',S',gs',gm',h1,h2,h3⟩:=h A [b] S vs gs [w.grp] R0
 have hβ':β'=[b]:=by
  have e1:β'.length=1:=by rw [h3.objs.length];rfl
  have e2:=h2.objs 0 (by simp)
  match β',e1,e2 with
  | [c],_,e2=>simpa using e2
 subst hβ'
 have hn:=h2.keep.next
 have hh:∀ c,c < A.next->c≠b->B.h.get c=A.h.get c:=fun c hc hne=>h2.keep.heap c hc fun e=>by
  rcases e with e | e
  ·simp only [List.mem_singleton] at e;exact hne e
  ·exact e.elim
 have hgk:∀ k,k < A.next->k ∉ gs->k≠w.grp->B.g.get k=A.g.get k:=fun k hk h4 h5=>h2.keep.grps k hk fun e=>by
  rcases e with e | e
  ·rcases List.mem_append.1 e with e | e
   ·exact h4 e
   ·simp only [List.mem_singleton] at e;exact h5 e
  ·exact e.elim
 obtain ⟨w',ws',hw',hws',hgm'⟩:∃ w' ws',Cel B b ws' w'/\RepO [b] S' B ws' l' []/\gm'=[w'.grp]:=by
  have:=h3.objs
  cases this with
  | cons _ w' ws' _ g' _ _ gs1 k1 k2 k3 =>
   have e:=k2.noOw hno'
   subst e
   cases k3
   exact ⟨w',ws',k1,k2,rfl⟩
 subst hgm'
 have hS:∀ c,S c->B.h.get c=A.h.get c:=fun c hc=>hh c (R.S_lt c hc) fun e=>R.β_S b hbm (e ▸ hc)
 obtain ⟨_,gm2,e2,e3⟩:=MemR.swap (S':=S') h2.oldS hS hn hw hw' (hws'.noObj hl' β) hno R.objs (i:=i) R.β_nd hnd0.2.1 hb hi (fun c hc hne=>hh c (R.β_lt c hc) hne) fun k hk hne=>hgk k (R.objs.glt k hk) (fun e=>hnd0.2.2 k e k hk rfl) hne
 have hnewg:∀ k,k∈gs'++[w'.grp]->k∈gs++[w.grp]\/A.next<=k:=fun k hk=>by
  rcases h2.newg k hk with e | e | e
  ·exact .inl e
  ·exact .inr e
  ·exact e.elim
 have hw'1:w'.grp∈gs++[w.grp]\/A.next<=w'.grp:=hnewg _ (by simp)
 have h3nd:=List.nodup_append.1 h3.nd
 have hgm2:∀ k,k∈gm2->k=w'.grp\/(k∈gm/\k≠w.grp):=by
  have hndp:(w'.grp::gm).Perm (w.grp::gm2):=e3.symm
  intro k hk
  by_cases hkw:k=w'.grp
  ·exact .inl hkw
  ·right
   have:k∈w'.grp::gm:=hndp.symm.subset (List.mem_cons_of_mem _ hk)
   rcases List.mem_cons.1 this with e | e
   ·exact absurd e hkw
   ·refine ⟨e,fun ek=>?_⟩
    have hc:(w.grp::gm2).count k=(w'.grp::gm).count k:=e3.count_eq k
    rw [<- ek,List.count_cons_self,List.count_cons_of_ne (Ne.symm hkw)] at hc
    have h1c:gm.count k<=1:=List.nodup_iff_count.1 hnd0.2.1 k
    have h2c:0 < gm2.count k:=List.count_pos_iff.2 hk
    omega
 have hgm2nd:gm2.Nodup:=by
  rw [List.nodup_iff_count]
  intro k
  have hc:(w.grp::gm2).count k=(w'.grp::gm).count k:=e3.count_eq k
  have h1c:gm.count k<=1:=List.nodup_iff_count.1 hnd0.2.1 k
  rw [List.count_cons,List.count_cons] at hc
  by_cases hk1:w'.grp=k
  ·by_cases hk2:w.grp=k
   ·simp [hk1,hk2] at hc;omega
   ·have h0:gm.count k=0:=by
     rw [List.count_eq_zero]
     intro hkm
     subst hk1
     rcases hw'1 with e | e
     ·rcases List.mem_append.1 e with e | e
      ·exact hnd0.2.2 _ e _ hkm rfl
      ·simp only [List.mem_singleton] at e;exact hk2 e.symm
     ·exact absurd (R.objs.glt _ hkm) (by omega)
    simp [hk1,hk2,h0] at hc;omega
  ·by_cases hk2:w.grp=k
   ·simp [hk1,hk2] at hc;omega
   ·simp [hk1,hk2] at hc;omega
 refine ⟨v,B,β,S',gs',gm2,h1,⟨⟨hn,fun c hc hM=>hh c hc fun e=>hM (.inl (e ▸ hbm)),fun k hk hG=>hgk k hk (fun e=>hG (.inl (List.mem_append_left _ e))) fun e=>hG (.inl (List.mem_append_right _ (e ▸ hwgm)))⟩,fun _ _=>rfl,fun _ h=>.inl h,h2.oldS,h2.newS,fun k hk=>?_⟩,?_⟩
 ·rcases List.mem_append.1 hk with e | e
  ·rcases hnewg k (List.mem_append_left _ e) with e | e
   ·rcases List.mem_append.1 e with e | e
    ·exact .inl (List.mem_append_left _ e)
    ·simp only [List.mem_singleton] at e;exact .inl (List.mem_append_right _ (e ▸ hwgm))
   ·exact .inr (.inl e)
  ·rcases hgm2 k e with e | e
   ·subst e
    rcases hw'1 with e | e
    ·rcases List.mem_append.1 e with e | e
     ·exact .inl (List.mem_append_left _ e)
     ·simp only [List.mem_singleton] at e;exact .inl (List.mem_append_right _ (e ▸ hwgm))
    ·exact .inr (.inl e)
   ·exact .inl (List.mem_append_right _ e.1)
 ·refine ⟨h3.S_lt,fun c hc=>Nat.lt_of_lt_of_le (R.β_lt c hc) hn,fun _ h=>h.elim,fun c hc hs=>?_,fun _ h=>h.elim,fun _ h=>h.elim,fun _ h=>h.elim,R.β_nd,h3.ginv,h3.glob,?_,e2,?_⟩
  ·rcases h2.newS c hs with e | e | e
   ·exact R.β_S c hc e
   ·exact absurd (R.β_lt c hc) (by omega)
   ·exact e.elim
  ·have:=h3.vars
   cases this with
   | cons _ _ g _ _ gs1 k1 k2 =>
    cases k2
    exact .cons _ _ _ _ _ _ (k1.noObj hk β) .nil
  ·rw [List.nodup_append]
   refine ⟨h3nd.1,hgm2nd,fun x hx y hy e=>?_⟩
   subst e
   rcases hgm2 x hy with e | ⟨e,ene⟩
   ·subst e;exact h3nd.2.2 _ hx _ (by simp) rfl
   ·rcases hnewg x (List.mem_append_left _ hx) with e' | e'
    ·rcases List.mem_append.1 e' with e' | e'
     ·exact hnd0.2.2 _ e' _ e rfl
     ·simp only [List.mem_singleton] at e';exact ene e'
    ·exact absurd (R.objs.glt x e) (by omega)
end
end Go.AM.PV
namespace Go.AM.PV
open Go Go.AM Go.AM.SX
structure Ls where
 nv:Nat
 ex:List Nat
 off:Bool
def Ls.kn (ls:Ls) (k:Nat):Bool:=!ls.off&&(Nat.blt k ls.nv||ls.ex.any (Nat.beq k))
def Ls.knX (ls:Ls):X->Bool
 | .at (.v _)=>true
 | .at (.n k)=>ls.kn k
 | _=>false
def pU (xs:List X) (nv:Nat) (ls:Ls):Ls :=
 match xs.all ls.knX with
 | true=>{ ls with ex:=nv::ls.ex }
 | false=>ls
def eU (xs:List X) (nv:Nat) (L:List Ls):List Ls:=L.map (pU xs nv)
def cB (L:List Ls):List Ls:=L.map fun _=>{ nv:=0,ex:=[],off:=true }
def newS (nv:Nat):Ls:={ nv,ex:=[],off:=false }
abbrev En:=List (R×List X×Nat)
def je:X->Bool
 | .at _=>true
 | _=>false
def fM (r:R) (xs:List X) (nv:Nat) (C:En):En :=
 match xs.all je&&xs.all (X.ok nv) with
 | true=>(r,xs,nv)::C
 | false=>C
def eV:R->Bool
 | .idStr | .bin _ | .beq _ | .not | .neg | .conv _ | .runeStr | .nilc | .fld _ | .field _ _ | .idxA _ | .idxP _ _ | .idxS | .lenL | .lenS | .subS _ _ | .ext _ | .tup | .mm _ | .eqn _ _ | .ta _ _ _ | .build _ _=>true
 | _=>false
def dv:R->List P->Bool
 | .load _,[.lp _ _]=>true
 | _,_=>false
def lh:List Value->List Value->Bool
 | [],[]=>true
 | v::l,w::m=>veq 40 v w&&lh l m
 | _,_=>false
theorem wD:∀ {l m:List Value},lh l m=true->l=m
 | [],[],_=>rfl
 | v::l,w::m,h=>by
  simp only [lh,Bool.and_eq_true] at h
  rw [gQ 40 v w h.1,wD h.2]
 | [],_::_,h=>by cases h
 | _::_,[],h=>by cases h
def eqR:R->R->Bool
 | .bin a,.bin b=>decide (a=b)
 | .beq a,.beq b=>decide (a=b)
 | .not,.not=>true
 | .neg,.neg=>true
 | .idStr,.idStr=>true
 | .runeStr,.runeStr=>true
 | .toStr,.toStr=>true
 | .lenL,.lenL=>true
 | .lenS,.lenS=>true
 | .idxS,.idxS=>true
 | .nilc,.nilc=>true
 | .tup,.tup=>true
 | .conv a,.conv b=>decide (a=b)
 | .load a,.load b=>decide (a=b)
 | .fld a,.fld b=>decide (a=b)
 | .field a b,.field c d=>decide (a=c)&&decide (b=d)
 | .idxA a,.idxA b=>decide (a=b)
 | .idxP a b,.idxP c d=>decide (a=c)&&decide (b=d)
 | .subS a b,.subS c d=>decide (a=c)&&decide (b=d)
 | .subL n a b c,.subL n' a' b' c'=>decide (n=n')&&decide (a=a')&&decide (b=b')&&decide (c=c')
 | .ext a,.ext b=>decide (a=b)
 | .mm a,.mm b=>decide (a=b)
 | .build z p,.build z' p'=>lh z z'&&decide (p=p')
 | .ta t z o,.ta t' z' o'=>decide (t=t')&&veq 40 z z'&&decide (o=o')
 | _,_=>false
theorem U9 {a b:R} (h:eqR a b=true):a=b:=by
 cases a <;> cases b <;> first
  | rfl
  | (cases h;done)
  | (simp only [eqR,decide_eq_true_eq,Bool.and_eq_true] at h
     first
     | (rw [wD h.1,h.2])
     | (rw [h.1.1,gQ 40 _ _ h.1.2,h.2])
     | (subst h;rfl)
     | (obtain ⟨h1,h2⟩:=h;subst h1;subst h2;rfl)
     | (obtain ⟨⟨⟨h1,h2⟩,h3⟩,h4⟩:=h;subst h1;subst h2;subst h3;subst h4;rfl))
def lj:List X->List X->Bool
 | [],[]=>true
 | x::l,y::m=>x.same y&&lj l m
 | _,_=>false
theorem wE:∀ {l m:List X},lj l m=true->l=m
 | [],[],_=>rfl
 | x::l,y::m,h=>by
  simp only [lj,Bool.and_eq_true] at h
  rw [X.same_eq h.1,wE h.2]
def pV (C:En) (r:R) (xs:List X) (j:Nat):Bool:=C.any fun e=>eqR e.1 r&&(lj e.2.1 xs&&Nat.beq e.2.2 j)
theorem wF {C:En} {r:R} {xs:List X} {j:Nat} (h:pV C r xs j=true):(r,xs,j)∈C:=by
 unfold pV at h
 rw [List.any_eq_true] at h
 obtain ⟨⟨r',xs',j'⟩,h1,h2⟩:=h
 simp only [Bool.and_eq_true] at h2
 obtain ⟨e1,e2,e3⟩:=h2
 rw [<- U9 e1,<- wE e2,<- Nat.eq_of_beq_eq_true e3]
 exact h1
def fN (n:Nat):N->Bool
 | .bad=>true
 | .fin _ xs=>Nat.beq xs.length n
 | .op _ _ k | .opAt _ _ _ _ k | .call _ _ k | .callv _ _ k | .callm _ _ _ k | .loop _ _ k | .bump _ k | .save k | .self _ k | .chk _ _ _ _ k=>fN n k
 | .br _ a b | .sw _ _ a b=>fN n a&&fN n b
def okT:N->Nat->List Ls->En->Bool
 | .bad,_,_,_=>true
 | .fin _ _,_,_,_=>true
 | .op r xs k,nv,L,C=>match r with
  | .store _ | .next _ | .app _ _ _ | .alloc _ _ | .box _ | .newSl _ _ _ | .mkSl _ _ _ | .toBytes _ | .range _=>okT k (nv+1) L C
  | r=>okT k (nv+1) (eU xs nv L) (fM r xs nv C)
 | .opAt _ _ _ _ k,nv,L,C=>okT k (nv+1) L C
 | .br _ a b,nv,L,C=>okT a nv L C&&okT b nv L C
 | .call _ _ k,nv,L,C | .callv _ _ k,nv,L,C | .callm _ _ _ k,nv,L,C=>okT k (nv+1) L C
 | .loop xs body k,nv,L,_=>fN xs.length body&&(okT body (nv+xs.length) (cB L) []&&okT k (nv+1+xs.length) (cB L) [])
 | .sw _ _ a b,nv,L,C=>okT a nv L C&&okT b nv L C
 | .bump _ k,nv,L,_=>okT k (nv+1) (cB L) []
 | .save k,nv,L,C=>okT k nv (L++[newS nv]) C
 | .self _ k,nv,L,C=>okT k nv L C
 | .chk i r xs x k,nv,L,C=>(match x with
  | .at (.n j)=>pV C r xs j&&(match L[i]? with
   | some ls=>eV r||(!ls.off&&xs.all ls.knX)
   | none=>false)
  | _=>false)&&okT k nv L C
def bO:N->Bool
 | .chk _ r _ _ k=>eV r&&bO k
 | .bad | .fin _ _ | .bump _ _ | .loop _ _ _=>true
 | .op _ _ k | .opAt _ _ _ _ k | .call _ _ k | .callv _ _ k | .callm _ _ _ k | .save k | .self _ k=>bO k
 | .br _ a b | .sw _ _ a b=>bO a&&bO b
theorem wG {L M:List Ls} (h:L.length=M.length):cB L=cB M:=by
 unfold cB
 induction L generalizing M with
 | nil=>cases M with
  | nil=>rfl
  | cons _ _=>cases h
 | cons x L ih=>cases M with
  | nil=>cases h
  | cons y M=>simp only [List.map_cons,ih (by simpa using h)]
theorem cO:∀ (T:N) {nv:Nat} {L M:List Ls} {C:En},bO T=true->L.length=M.length->okT T nv L C=true->okT T nv M C=true
 | .bad,_,_,_,_,_,_,_=>rfl
 | .fin _ _,_,_,_,_,_,_,_=>rfl
 | .op r xs k,nv,L,M,C,hn,hl,h=>by
  have hn':bO k=true:=hn
  cases r <;> first
   | exact cO k hn' hl h
   | exact cO k hn' (by simp [eU,hl]) h
 | .opAt _ _ _ _ k,_,_,_,_,hn,hl,h=>cO k (by simpa only [bO] using hn) hl h
 | .br _ a b,_,_,_,_,hn,hl,h=>by
  simp only [bO,okT,Bool.and_eq_true] at hn h ⊢
  exact ⟨cO a hn.1 hl h.1,cO b hn.2 hl h.2⟩
 | .call _ _ k,_,_,_,_,hn,hl,h=>cO k (by simpa only [bO] using hn) hl h
 | .callv _ _ k,_,_,_,_,hn,hl,h=>cO k (by simpa only [bO] using hn) hl h
 | .callm _ _ _ k,_,_,_,_,hn,hl,h=>cO k (by simpa only [bO] using hn) hl h
 | .loop xs body k,_,_,_,_,_,hl,h=>by
  simp only [okT] at h ⊢
  rw [<- wG hl];exact h
 | .sw _ _ a b,_,_,_,_,hn,hl,h=>by
  simp only [bO,okT,Bool.and_eq_true] at hn h ⊢
  exact ⟨cO a hn.1 hl h.1,cO b hn.2 hl h.2⟩
 | .bump _ k,_,_,_,_,_,hl,h=>by
  simp only [okT] at h ⊢
  rw [<- wG hl];exact h
 | .save k,_,_,_,_,hn,hl,h=>cO k (by simpa only [bO] using hn) (by simp [hl]) h
 | .self _ k,_,_,_,_,hn,hl,h=>cO k (by simpa only [bO] using hn) hl h
 | .chk i r xs x k,nv,L,M,C,hn,hl,h=>by
  simp only [bO,Bool.and_eq_true] at hn
  simp only [okT,Bool.and_eq_true] at h ⊢
  refine ⟨?_,cO k hn.2 hl h.2⟩
  have h1:=h.1
  cases x <;> first
   | (cases h1;done)
   | skip
  rename_i a
  cases a <;> first
   | (cases h1;done)
   | skip
  rename_i j
  simp only [Bool.and_eq_true] at h1 ⊢
  refine ⟨h1.1,?_⟩
  have h2:=h1.2
  cases hL:L[i]? with
  | none=>rw [hL] at h2;cases h2
  | some ls =>
   have hi:i < M.length:=by rw [<- hl];exact (List.getElem?_eq_some_iff.1 hL).1
   rw [List.getElem?_eq_getElem hi]
   simp only [hn.1,Bool.true_or]
section
variable (E:Env) (gl:List GRow)
def pz:N->Nat->Rv->Bool->List Nat->List P->Mu->aW->Prop
 | .bad,_,_,_,_,_,_,_=>False
 | .fin o xs,m,_,_,_,ps,μ,Q=>∃ as ps' outs,takeL ps xs=some (as,ps')/\LeL as outs/\(Q o outs μ\/∃ k,m<=k/\okm.okL k outs=true/\okM k (μ.take k)=true/\Q o outs (μ.take k))
 | .op r xs k,m,rv,d,hs,ps,μ,Q =>
  match r with
  | .store n=>∃ i off p ps' l,takeL ps xs=some ([.lp i off,p],ps')/\μ[i]? = some (.cells l)/\(aX p).length=n/\(aX p).all bz=true/\off+n<=l.length/\pz k m rv true hs (ps'++[.c undef]) (μ.set i (.cells (cZ l off (aX p)))) Q
  | .app e i z=>∃ p q ps' a,takeL ps xs=some ([p,q],ps')/\iL e i z p (fz q)=some a/\pz k m rv d hs (ps'++[a]) μ Q
  | .load n=>(∃ as p,denF ps xs=some as/\aS (.load n) as=some p/\pz k m rv d hs (ps++[p]) μ Q) \/
    (∃ i off p,denF ps xs=some [.lp i off]/\cA μ n i off=some p/\(d=false\/bO k=true)/\pz k m rv d hs (ps++[fz p]) μ Q) \/
    (∃ i off l p,n=none/\denF ps xs=some [.lp i off]/\μ[i]? = some (.cells l)/\l[off]? = some p/\(d=false\/bO k=true)/\pz k m rv d hs (ps++[p]) (μ.set i (.cells (l.set off (fz p)))) Q)
  | .alloc t z=>∃ as p μ',denF ps xs=some as/\bH (.alloc t z) as μ=some (p,μ')/\pz k m rv d hs (ps++[p]) μ' Q
  | .box t=>∃ as p μ',denF ps xs=some as/\bH (.box t) as μ=some (p,μ')/\pz k m rv d hs (ps++[p]) μ' Q
  | .newSl t z pl=>∃ as p μ',denF ps xs=some as/\bH (.newSl t z pl) as μ=some (p,μ')/\pz k m rv d hs (ps++[p]) μ' Q
  | .mkSl t z b=>∃ as p μ',denF ps xs=some as/\bH (.mkSl t z b) as μ=some (p,μ')/\pz k m rv d hs (ps++[p]) μ' Q
  | .toBytes _=>∃ s,denF ps xs=some [.c (.string s)]/\pz k m rv d hs (ps++[.sl 1 s.size (s.data.toList.map fun b=>.c (.int .u8 b.toNat))]) μ Q
  | .range str=>∃ s,str=true/\denF ps xs=some [.c (.string s)]/\pz k m rv d hs (ps++[.lp μ.length 0]) (μ++[.sit s 0]) Q
  | .next str=>∃ i s pos,str=true/\denF ps xs=some [.lp i 0]/\μ[i]? = some (.sit s pos) /\
    (pos < s.size->pz k m rv true hs (ps++[.tup [.c (.bool true),.c (goInt pos),.c (.int .i32 (Utf8.decode s pos).1)]]) (μ.set i (.sit s (pos+(Utf8.decode s pos).2))) Q) /\
    (s.size<=pos->pz k m rv true hs (ps++[.tup [.c (.bool false)]]) μ Q)
  | r=>∃ as p,denF ps xs=some as/\aS r as=some p/\pz k m rv d hs (ps++[p]) μ Q
 | .opAt b off r xs k,m,rv,d,hs,ps,μ,Q=>∃ n us as p μ',rv=some (b,n,us)/\off < n/\off ∉ us/\denF ps xs=some as/\bH r as μ=some (p,μ')/\pz k m (some (b,n,off::us)) d hs (ps++[p]) μ' Q
 | .br x a b,m,rv,d,hs,ps,μ,Q=>∃ t,denF ps [x]=some [.c (.bool t)]/\(t=true->pz a m rv d hs ps μ Q)/\(t=false->pz b m rv d hs ps μ Q)
 | .call f xs k,m,rv,_d,hs,ps,μ,Q =>
  (∃ as r μ',denF ps xs=some as/\PR E gl f as μ r μ'/\μ.length<=μ'.length/\pz k m rv true hs (ps++[r]) μ' Q) \/
  (∃ as ps' r μ',takeL ps xs=some (as,ps')/\PR E gl f as μ r μ'/\μ.length<=μ'.length/\pz k m rv true hs (ps'++[r]) μ' Q) \/
  (∃ as r,denF ps xs=some as/\okm.okL 0 as=true/\PR E gl f as [] r []/\pz k m rv _d hs (ps++[r]) μ Q)
 | .callv f xs k,m,rv,_d,hs,ps,μ,Q=>∃ g cs as r μ',denF ps [f]=some [.fn g cs]/\(∃ fn,E.fn.get g=some fn/\fn.body.isSome=true)/\denF ps xs=some as/\PR E gl g (as++cs) μ r μ'/\μ.length<=μ'.length/\pz k m rv true hs (ps++[r]) μ' Q
 | .callm x name xs k,m,rv,_d,hs,ps,μ,Q=>∃ t p g as r μ',denF ps [x]=some [.ifc t p]/\(∀ A v ws,fe E A (.iface t v) name ws=some (.enter g (v::ws),A))/\denF ps xs=some as/\PR E gl g (p::as) μ r μ'/\μ.length<=μ'.length/\pz k m rv true hs (ps++[r]) μ' Q
 | .loop xs body k,m,_,_,hs,ps,μ,Q=>∃ as ps' n vs,takeL ps xs=some (as,ps')/\LeL as vs /\
   aQ (fun vs μ' Q'=>pz body μ.length none false hs (ps'.map fz++vs) μ' Q') (fun o outs μ'=>pz k m none false hs (ps'.map fz++.c (goInt o)::outs) μ' Q) n vs μ
 | .sw x c a b,m,rv,d,hs,ps,μ,Q=>∃ n,lY (ps.getD x .any)=some n/\(n=c->pz a m rv d hs ps μ Q)/\(n≠c->pz b m rv d hs ps μ Q)
 | .bump n k,m,_,_,hs,ps,μ,Q=>pz k m (some (ps.length,n,[])) false hs (ps++[.any]) μ Q
 | .save k,m,rv,d,hs,ps,μ,Q=>pz k m rv d (hs++[ps.length]) ps μ Q
 | .self x k,m,rv,d,hs,ps,μ,Q=>(∃ p,denF ps [x]=some [p]/\shal 40 p=true)/\pz k m rv d hs ps μ Q
 | .chk i r xs x k,m,rv,d,hs,ps,μ,Q=>((∃ p,denF ps [x]=some [p]/\shal 40 p=true)/\(eV r=true\/(∃ as,denF ps xs=some as/\dv r as=false)\/∃ nv j,hs[i]? = some nv/\x=vn j/\nv<=j))/\pz k m rv d hs ps μ Q
end
structure EnOk (A:St) (σ:Sg) (ps:List P) (r:R) (xs:List X) (j:Nat):Prop where
 lt:j < σ.length
 ok:∀ x,x∈xs->x.ok σ.length=true
 at_:xs.all je=true
 ml:eV r=true->∀ D,aB r (denL σ xs) D=some (SX.look σ j,D)
 mr:eV r=false->∃ as,denF ps xs=some as/\(dv r as=false->∃ p,aS r as=some p/\aB r (denL σ xs) A=some (SX.look σ j,A))
structure LogOk (β:List Nat) (S:Nat->Prop) (A:St) (σ:Sg) (d:Bool) (ps:List P) (μ:Mu) (ls:Ls) (C:En) (D:St) (nvi:Nat) (βi:List Nat) (Si:Nat->Prop) (dy:Bool) (mu:Mu):Prop where
 vp:∀ k,ls.kn k=true->k < ps.length/\Rep βi Si D.h (SX.look σ k) (fz (ps.getD k (.c undef)))
 sub:∀ b,Si b->S b
 ag:∀ b,Si b->A.h.get b=D.h.get b
 bsub:∀ b,b∈βi->b∈β
 dn:d=false->dy=false
 memh:dy=false->(∀ b,b∈βi->A.h.get b=D.h.get b)/\βi.length<=mu.length/\∀ (i:Nat) (ob:Ob),mu[i]? = some ob->(μ[i]?).map Ob.fz=some ob
 meml:∀ i off p n b,βi[i]? = some b->cA mu n i off=some p->∃ v,(∀ B:St,B.h.get b=D.h.get b->aB (.load n) [.pointer (some ⟨b,off,none⟩)] B=some (v,B))/\Rep βi Si D.h v (fz p)
 lp:∀ r xs j,(r,xs,j)∈C->nvi<=j->xs.all ls.knX=true->(∃ as,denF ps xs=some as/\dv r as=true)->aB r (denL σ xs) D=some (SX.look σ j,D)
structure LzR (β:List Nat) (S:Nat->Prop) (A:St) (σ:Sg) (d:Bool) (hs:List Nat) (ps:List P) (μ:Mu) (L:List Ls) (C:En) (H:List St):Prop where
 len:L.length=H.length
 lenh:L.length=hs.length
 en:∀ r xs j,(r,xs,j)∈C->EnOk A σ ps r xs j
 log:∀ (i:Nat) (ls:Ls) (D:St) (nvi:Nat),L[i]? = some ls->H[i]? = some D->hs[i]? = some nvi->ls.off=true\/∃ βi Si dy mu,LogOk β S A σ d ps μ ls C D nvi βi Si dy mu
theorem Ua {a:Option Nat} {f:Nat->Option Nat} {g:Nat->Nat->Value} {v:Value} {A B D:St} (hq:iM a f g A=some (v,B)):iM a f g D=some (v,D):=by
 unfold iM at hq ⊢
 cases a with
 | none=>cases hq
 | some x =>
  simp only at hq ⊢
  cases hf:f x with
  | none=>rw [hf] at hq;cases hq
  | some y=>rw [hf] at hq;cases hq;rfl
theorem Ub {lo hi:Bool} {vs:List Value} {v:Value} {A B:St} (h:aB (.subS lo hi) vs A=some (v,B)) (D:St):aB (.subS lo hi) vs D=some (v,D):=by
 cases vs with
 | nil=>cases h
 | cons x vs =>
  cases x <;> first
   | (cases h;done)
   | skip
  rename_i s
  exact Ua (a:=aL (if hi then (if lo then vs.tail.head? else vs.head?) else none) s.size s.size) (f:=fun h=>aL (if lo then vs.head? else none) h 0) (g:=fun l h=>.string (s.extract l h)) (A:=A) (B:=B) h
set_option maxHeartbeats 2000000 in
theorem Uc {r:R} (hm:eV r=true) {vs:List Value} {v:Value} {A B:St} (h:aB r vs A=some (v,B)) (D:St):aB r vs D=some (v,D):=by
 cases r <;> first
  | (cases hm;done)
  | exact Ub h D
  | skip
 all_goals
  unfold aB at h ⊢
  first
  | (split at h <;> first
    | (cases h;done)
    | (rename_i heq;cases heq;done)
    | (cases h;rfl)
    | skip)
 all_goals first
  | (repeat' (first
    | (cases h;done)
    | split at h)
     all_goals (first
       | (cases h;rfl)
       | (cases h;simp_all;done)))
section
variable {d:Bool} {hs:List Nat} {gl:List GRow} {β β':List Nat} {S S' F F':Nat->Prop} {A B:St} {σ σ':Sg} {ps ps':List P} {gs gs' gm gm':List Nat} {μ μ':Mu} {L:List Ls} {C:En} {H:List St} {D:St} {βi:List Nat} {Si:Nat->Prop}
theorem pW {ps:List P} {k:Nat} (h:k < ps.length) (qs:List P) (d:P):(ps++qs).getD k d=ps.getD k d:=by
 rw [List.getD_eq_getElem?_getD,List.getD_eq_getElem?_getD,List.getElem?_append_left h]
theorem gJ:∀ {xs:List X} {n:Nat},xs.all je=true->(∀ x,x∈xs->x.ok n=true)->n<=ps.length->∀ (qs:List P),denF (ps++qs) xs=denF ps xs
 | [],_,_,_,_,_=>rfl
 | x::xs,n,ha,ho,hn,qs=>by
  simp only [List.all_cons,Bool.and_eq_true] at ha
  have ih:=gJ ha.2 (fun y hy=>ho y (List.mem_cons_of_mem _ hy)) hn qs
  cases x <;> first
   | (cases ha.1;done)
   | skip
  rename_i a
  have e:bT (ps++qs) (.at a)=bT ps (.at a):=by
   cases a with
   | v y=>rfl
   | n k =>
    have hk:k < n:=Nat.le_of_ble_eq_true (ho (.at (.n k)) (List.mem_cons_self ..))
    simp only [bT,bG]
    rw [pW (by omega)]
  simp only [denF,e,ih]
theorem pX:∀ {xs:List X},xs.all je=true->(∀ k,fz (ps'.getD k (.c undef))=fz (ps.getD k (.c undef)))->denF ps' xs=denF ps xs
 | [],_,_=>rfl
 | x::xs,ha,hf=>by
  simp only [List.all_cons,Bool.and_eq_true] at ha
  have ih:=pX ha.2 hf
  cases x <;> first
   | (cases ha.1;done)
   | skip
  rename_i a
  cases a with
  | v y=>simp only [denF,bT,bG,ih]
  | n k =>
   simp only [denF,bT,bG,ih]
   cases denF ps xs with
   | none=>rfl
   | some l=>simp only [hf]
theorem EnOk.var (hl:ps.length=σ.length) {r:R} {xs:List X} {j:Nat} (h:EnOk A σ ps r xs j) (τ:Sg) (qs:List P):EnOk A (σ++τ) (ps++qs) r xs j:=by
 have e1:denL (σ++τ) xs=denL σ xs:=fW _ h.ok
 have e2:SX.look (σ++τ) j=SX.look σ j:=eB _ _ h.lt
 refine ⟨by rw [List.length_append];have:=h.lt;omega,fun x hx=>X.ok_mono (by rw [List.length_append];omega) (h.ok x hx),h.at_,?_,?_⟩
 ·rw [e1,e2];exact h.ml
 ·rw [e1,e2,gJ h.at_ h.ok (by omega)];exact h.mr
theorem EnOk.step {gs:List Nat} (hr:RepO β S A σ ps gs) {r:R} {xs:List X} {j:Nat} (h:EnOk A σ ps r xs j) (hS:∀ b,S b->B.h.get b=A.h.get b):EnOk B σ ps r xs j:=by
 refine ⟨h.lt,h.ok,h.at_,h.ml,fun hm=>?_⟩
 obtain ⟨as,h1,h2⟩:=h.mr hm
 refine ⟨as,h1,fun hlp=>?_⟩
 obtain ⟨p,h3,h4⟩:=h2 hlp
 obtain ⟨v,h5,h6⟩:=l5 (bU hr h1) h3
 have e:=h5 A fun _ _=>rfl
 rw [h4] at e
 cases e
 exact ⟨p,h3,h5 B hS⟩
theorem EnOk.pss {r:R} {xs:List X} {j:Nat} (h:EnOk A σ ps r xs j) (hf:∀ k,fz (ps'.getD k (.c undef))=fz (ps.getD k (.c undef))):EnOk A σ ps' r xs j :=
 ⟨h.lt,h.ok,h.at_,h.ml,fun hm=>by rw [pX h.at_ hf];exact h.mr hm⟩
theorem LzR.var (hl:ps.length=σ.length) (h:LzR β S A σ d hs ps μ L C H) (v:Value) (p:P):LzR β S A (σ++[v]) d hs (ps++[p]) μ L C H:=by
 refine ⟨h.len,h.lenh,fun r xs j he=>(h.en r xs j he).var hl [v] [p],fun i ls D nvi h1 h2 h3=>?_⟩
 rcases h.log i ls D nvi h1 h2 h3 with ho | ⟨βi,Si,dy,mu,k⟩
 ·exact .inl ho
 ·refine .inr ⟨βi,Si,dy,mu,{ k with vp:=fun j hk=>?_,lp:=fun r xs j he hj hx ha=>?_ }⟩
  ·obtain ⟨e1,e2⟩:=k.vp j hk
   exact ⟨by rw [List.length_append];omega,by rw [pW e1,eB _ _ (by omega)];exact e2⟩
  ·have hen:=h.en r xs j he
   rw [gJ hen.at_ hen.ok (by omega)] at ha
   rw [fW _ hen.ok,eB _ _ hen.lt]
   exact k.lp r xs j he hj hx ha
theorem LzR.step {gs:List Nat} (hr:RepO β S A σ ps gs) (h:LzR β S A σ d hs ps μ L C H) (hμ:∀ (i:Nat) (ob:Ob),μ[i]? = some ob->μ'[i]? = some ob) (hS:∀ b,S b->B.h.get b=A.h.get b) (hSS:∀ b,S b->S' b) (hβ:∀ b,b∈β->b∈β') (hb:∀ b,b∈β->B.h.get b=A.h.get b):LzR β' S' B σ d hs ps μ' L C H:=by
 refine ⟨h.len,h.lenh,fun r xs j he=>(h.en r xs j he).step hr hS,fun i ls D nvi h1 h2 h3=>?_⟩
 rcases h.log i ls D nvi h1 h2 h3 with ho | ⟨βi,Si,dy,mu,k⟩
 ·exact .inl ho
 ·refine .inr ⟨βi,Si,dy,mu,{ k with sub:=fun b hb=>hSS b (k.sub b hb),ag:=fun b hb=>(hS b (k.sub b hb)).trans (k.ag b hb),bsub:=fun b hb=>hβ b (k.bsub b hb),memh:=fun hd=>⟨fun b hbb=>(hb b (k.bsub b hbb)).trans ((k.memh hd).1 b hbb),(k.memh hd).2.1,fun i ob hi=>?_⟩ }⟩
  have:=(k.memh hd).2.2 i ob hi
  rw [Option.map_eq_some_iff] at this ⊢
  obtain ⟨ob',e1,e2⟩:=this
  exact ⟨ob',hμ i ob' e1,e2⟩
theorem LzR.dirty {gs:List Nat} (hr:RepO β S A σ ps gs) (h:LzR β S A σ d hs ps μ L C H) (μ':Mu) (hS:∀ b,S b->B.h.get b=A.h.get b) (hSS:∀ b,S b->S' b) (hβ:∀ b,b∈β->b∈β'):LzR β' S' B σ true hs ps μ' L C H:=by
 refine ⟨h.len,h.lenh,fun r xs j he=>(h.en r xs j he).step hr hS,fun i ls D nvi h1 h2 h3=>?_⟩
 rcases h.log i ls D nvi h1 h2 h3 with ho | ⟨βi,Si,dy,mu,k⟩
 ·exact .inl ho
 ·exact .inr ⟨βi,Si,true,mu,{ k with sub:=fun b hb=>hSS b (k.sub b hb),ag:=fun b hb=>(hS b (k.sub b hb)).trans (k.ag b hb),bsub:=fun b hb=>hβ b (k.bsub b hb),dn:=(fun hd=>by cases hd),memh:=(fun hd=>by cases hd) }⟩
theorem LzR.pss (h:LzR β S A σ d hs ps μ L C H) (hl:ps'.length=ps.length) (hf:∀ k,fz (ps'.getD k (.c undef))=fz (ps.getD k (.c undef))):LzR β S A σ d hs ps' μ L C H:=by
 refine ⟨h.len,h.lenh,fun r xs j he=>(h.en r xs j he).pss hf,fun i ls D nvi h1 h2 h3=>?_⟩
 rcases h.log i ls D nvi h1 h2 h3 with ho | ⟨βi,Si,dy,mu,k⟩
 ·exact .inl ho
 ·refine .inr ⟨βi,Si,dy,mu,{ k with vp:=fun j hk=>?_,lp:=fun r xs j he hj hx ha=>?_ }⟩
  ·obtain ⟨e1,e2⟩:=k.vp j hk
   exact ⟨by omega,by rw [hf];exact e2⟩
  ·rw [pX (h.en r xs j he).at_ hf] at ha
   exact k.lp r xs j he hj hx ha
theorem LzR.off (h:LzR β S A σ d hs ps μ L C H) (β':List Nat) (S':Nat->Prop) (B:St) (σ':Sg) (d':Bool) (ps':List P) (μ':Mu) {C':En} (hC:∀ r xs j,(r,xs,j)∈C'->EnOk B σ' ps' r xs j):LzR β' S' B σ' d' hs ps' μ' (cB L) C' H:=by
 refine ⟨by rw [<- h.len];simp [cB],by rw [<- h.lenh];simp [cB],hC,fun i ls D nvi h1 h2 h3=>?_⟩
 simp only [cB,List.getElem?_map,Option.map_eq_some_iff] at h1
 obtain ⟨ls0,h3,rfl⟩:=h1
 exact .inl rfl
theorem lk {A:St} {σ:Sg} {ps:List P}:∀ r xs j,(r,xs,j)∈([]:En)->EnOk A σ ps r xs j:=fun _ _ _ h=>(by cases h)
theorem LzR.save (R:RS gl A β S F σ ps gs μ gm) (h:LzR β S A σ d hs ps μ L C H):LzR β S A σ d (hs++[ps.length]) ps μ (L++[newS ps.length]) C (H++[A]):=by
 have hpl:=R.vars.length
 refine ⟨by simp [h.len],by simp [h.lenh],h.en,fun i ls D nvi h1 h2 h3=>?_⟩
 rcases Nat.lt_or_ge i L.length with hi | hi
 ·rw [List.getElem?_append_left hi] at h1
  rw [List.getElem?_append_left (h.len ▸ hi)] at h2
  rw [List.getElem?_append_left (h.lenh ▸ hi)] at h3
  exact h.log i ls D nvi h1 h2 h3
 ·rw [List.getElem?_append_right hi] at h1
  rw [List.getElem?_append_right (h.len ▸ hi),<- h.len] at h2
  rw [List.getElem?_append_right (h.lenh ▸ hi),<- h.lenh] at h3
  cases hj:i - L.length with
  | succ j=>rw [hj] at h1;simp at h1
  | zero =>
   rw [hj] at h1 h2 h3
   simp only [List.getElem?_cons_zero,Option.some.injEq] at h1 h2 h3
   subst h1;subst h2;subst h3
   refine .inr ⟨β,S,d&&false,μ.map Ob.fz,{ vp:=fun k hk=>?_,sub:=fun _ h=>h,ag:=fun _ _=>rfl,bsub:=fun _ h=>h,dn:=fun _=>Bool.and_false d,memh:=fun _=>⟨fun _ _=>rfl,?_,fun i ob hi=>?_⟩,meml:=fun i off p n b hb hp=>?_,lp:=fun r xs j he hj _ _=>?_ }⟩
   ·simp only [Ls.kn,newS,List.any_nil,Bool.or_false,Bool.not_false,Bool.true_and] at hk
    exact ⟨Nat.le_of_ble_eq_true hk,R.vars.look k⟩
   ·rw [List.length_map,R.objs.length]
    exact Nat.le_refl _
   ·rwa [List.getElem?_map] at hi
   ·obtain ⟨q,h1,h2⟩:=Tt hp
    obtain ⟨v,h3,h4⟩:=R.loadL hb h1
    exact ⟨v,h3,h2 ▸ h4⟩
   ·have:=(h.en r xs j he).lt
    omega
theorem Ud {mu:Mu} (hm:∀ (i:Nat) (ob:Ob),mu[i]? = some ob->(μ[i]?).map Ob.fz=some ob) {n:Option Nat} {i off:Nat} {p:P} (hi:i < mu.length) (h:cA μ n i off=some p):∃ q,cA mu n i off=some q/\fz q=fz p:=by
 unfold cA at h ⊢
 obtain ⟨ob,hob⟩:∃ ob,mu[i]? = some ob:=⟨mu[i],List.getElem?_eq_getElem hi⟩
 have hx:=hm i ob hob
 rw [hob]
 cases hμ:μ[i]? with
 | none=>rw [hμ] at h;cases h
 | some o =>
  rw [hμ] at h hx
  cases o with
  | sit s pos=>cases h
  | cells l =>
   simp only [Option.map_some,Ob.fz,Option.some.injEq] at hx
   subst hx
   simp only at h ⊢
   cases n with
   | none =>
    simp only at h ⊢
    refine ⟨fz p,by rw [List.getElem?_map,h];rfl,fL p⟩
   | some n =>
    simp only at h ⊢
    split at h
    ·rename_i hle
     cases h
     refine ⟨_,by rw [if_pos (by rw [List.length_map];exact hle)],?_⟩
     simp only [fz,P.agg.injEq]
     rw [List.map_take,List.map_drop,List.map_take,List.map_drop,List.map_map]
     congr 2
     exact List.map_congr_left fun x _=>fL x
    ·cases h
def Ue (d:Bool) (ps:List P) (μ:Mu) (r:R) (xs:List X) (q:P):Prop :=
 (∃ as p,denF ps xs=some as/\aS r as=some p/\fz q=fz p)\/(∃ n i off p,r=.load n/\denF ps xs=some [.lp i off]/\cA μ n i off=some p/\fz q=fz p/\d=false)
theorem ll {ls:Ls} {dy:Bool} {mu:Mu} {nvi:Nat} (k:LogOk β S A σ d ps μ ls C D nvi βi Si dy mu):∀ {xs:List X} {as:List P},xs.all ls.knX=true->denF ps xs=some as->RepL βi Si D.h (denL σ xs) as
 | [],as,_,hd=>by cases hd;exact .nil
 | x::xs,as,hk,hd=>by
  simp only [List.all_cons,Bool.and_eq_true] at hk
  simp only [denF] at hd
  split at hd
  ·rename_i p l hp hl
   cases hd
   have ih:=ll k hk.2 hl
   cases x <;> first
    | (cases hk.1;done)
    | skip
   rename_i a
   cases a with
   | v y=>cases hp;exact .cons _ _ _ _ (.c y) ih
   | n j=>cases hp;exact .cons _ _ _ _ (k.vp j hk.1).2 ih
  ·cases hd
theorem Uf {r:R} {as:List P} {p:P} (h:aS r as=some p):dv r as=false:=by
 unfold dv
 split
 ·rename_i n i off
  cases n <;> cases h
 ·rfl
theorem LzR.note {gs:List Nat} (hr:RepO β S A σ ps gs) (h:LzR β S A σ d hs ps μ L C H) {r:R} {xs:List X} {v:Value} {q:P} (hv:aB r (denL σ xs) A=some (v,A)) (ho:Ue d ps μ r xs q) (hμ:∀ (i:Nat),(μ'[i]?).map Ob.fz=(μ[i]?).map Ob.fz):LzR β S A (σ++[v]) d hs (ps++[q]) μ' (eU xs σ.length L) (fM r xs σ.length C) H:=by
 have hl:ps.length=σ.length:=hr.length.symm
 have hnew:SX.look (σ++[v]) σ.length=v:=fV _ _
 have hold:∀ r' xs' j',(r',xs',j')∈fM r xs σ.length C->(r',xs',j')∈C\/(r'=r/\xs'=xs/\j'=σ.length/\xs.all je=true/\∀ x,x∈xs->x.ok σ.length=true):=by
  intro r' xs' j' he
  unfold fM at he
  split at he
  ·rename_i ha
   rcases List.mem_cons.1 he with e | e
   ·cases e
    simp only [Bool.and_eq_true] at ha
    exact .inr ⟨rfl,rfl,rfl,ha.1,fun x hx=>List.all_eq_true.1 ha.2 x hx⟩
   ·exact .inl e
  ·exact .inl he
 refine ⟨by rw [<- h.len];simp [eU],by rw [<- h.lenh];simp [eU],fun r' xs' j' he=>?_,fun i ls' D nvi h1 h2 h3=>?_⟩
 ·rcases hold r' xs' j' he with e | ⟨rfl,rfl,rfl,ha,hok⟩
  ·exact (h.en r' xs' j' e).var hl [v] [q]
  ·refine ⟨by simp,fun x hx=>X.ok_mono (by simp) (hok x hx),ha,fun hm D=>?_,fun hm=>?_⟩
   ·rw [fW _ hok,hnew]
    exact Uc hm hv D
   ·rw [fW _ hok,hnew,gJ ha hok (by omega)]
    rcases ho with ⟨as,p,o1,o2,o3⟩ | ⟨n,i,off,p,rfl,o1,o2,o3,o4⟩
    ·exact ⟨as,o1,fun _=>⟨p,o2,hv⟩⟩
    ·exact ⟨_,o1,fun e=>by cases e⟩
 ·simp only [eU,List.getElem?_map,Option.map_eq_some_iff] at h1
  obtain ⟨ls,h1,rfl⟩:=h1
  rcases h.log i ls D nvi h1 h2 h3 with hof | ⟨βi,Si,dy,mu,k⟩
  ·left
   unfold pU
   split
   ·exact hof
   ·exact hof
  ·right
   have hmem:dy=false->(∀ b,b∈βi->A.h.get b=D.h.get b)/\βi.length<=mu.length/\∀ (i:Nat) (ob:Ob),mu[i]? = some ob->(μ'[i]?).map Ob.fz=some ob:=fun hd=>⟨(k.memh hd).1,(k.memh hd).2.1,fun i ob hi=>by rw [hμ];exact (k.memh hd).2.2 i ob hi⟩
   have hvp:∀ j,ls.kn j=true->j < (ps++[q]).length/\Rep βi Si D.h (SX.look (σ++[v]) j) (fz ((ps++[q]).getD j (.c undef))):=by
    intro j hj
    obtain ⟨e1,e2⟩:=k.vp j hj
    exact ⟨by rw [List.length_append];omega,by rw [pW e1,eB _ _ (by omega)];exact e2⟩
   -- known operands: what the step says of the saved state
   have key:xs.all ls.knX=true->Rep βi Si D.h v (fz q)/\((∃ as,denF ps xs=some as/\dv r as=true)->aB r (denL σ xs) D=some (v,D)):=by
    intro hk
    rcases ho with ⟨as,p,o1,o2,o3⟩ | ⟨n,i',off,p,rfl,o1,o2,o3,o4⟩
    ·obtain ⟨w,e1,e2⟩:=l5 (ll k hk o1) o2
     have e:=e1 A k.ag
     rw [hv] at e
     cases e
     refine ⟨o3 ▸ e2.fz,?_⟩
     rintro ⟨as',a1,a2⟩
     rw [o1] at a1
     cases a1
     rw [Uf o2] at a2
     cases a2
    ·obtain ⟨u,hu,hr'⟩:=inv1 (ll k hk o1)
     cases hr' with
     | lp _ b _ hb =>
      have hdy:=k.dn o4
      have hi:i' < mu.length:=Nat.lt_of_lt_of_le (List.getElem?_eq_some_iff.1 hb).1 (k.memh hdy).2.1
      obtain ⟨p',e1,e2⟩:=Ud (k.memh hdy).2.2 hi o2
      obtain ⟨w,w1,w2⟩:=k.meml i' off p' n b hb e1
      have e:=w1 A ((k.memh hdy).1 b (List.mem_of_getElem? hb))
      rw [hu] at hv ⊢
      rw [hv] at e
      cases e
      exact ⟨by rw [o3,<- e2];exact w2,fun _=>w1 D rfl⟩
   have hlp:∀ ls2:Ls,(∀ j,j < σ.length->ls2.kn j=ls.kn j)->∀ r' xs' j',(r',xs',j')∈fM r xs σ.length C->nvi<=j'->xs'.all ls2.knX=true->(∃ as,denF (ps++[q]) xs'=some as/\dv r' as=true)->aB r' (denL (σ++[v]) xs') D=some (SX.look (σ++[v]) j',D):=by
    intro ls2 hls r' xs' j' he hj hx ha
    have hkk:∀ {ys:List X},(∀ x,x∈ys->x.ok σ.length=true)->ys.all ls2.knX=true->ys.all ls.knX=true:=by
     intro ys hy hh
     rw [List.all_eq_true] at hh ⊢
     intro x hx
     have h1:=hh x hx
     have h2:=hy x hx
     cases x <;> first
      | (cases h1;done)
      | skip
     rename_i a
     cases a with
     | v _=>rfl
     | n kk =>
      have h1:ls2.kn kk=true:=h1
      rw [hls kk (Nat.le_of_ble_eq_true h2)] at h1
      exact h1
    rcases hold r' xs' j' he with e | ⟨rfl,rfl,rfl,hat,hok⟩
    ·have hen:=h.en r' xs' j' e
     rw [gJ hen.at_ hen.ok (by omega)] at ha
     rw [fW _ hen.ok,eB _ _ hen.lt]
     exact k.lp r' xs' j' e hj (hkk hen.ok hx) ha
    ·rw [gJ hat hok (by omega)] at ha
     rw [fW _ hok,hnew]
     exact (key (hkk hok hx)).2 ha
   unfold pU
   split
   ·rename_i hc
    refine ⟨βi,Si,dy,mu,{ vp:=fun j hj=>?_,sub:=k.sub,ag:=k.ag,bsub:=k.bsub,dn:=k.dn,memh:=hmem,meml:=k.meml,lp:=hlp _ fun j hj=>?_ }⟩
    ·by_cases e:j=σ.length
     ·subst e
      refine ⟨by rw [List.length_append,hl];simp,?_⟩
      rw [hnew,List.getD_eq_getElem?_getD,<- hl,List.getElem?_append_right (Nat.le_refl _),Nat.sub_self]
      exact (key hc).1
     ·refine hvp j ?_
      have hb:Nat.beq j σ.length=false:=by
       cases hbb:Nat.beq j σ.length with
       | false=>rfl
       | true=>exact absurd (Nat.eq_of_beq_eq_true hbb) e
      simp only [Ls.kn,List.any_cons,hb,Bool.false_or] at hj ⊢
      exact hj
    ·have hb:Nat.beq j σ.length=false:=by
      cases hbb:Nat.beq j σ.length with
      | false=>rfl
      | true=>have:=Nat.eq_of_beq_eq_true hbb;omega
     simp only [Ls.kn,List.any_cons,hb,Bool.false_or]
   ·exact ⟨βi,Si,dy,mu,{ vp:=hvp,sub:=k.sub,ag:=k.ag,bsub:=k.bsub,dn:=k.dn,memh:=hmem,meml:=k.meml,lp:=hlp ls fun _ _=>rfl }⟩
theorem eW:∀ {xs:List X} {ps as ps':List P},takeL ps xs=some (as,ps')->ps'.length=ps.length/\∀ k,fz (ps'.getD k (.c undef))=fz (ps.getD k (.c undef))
 | [],ps,as,ps',h=>by cases h;exact ⟨rfl,fun _=>rfl⟩
 | x :: xs,ps,as,ps',h=>by
  simp only [takeL] at h
  split at h
  ·rename_i p ps1 h1
   split at h
   ·rename_i l ps2 h2
    cases h
    obtain ⟨e1,e2⟩:=eW h2
    have h3:ps1.length=ps.length/\∀ k,fz (ps1.getD k (.c undef))=fz (ps.getD k (.c undef)):=by
     unfold iJ at h1
     split at h1
     ·rename_i j
      cases h1
      refine ⟨by simp,fun k=>?_⟩
      rw [List.getD_eq_getElem?_getD,List.getD_eq_getElem?_getD,List.getElem?_set]
      by_cases e:j=k
      ·subst e
       rw [if_pos rfl]
       by_cases hj:j < ps.length
       ·rw [if_pos hj,Option.getD_some,List.getD_eq_getElem?_getD,fL]
       ·rw [if_neg hj,List.getD_eq_getElem?_getD,List.getElem?_eq_none (by omega:ps.length<=j)]
      ·rw [if_neg e,List.getD_eq_getElem?_getD]
     ·split at h1
      ·cases h1;exact ⟨rfl,fun _=>rfl⟩
      ·cases h1
    exact ⟨e1.trans h3.1,fun k=>(e2 k).trans (h3.2 k)⟩
   ·cases h
  ·cases h
end
end Go.AM.PV
