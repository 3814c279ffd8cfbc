/- The program's look whether a value is sound. -/
import Derived.Test.YtilbjefgojocaaaGreatDoorPvZ1
namespace Go.AM.PV
open Go Go.AM Go.AM.SX
section
variable {E:Env} {gl:List GRow}
abbrev IZ (E:Env) (gl:List GRow) (T:N):Prop:=∀ {m:Nat} {rv:Rv} {d:Bool} {hs:List Nat} {C:En} {σ:Sg} {ps:List P} {gs:List Nat} {μ:Mu} {gm:List Nat} {L:List Ls} {H:List St} {A:St} {β:List Nat} {S:Nat->Prop} {Q:aW},
 RS gl A β S (ak σ rv) σ ps gs μ gm->rvOk rv σ->LzR β S A σ d hs ps μ L C H->okT T σ.length L C=true->m<=μ.length->pz E gl T m rv d hs ps μ Q->wp E T σ H A (Res gl m A β S (ak σ rv) gs gm Q)
theorem yS {μ:Mu} {i off:Nat} {l:List P} {p:P} (h:μ[i]? = some (.cells l)) (hp:l[off]? = some p):∀ (j:Nat),((μ.set i (.cells (l.set off (fz p))))[j]?).map Ob.fz=(μ[j]?).map Ob.fz:=by
 intro j
 rw [List.getElem?_set]
 by_cases e:i=j
 ·subst e
  rw [if_pos rfl,if_pos (List.getElem?_eq_some_iff.1 h).1,h]
  simp only [Option.map_some,Ob.fz,Option.some.injEq,Ob.cells.injEq]
  refine List.ext_getElem? fun k=>?_
  rw [List.getElem?_map,List.getElem?_map,List.getElem?_set]
  by_cases e2:off=k
  ·subst e2
   rw [if_pos rfl,if_pos (List.getElem?_eq_some_iff.1 hp).1,hp]
   simp only [Option.map_some,fL]
  ·rw [if_neg e2]
 ·rw [if_neg e]
theorem rJ {β:List Nat} {S:Nat->Prop} {A:St} {σ:Sg} {d:Bool} {hs:List Nat} {ps:List P} {gs:List Nat} {μ:Mu} {L:List Ls} {C:En} {H:List St} (hr:RepO β S A σ ps gs) (h:LzR β S A σ d hs ps μ L C H) {n:Option Nat} {xs:List X} {i off:Nat} (h1:denF ps xs=some [.lp i off]) (w:Value) (q:P) :
  ∀ r' xs' j',(r',xs',j')∈fM (.load n) xs σ.length C->EnOk A (σ++[w]) (ps++[q]) r' xs' j':=by
 have hl:ps.length=σ.length:=hr.length.symm
 intro r' xs' j' he
 unfold fM at he
 split at he
 ·rename_i ha
  rcases List.mem_cons.1 he with e | e
  ·cases e
   simp only [Bool.and_eq_true] at ha
   have hok:∀ x,x∈xs->x.ok σ.length=true:=fun x hx=>List.all_eq_true.1 ha.2 x hx
   refine ⟨by simp,fun x hx=>X.ok_mono (by simp) (hok x hx),ha.1,fun hm=>(by cases hm),fun _=>?_⟩
   rw [gJ ha.1 hok (by omega)]
   exact ⟨_,h1,fun e=>by cases e⟩
  ·exact (h.en r' xs' j' e).var hl [w] [q]
 ·exact (h.en r' xs' j' he).var hl [w] [q]
theorem bq {α:Type} (l:List α) (x:α):(l++[x]).length=l.length+1:=by simp
theorem nG {μ μ':Mu} {x:List Ob} (h:μ'=μ++x):∀ (i:Nat) (ob:Ob),μ[i]? = some ob->μ'[i]? = some ob:=by
 intro i ob hi
 subst h
 rw [List.getElem?_append_left (List.getElem?_eq_some_iff.1 hi).1]
 exact hi
theorem rK {r:SX.R} {as:List P} {μ μ':Mu} {p:P} (h:bH r as μ=some (p,μ')):∃ x,μ'=μ++x:=by
 unfold bH at h
 split at h
 ·split at h
  ·cases h;exact ⟨_,rfl⟩
  ·cases h
 ·split at h
  ·cases h;exact ⟨_,rfl⟩
  ·cases h
 ·split at h
  ·split at h
   ·cases h;exact ⟨[],by simp⟩
   ·cases h
  ·cases h
 ·split at h
  ·cases h;exact ⟨_,rfl⟩
  ·cases h
 ·cases h
theorem ah {E:Env} {gl:List GRow}:∀ (T:N) {m:Nat} {rv:Rv} {d:Bool} {hs:List Nat} {ps:List P} {μ:Mu} {Q Q':aW},(∀ o outs ν,Q o outs ν->Q' o outs ν)->pz E gl T m rv d hs ps μ Q->pz E gl T m rv d hs ps μ Q'
 | .bad,_,_,_,_,_,_,_,_,_,h=>h
 | .fin o xs,_,_,_,_,_,_,_,_,hq,h=>by
  obtain ⟨as,ps',outs,h1,h2,h3⟩:=h
  refine ⟨as,ps',outs,h1,h2,?_⟩
  rcases h3 with h3 | ⟨k,a,b,c,d⟩
  ·exact .inl (hq _ _ _ h3)
  ·exact .inr ⟨k,a,b,c,hq _ _ _ d⟩
 | .op r xs k,_,_,_,_,_,_,_,_,hq,h=>by
  cases r <;> first
   | (obtain ⟨as,p,h1,h2,h3⟩:=h;exact ⟨as,p,h1,h2,ah k hq h3⟩)
   | (obtain ⟨as,p,μ',h1,h2,h3⟩:=h;exact ⟨as,p,μ',h1,h2,ah k hq h3⟩)
   | (obtain ⟨s,h1,h2⟩:=h;exact ⟨s,h1,ah k hq h2⟩)
   | (obtain ⟨s,h0,h1,h2⟩:=h;exact ⟨s,h0,h1,ah k hq h2⟩)
   | (obtain ⟨i,off,p,ps',l,h1,h2,h3,h4,h5,h6⟩:=h;exact ⟨i,off,p,ps',l,h1,h2,h3,h4,h5,ah k hq h6⟩)
   | (obtain ⟨p,q,ps',a,h1,h2,h3⟩:=h;exact ⟨p,q,ps',a,h1,h2,ah k hq h3⟩)
   | (obtain ⟨i,s,pos,h0,h1,h2,h3,h4⟩:=h;exact ⟨i,s,pos,h0,h1,h2,fun e=>ah k hq (h3 e),fun e=>ah k hq (h4 e)⟩)
   | (rcases h with ⟨as,p,h1,h2,h3⟩ | ⟨i,off,p,h1,h2,hd,h3⟩ | ⟨i,off,l,p,h0,h1,h2,h3,hd,h4⟩
      ·exact .inl ⟨as,p,h1,h2,ah k hq h3⟩
      ·exact .inr (.inl ⟨i,off,p,h1,h2,hd,ah k hq h3⟩)
      ·exact .inr (.inr ⟨i,off,l,p,h0,h1,h2,h3,hd,ah k hq h4⟩))
 | .opAt b off r xs k,_,_,_,_,_,_,_,_,hq,h=>by
  obtain ⟨n,us,as,p,μ',h0,h1,h2,h3,h4,h5⟩:=h
  exact ⟨n,us,as,p,μ',h0,h1,h2,h3,h4,ah k hq h5⟩
 | .br x a b,_,_,_,_,_,_,_,_,hq,h=>let ⟨t,h1,h2,h3⟩:=h;⟨t,h1,fun e=>ah a hq (h2 e),fun e=>ah b hq (h3 e)⟩
 | .call f xs k,_,_,_,_,_,_,_,_,hq,h=>by
  rcases h with ⟨as,r,μ',h1,h2,h3,h4⟩ | ⟨as,ps',r,μ',h1,h2,h3,h4⟩ | ⟨as,r,h1,h2,h3,h4⟩
  ·exact .inl ⟨as,r,μ',h1,h2,h3,ah k hq h4⟩
  ·exact .inr (.inl ⟨as,ps',r,μ',h1,h2,h3,ah k hq h4⟩)
  ·exact .inr (.inr ⟨as,r,h1,h2,h3,ah k hq h4⟩)
 | .callv f xs k,_,_,_,_,_,_,_,_,hq,h=>let ⟨g,cs,as,r,μ',h0,h1,h2,h3,h4,h5⟩:=h;⟨g,cs,as,r,μ',h0,h1,h2,h3,h4,ah k hq h5⟩
 | .callm x name xs k,_,_,_,_,_,_,_,_,hq,h=>let ⟨t,p,g,as,r,μ',h0,h1,h2,h3,h4,h5⟩:=h;⟨t,p,g,as,r,μ',h0,h1,h2,h3,h4,ah k hq h5⟩
 | .loop xs body k,_,_,_,_,_,_,_,_,hq,h=>by
  obtain ⟨as,ps',n,vs,h1,h2,h3⟩:=h
  refine ⟨as,ps',n,vs,h1,h2,?_⟩
  refine pQ ?_ ?_ n _ _ h3
  ·exact fun _ _ _ _ hp hw=>ah body hp hw
  ·exact fun _ _ _ hp=>ah k hq hp
 | .sw x c a b,_,_,_,_,_,_,_,_,hq,h=>let ⟨n,h1,h2,h3⟩:=h;⟨n,h1,fun e=>ah a hq (h2 e),fun e=>ah b hq (h3 e)⟩
 | .bump n k,_,_,_,_,_,_,_,_,hq,h=>ah k hq h
 | .save k,_,_,_,_,_,_,_,_,hq,h=>ah k hq h
 | .self x k,_,_,_,_,_,_,_,_,hq,h=>⟨h.1,ah k hq h.2⟩
 | .chk i r xs x k,_,_,_,_,_,_,_,_,hq,h=>⟨h.1,ah k hq h.2⟩
theorem b9 {n:Nat}:∀ (T:N) {m:Nat} {rv:Rv} {d:Bool} {hs:List Nat} {ps:List P} {μ:Mu} {Q:aW},fN n T=true->pz E gl T m rv d hs ps μ Q->pz E gl T m rv d hs ps μ (fun o outs μ'=>outs.length=n/\Q o outs μ')
 | .bad,_,_,_,_,_,_,_,_,h=>h
 | .fin o xs,_,_,_,_,_,_,_,hn,h=>by
  obtain ⟨as,ps',outs,h1,h2,h3⟩:=h
  have hl:outs.length=n:=by
   have e1:∀ {xs:List X} {ps as ps':List P},takeL ps xs=some (as,ps')->as.length=xs.length:=by
    intro xs
    induction xs with
    | nil=>intro ps as ps' h;cases h;rfl
    | cons x xs ih =>
     intro ps as ps' h
     simp only [takeL] at h
     split at h
     ·split at h
      ·rename_i hq;cases h;simp [ih hq]
      ·cases h
     ·cases h
   have e2:∀ {as outs:List P},LeL as outs->outs.length=as.length:=by
    intro as outs h
    induction h with
    | nil=>rfl
    | cons p q ps qs _ _ ih=>simp [ih]
   rw [e2 h2,e1 h1]
   exact Nat.eq_of_beq_eq_true hn
  refine ⟨as,ps',outs,h1,h2,?_⟩
  rcases h3 with h3 | ⟨k,a,b,c,d⟩
  ·exact .inl ⟨hl,h3⟩
  ·exact .inr ⟨k,a,b,c,hl,d⟩
 | .op r xs k,_,_,_,_,_,_,_,hn,h=>by
  have ih:=@b9 n k
  cases r <;> first
   | (obtain ⟨as,p,h1,h2,h3⟩:=h;exact ⟨as,p,h1,h2,ih hn h3⟩)
   | (obtain ⟨as,p,μ',h1,h2,h3⟩:=h;exact ⟨as,p,μ',h1,h2,ih hn h3⟩)
   | (obtain ⟨s,h1,h2⟩:=h;exact ⟨s,h1,ih hn h2⟩)
   | (obtain ⟨s,h0,h1,h2⟩:=h;exact ⟨s,h0,h1,ih hn h2⟩)
   | (obtain ⟨i,off,p,ps',l,h1,h2,h3,h4,h5,h6⟩:=h;exact ⟨i,off,p,ps',l,h1,h2,h3,h4,h5,ih hn h6⟩)
   | (obtain ⟨p,q,ps',a,h1,h2,h3⟩:=h;exact ⟨p,q,ps',a,h1,h2,ih hn h3⟩)
   | (obtain ⟨i,s,pos,h0,h1,h2,h3,h4⟩:=h;exact ⟨i,s,pos,h0,h1,h2,fun e=>ih hn (h3 e),fun e=>ih hn (h4 e)⟩)
   | (rcases h with ⟨as,p,h1,h2,h3⟩ | ⟨i,off,p,h1,h2,hd,h3⟩ | ⟨i,off,l,p,h0,h1,h2,h3,hd,h4⟩
      ·exact .inl ⟨as,p,h1,h2,ih hn h3⟩
      ·exact .inr (.inl ⟨i,off,p,h1,h2,hd,ih hn h3⟩)
      ·exact .inr (.inr ⟨i,off,l,p,h0,h1,h2,h3,hd,ih hn h4⟩))
 | .opAt b off r xs k,_,_,_,_,_,_,_,hn,h=>by
  obtain ⟨n,us,as,p,μ',h0,h1,h2,h3,h4,h5⟩:=h
  exact ⟨n,us,as,p,μ',h0,h1,h2,h3,h4,b9 k hn h5⟩
 | .br x a b,_,_,_,_,_,_,_,hn,h=>by
  simp only [fN,Bool.and_eq_true] at hn
  obtain ⟨t,h1,h2,h3⟩:=h
  exact ⟨t,h1,fun e=>b9 a hn.1 (h2 e),fun e=>b9 b hn.2 (h3 e)⟩
 | .call f xs k,_,_,_,_,_,_,_,hn,h=>by
  rcases h with ⟨as,r,μ',h1,h2,h3,h4⟩ | ⟨as,ps',r,μ',h1,h2,h3,h4⟩ | ⟨as,r,h1,h2,h3,h4⟩
  ·exact .inl ⟨as,r,μ',h1,h2,h3,b9 k hn h4⟩
  ·exact .inr (.inl ⟨as,ps',r,μ',h1,h2,h3,b9 k hn h4⟩)
  ·exact .inr (.inr ⟨as,r,h1,h2,h3,b9 k hn h4⟩)
 | .callv f xs k,_,_,_,_,_,_,_,hn,h=>by
  obtain ⟨g,cs,as,r,μ',h0,h1,h2,h3,h4,h5⟩:=h
  exact ⟨g,cs,as,r,μ',h0,h1,h2,h3,h4,b9 k hn h5⟩
 | .callm x name xs k,_,_,_,_,_,_,_,hn,h=>by
  obtain ⟨t,p,g,as,r,μ',h0,h1,h2,h3,h4,h5⟩:=h
  exact ⟨t,p,g,as,r,μ',h0,h1,h2,h3,h4,b9 k hn h5⟩
 | .loop xs body k,_,_,_,_,_,_,_,hn,h=>by
  obtain ⟨as,ps',j,vs,h1,h2,h3⟩:=h
  refine ⟨as,ps',j,vs,h1,h2,?_⟩
  refine pQ ?_ ?_ j vs _ h3
  ·exact fun _ _ _ _ hp hw=>ah body hp hw
  ·exact fun _ _ _ hp=>b9 k hn hp
 | .sw x c a b,_,_,_,_,_,_,_,hn,h=>by
  simp only [fN,Bool.and_eq_true] at hn
  obtain ⟨j,h1,h2,h3⟩:=h
  exact ⟨j,h1,fun e=>b9 a hn.1 (h2 e),fun e=>b9 b hn.2 (h3 e)⟩
 | .bump _ k,_,_,_,_,_,_,_,hn,h=>b9 k hn h
 | .save k,_,_,_,_,_,_,_,hn,h=>b9 k hn h
 | .self x k,_,_,_,_,_,_,_,hn,h=>⟨h.1,b9 k hn h.2⟩
 | .chk i r xs x k,_,_,_,_,_,_,_,hn,h=>⟨h.1,b9 k hn h.2⟩
theorem yT {k:N} (ih:IZ E gl k) {m:Nat} {rv:Rv} {d:Bool} {hs:List Nat} {C:En} {σ:Sg} {ps:List P} {gs:List Nat} {μ:Mu} {gm:List Nat} {L:List Ls} {H:List St} {A:St} {β:List Nat} {S:Nat->Prop} {Q:aW} {r:SX.R} {xs:List X} {as:List P} {p:P}
  (R:RS gl A β S (ak σ rv) σ ps gs μ gm) (hrv:rvOk rv σ) (hL:LzR β S A σ d hs ps μ L C H) (hT:okT k (σ.length+1) (eU xs σ.length L) (fM r xs σ.length C)=true) (hm:m<=μ.length) (hd:denF ps xs=some as) (hsm:aS r as=some p) (hk:pz E gl k m rv d hs (ps++[p]) μ Q) :
  wp E (.op r xs k) σ H A (Res gl m A β S (ak σ rv) gs gm Q):=by
 obtain ⟨v,h1,h2⟩:=l5 (bU R.vars hd) hsm
 have hv:=h1 A fun _ _=>rfl
 refine ⟨v,A,hv,?_⟩
 have R1:=R.pure h2
 have hL1:=hL.note R.vars (μ':=μ) (q:=p) hv (.inl ⟨as,p,hd,hsm,rfl⟩) fun _=>rfl
 rw [<- ax hrv [v]] at R1 ⊢
 rw [<- bq σ v] at hT
 exact ih R1 (hrv.append _) hL1 hT hm hk
theorem yU {k:N} (ih:IZ E gl k) {m:Nat} {rv:Rv} {d:Bool} {hs:List Nat} {C:En} {σ:Sg} {ps:List P} {gs:List Nat} {μ μ':Mu} {gm:List Nat} {L:List Ls} {H:List St} {A:St} {β:List Nat} {S:Nat->Prop} {Q:aW} {r:SX.R} {xs:List X} {as:List P} {p:P}
  (R:RS gl A β S (ak σ rv) σ ps gs μ gm) (hrv:rvOk rv σ) (hL:LzR β S A σ d hs ps μ L C H) (hT:okT k (σ.length+1) L C=true) (hm:m<=μ.length) (hd:denF ps xs=some as) (hsm:bH r as μ=some (p,μ')) (hk:pz E gl k m rv d hs (ps++[p]) μ' Q) :
  wp E (.op r xs k) σ H A (Res gl m A β S (ak σ rv) gs gm Q):=by
 obtain ⟨v,A1,o,h1,h2,h3,h4,h5,h6⟩:=wB R (m:=m) (b:=A.next) (.inl (Nat.le_refl _)) (bU R.vars hd) hsm hm
 obtain ⟨β',S',gm',R1,E1,hβ⟩:=h6 A1 (ak σ rv) rfl rfl (by omega) (by omega) fun c hc=>⟨hc,fun e=>absurd (R.F_lt c hc) (by omega)⟩
 refine ⟨v,A1,h1,?_⟩
 have hh:∀ c,c < A.next->A1.h.get c=A.h.get c:=fun c hc=>by rw [h4];exact T.get_set_other _ _ (by omega)
 obtain ⟨x,hx⟩:=rK hsm
 have hL1:=(hL.step R.vars (nG hx) (B:=A1) (S':=S') (β':=β') (fun c hc=>hh c (R.S_lt c hc)) E1.oldS hβ fun c hc=>hh c (R.β_lt c hc)).var R.vars.length.symm v p
 have R2:=R1
 rw [<- ax hrv [v]] at R2
 rw [<- bq σ v] at hT
 refine SX.wp_mono k (fun o outs B hB=>hB.trans E1 (Nat.le_refl _) fun b hb=>?_) (ih R2 (hrv.append _) hL1 hT (Nat.le_trans hm h5) hk)
 rw [ax hrv] at hb
 exact .inl hb
theorem km {k:N} (ih:IZ E gl k) {m:Nat} {rv:Rv} {d:Bool} {hs:List Nat} {C:En} {σ:Sg} {ps ps':List P} {gs g gs1:List Nat} {μ μ':Mu} {gm:List Nat} {L:List Ls} {H:List St} {A:St} {β:List Nat} {S:Nat->Prop} {Q:aW} {f:FuncId} {vs:List Value} {as:List P} {r:P}
  (R:RS gl A β S (ak σ rv) σ ps gs μ gm) (hrv:rvOk rv σ) (hL:LzR β S A σ d hs ps' μ L C H) (hT:okT k (σ.length+1) L C=true) (hm:m<=μ.length) (hσ:RepO β S A σ ps' gs1) (hp:gs.Perm (g++gs1)) (ha:RepO β S A vs as g) (hP:PR E gl f as μ r μ') (hl:μ.length<=μ'.length)
  (hk:pz E gl k m rv true hs (ps'++[r]) μ' Q):∃ v B,cP E f vs A v B/\wp E k (σ++[v]) H B (Res gl m A β S (ak σ rv) gs gm Q):=by
 have Ra:RS gl A β S noF vs as g μ gm:=R.noF.setVars ha ⟨gs1,hp.trans List.perm_append_comm⟩
 obtain ⟨v,B,β',S',gs2,gm2,h1,h2,h3⟩:=hP A β S vs g gm Ra
 obtain ⟨R1,E1,hS,hβ⟩:=R.call (m:=m) hσ hp ha h2 h3 hm
 refine ⟨v,B,h1,?_⟩
 have hL1:=(hL.dirty hσ (B:=B) (S':=S') (β':=β') μ' hS E1.oldS hβ).var hσ.length.symm v r
 rw [<- ax hrv [v]] at R1
 rw [<- bq σ v] at hT
 refine SX.wp_mono k (fun o outs C hC=>hC.trans E1 (Nat.le_refl _) fun b hb=>?_) (ih R1 (hrv.append _) hL1 hT (Nat.le_trans hm hl) hk)
 rw [ax hrv] at hb
 exact .inl hb
theorem yV {k:N} (ih:IZ E gl k) {m:Nat} {rv:Rv} {d:Bool} {hs:List Nat} {C:En} {σ:Sg} {ps:List P} {gs:List Nat} {μ:Mu} {gm:List Nat} {L:List Ls} {H:List St} {A:St} {β:List Nat} {S:Nat->Prop} {Q:aW} {f:FuncId} {vs:List Value} {as:List P} {r:P}
  (R:RS gl A β S (ak σ rv) σ ps gs μ gm) (hrv:rvOk rv σ) (hL:LzR β S A σ d hs ps μ L C H) (hT:okT k (σ.length+1) L C=true) (hm:m<=μ.length) (ha:RepO β S A vs as []) (hk0:okm.okL 0 as=true) (hP:PR E gl f as [] r [])
  (hk:pz E gl k m rv d hs (ps++[r]) μ Q):∃ v B,cP E f vs A v B/\wp E k (σ++[v]) H B (Res gl m A β S (ak σ rv) gs gm Q):=by
 have Ra:RS gl A β S noF vs as [] μ gm:=R.noF.setVars ha ⟨gs,by simp⟩
 obtain ⟨v,B,S',gs2,hh,h1,h2,h3⟩:=hP.frameS hk0 Ra
 obtain ⟨R1,E1,hS,hβ⟩:=R.call (m:=m) (g:=[]) R.vars (.refl _) ha h2 h3 hm
 refine ⟨v,B,h1,?_⟩
 have hL1:=(hL.step R.vars (μ':=μ) (fun _ _ h=>h) (B:=B) (S':=S') (β':=β) hS E1.oldS hβ fun c hc=>hh c (R.β_lt c hc)).var R.vars.length.symm v r
 rw [<- ax hrv [v]] at R1
 rw [<- bq σ v] at hT
 refine SX.wp_mono k (fun o outs C hC=>hC.trans E1 (Nat.le_refl _) fun b hb=>?_) (ih R1 (hrv.append _) hL1 hT hm hk)
 rw [ax hrv] at hb
 exact .inl hb
theorem rL {body k:N} (ihb:IZ E gl body) (ihk:IZ E gl k) {m:Nat} {d:Bool} {hs:List Nat} {C:En} {σ:Sg} {ps0:List P} {gs:List Nat} {μ:Mu} {gm:List Nat} {L:List Ls} {H:List St} {A:St} {β:List Nat} {S F:Nat->Prop} {Q:aW} {w:Nat}
  (hlen:β.length=μ.length) (hσ:RepL β S A.h σ ps0) (hLl:LzR β S A σ d hs ps0 μ L C H) (hT1:fN w body=true) (hT2:okT body (σ.length+w) (cB L) []=true) (hT3:okT k (σ.length+1+w) (cB L) []=true) (hm:m<=μ.length):∀ (n:Nat) {vs:List P} {ws:List Value} {B:St} {β':List Nat} {S':Nat->Prop} {gs':List Nat} {μ':Mu} {gm':List Nat},
  RS gl B β' S' noF ws vs gs' μ' gm'->Ext μ.length A β S F gs gm B β' S' gs' gm'->μ.length<=μ'.length->(∀ c,S c->B.h.get c=A.h.get c)->vs.length=w ->
  aQ (fun vs μ' Q'=>pz E gl body μ.length none false hs (ps0++vs) μ' Q') (fun o outs μ'=>pz E gl k m none false hs (ps0++.c (goInt o)::outs) μ' Q) n vs μ' ->
  fQ (fun vs A Q'=>wp E body (σ++vs) H A Q') (fun o outs A'=>wp E k (σ++goInt o::outs) H A' (Res gl m A β S F gs gm Q)) n ws B
 | 0,_,_,_,_,_,_,_,_,_,_,_,_,_,h=>h.elim
 | n+1,vs,ws,B,β',S',gs',μ',gm',R,hE,hl,hS,hw,h=>by
  have hβ:∀ {β'':List Nat} (_:∀ i,i < μ.length->β''[i]? = β[i]?) (i c:Nat),β[i]? = some c->β''[i]? = some c:=fun h i c hi=>by
   rw [h i (by rw [<- hlen];exact (List.getElem?_eq_some_iff.1 hi).1)];exact hi
  have hσB:RepL β' S' B.h σ ps0:=hσ.mono hE.oldS hS (hβ hE.objs)
  have RB:RS gl B β' S' (ak (σ++ws) none) (σ++ws) (ps0++vs) gs' μ' gm' :=
   R.setVars (by have:=(RepO.of hσB).append R.vars;rwa [List.nil_append] at this) ⟨[],.refl _⟩
  have hwl:ws.length=w:=by rw [R.vars.length];exact hw
  have hTb:okT body (σ++ws).length (cB L) []=true:=by rw [List.length_append,hwl];exact hT2
  have h2:pz E gl body μ.length none false hs (ps0++vs) μ' _:=b9 body hT1 h
  have hwp:=ihb RB trivial (hLl.off _ _ _ _ _ _ _ lk) hTb hl h2
  refine SX.wp_mono body ?_ hwp
  rintro o outs C ⟨outsP,β2,S2,gs2,μ2,gm2,⟨hol,hQ⟩,hm2,R2,E2⟩
  have E2':Ext μ.length A β S F gs gm C β2 S2 gs2 gm2:=hE.trans E2 (Nat.le_refl _) (fun b hb=>hb.elim)
  have hSC:∀ c,S c->C.h.get c=A.h.get c:=fun c hc=>by
   refine (E2.keep.heap c (RB.S_lt c (hE.oldS c hc)) fun e=>?_).trans (hS c hc)
   rcases e with e | e
   ·exact RB.β_S c e (hE.oldS c hc)
   ·exact e.elim
  cases o with
  | zero=>exact rL ihb ihk hlen hσ hLl hT1 hT2 hT3 hm n R2 E2' hm2 hSC hol hQ
  | succ o =>
   have hσC:RepL β2 S2 C.h σ ps0:=hσ.mono E2'.oldS hSC (hβ E2'.objs)
   have RC:RS gl C β2 S2 (ak (σ++goInt (o+1:Nat)::outs) none) (σ++goInt (o+1:Nat)::outs) (ps0++.c (goInt (o+1:Nat))::outsP) gs2 μ2 gm2:=by
    refine R2.setVars ?_ ⟨[],.refl _⟩
    have:=(RepO.of hσC).append (RepO.cons _ _ [] _ _ _ (Rep.toT (A:=C) (.c (goInt (o+1:Nat)))) R2.vars)
    simpa using this
   have hTk:okT k (σ++goInt (o+1:Nat)::outs).length (cB L) []=true:=by
    have e:outs.length=w:=by rw [R2.vars.length];exact hol
    rw [List.length_append,List.length_cons,e,show σ.length+(w+1)=σ.length+1+w by omega]
    exact hT3
   have:=ihk RC trivial (hLl.off _ _ _ _ _ _ _ lk) hTk (Nat.le_trans hm hm2) hQ
   exact SX.wp_mono k (fun _ _ D hD=>hD.trans (m:=m) ⟨E2'.keep,fun i hi=>E2'.objs i (by omega),E2'.newβ,E2'.oldS,E2'.newS,E2'.newg⟩ (Nat.le_refl _) fun b hb=>hb.elim) this
theorem bt:∀ (T:N),IZ E gl T
 | .bad=>fun _ _ _ _ _ h=>h.elim
 | .fin o xs=>by
  rename_i m rv d hs C σ ps gs μ gm L H A β S Q
  intro R hrv hL hT hm h
  obtain ⟨as,ps',outs,h1,h2,h3⟩:=h
  obtain ⟨g,gs1,e1,e2,e3⟩:=iO R.vars h1
  obtain ⟨g2,e4,d,e5⟩:=pO e1 h2
  have hperm:gs.Perm ((gs1++d)++g2):=by
   refine e3.trans ?_
   refine List.perm_append_comm.trans ?_
   rw [List.append_assoc]
   exact e5.append_left gs1
  have R1:RS gl A β S noF (denL σ xs) outs g2 μ gm:=R.noF.setVars e4 ⟨_,hperm⟩
  have E1:Ext m A β S (ak σ rv) gs gm A β S g2 gm:=Ext.refl m A β S _ gs gm fun k hk=>by
   rcases List.mem_append.1 hk with h | h
   ·exact List.mem_append_left _ (hperm.symm.subset (List.mem_append_right _ h))
   ·exact List.mem_append_right _ h
  rcases h3 with h3 | ⟨k,h4,h5,h6,h7⟩
  ·exact ⟨outs,β,S,g2,μ,gm,h3,hm,R1,E1⟩
  ·obtain ⟨gm',R2,E2⟩:=R1.trunc h4 h5 h6
   exact ⟨outs,_,S,g2,_,gm',h7,by rw [List.length_take];omega,R2,E1.trans E2 (Nat.le_refl _) fun b hb=>hb.elim⟩
 | .op r xs k=>by
  have ih:=@bt k
  rename_i m rv d hs C σ ps gs μ gm L H A β S Q
  intro R hrv hL hT hm h
  have hpl:=R.vars.length
  cases r <;> first
   | (obtain ⟨as,p,h1,h2,h3⟩:=h
      exact yT ih R hrv hL hT hm h1 h2 h3)
   | (obtain ⟨as,p,μ',h1,h2,h3⟩:=h
      exact yU ih R hrv hL hT hm h1 h2 h3)
   | skip
  case toBytes e =>
   obtain ⟨s,h1,h2⟩:=h
   obtain ⟨v,hv,hr⟩:=inv1 (bU R.vars h1)
   cases hr
   let B:St:={ A with next:=A.next+1,h:=A.h.set A.next (.row { own:=true,size:=s.size,cells:=T.ofList (s.data.toList.map fun c=>.int .u8 c.toNat),elem:=e,esz:=1,opn:=true,grp:=A.next,frz:=0,sb:=true }) }
   have hsz:(s.data.toList.map fun c=>Value.int .u8 c.toNat).length=s.size:=by rw [List.length_map,Array.length_toList];rfl
   have hrep:Rep β (orB S A.next) B.h (.slice (some ⟨A.next,0,none⟩) s.size s.size) (.sl 1 s.size (s.data.toList.map fun b=>.c (.int .u8 b.toNat))):=by
    refine .sl _ 1 s.size s.size (s.data.toList.map fun c=>.int .u8 c.toNat) _ (.inr rfl) ⟨rfl,_,T.get_set_same _ _ _,fun _=>rfl,by simp only [hsz];omega,?_,fun i hi=>by rw [Nat.zero_add];exact T.get_ofList _ i⟩ (by rw [hsz];omega) (Nat.le_refl _) ?_
    ·rw [List.all_eq_true]
     intro y hy
     obtain ⟨b,_,rfl⟩:=List.mem_map.1 hy
     rfl
    ·exact l7 (A:=B) _ _ _ fun x _=>.c _
   obtain ⟨R1,E1⟩:=R.newRow (m:=m) (b:=A.next) (B:=B) (F':=ak σ rv) (.inl (Nat.le_refl _)) rfl rfl (Nat.le_succ _) (Nat.lt_succ_self _) (fun c hc=>⟨hc,fun e=>absurd (R.F_lt c hc) (by omega)⟩) hrep
   refine ⟨_,B,by rw [hv];rfl,?_⟩
   have hh:∀ c,c < A.next->B.h.get c=A.h.get c:=fun c hc=>T.get_set_other _ _ (by omega)
   have hL1:=(hL.step R.vars (fun _ _ h=>h) (B:=B) (S':=orB S A.next) (β':=β) (fun c hc=>hh c (R.S_lt c hc)) E1.oldS (fun _ h=>h) fun c hc=>hh c (R.β_lt c hc)).var R.vars.length.symm (.slice (some ⟨A.next,0,none⟩) s.size s.size) (.sl 1 s.size (s.data.toList.map fun b=>.c (.int .u8 b.toNat)))
   rw [<- ax hrv [.slice (some ⟨A.next,0,none⟩) s.size s.size]] at R1
   refine SX.wp_mono k (fun o outs C hC=>hC.trans E1 (Nat.le_refl _) fun b hb=>?_) (ih R1 (hrv.append _) hL1 (by rw [bq];exact hT) hm h2)
   rw [ax hrv] at hb
   exact .inl hb
  case load n h =>
   rcases h with ⟨i,off,p,h1,h2,hd,h3⟩ | ⟨i,off,l,p,rfl,h1,h2,h3,hd,h4⟩
   ·obtain ⟨v,hv,hr⟩:=inv1 (bU R.vars h1)
    cases hr with
    | lp _ b _ hb =>
     obtain ⟨w,e1,e2⟩:=R.loadL hb h2
     have hw:aB (.load n) (denL σ xs) A=some (w,A):=by rw [hv];exact e1 A rfl
     refine ⟨w,A,hw,?_⟩
     have R1:=R.pure e2
     rw [<- ax hrv [w]] at R1 ⊢
     rcases hd with rfl | hd
     ·exact ih R1 (hrv.append _) (hL.note R.vars (μ':=μ) (q:=fz p) hw (.inr ⟨n,i,off,p,rfl,h1,h2,fL p,rfl⟩) fun _=>rfl) (by rw [bq];exact hT) hm h3
     ·exact ih R1 (hrv.append _) (hL.off β S A _ d _ μ (rJ R.vars hL h1 w (fz p))) (by rw [bq];exact cO k hd (by simp [eU,cB]) hT) hm h3
   ·obtain ⟨v,hv,hr⟩:=inv1 (bU R.vars h1)
    cases hr with
    | lp _ b _ hb =>
     obtain ⟨w,gs',gm',e1,R1,E1⟩:=R.moveOut (m:=m) hb h2 h3
     have hw:aB (.load none) (denL σ xs) A=some (w,A):=by rw [hv];exact e1
     refine ⟨w,A,hw,?_⟩
     rw [<- ax hrv [w]] at R1
     refine SX.wp_mono k (fun o outs C hC=>hC.trans E1 (Nat.le_refl _) fun b hb=>?_) (Q:=Res gl m A β S (ak (σ++[w]) rv) gs' gm' Q) ?_
     ·rw [ax hrv] at hb
      exact .inl hb
     ·rcases hd with rfl | hd
      ·exact ih R1 (hrv.append _) (hL.note R.vars (μ':=μ.set i (.cells (l.set off (fz p)))) (q:=p) hw (.inr ⟨none,i,off,p,rfl,h1,by unfold cA;rw [h2];exact h3,rfl,rfl⟩) (yS h2 h3)) (by rw [bq];exact hT) (by rw [List.length_set];exact hm) h4
      ·exact ih R1 (hrv.append _) (hL.off β S A _ d _ _ (rJ R.vars hL h1 w p)) (by rw [bq];exact cO k hd (by simp [eU,cB]) hT) (by rw [List.length_set];exact hm) h4
  case store n =>
   obtain ⟨i,off,p,ps',l,h1,h2,h3,h4,h5,h6⟩:=h
   obtain ⟨g,gs1,e1,e2,e3⟩:=iO R.vars h1
   obtain ⟨u,v,hv,g1,g2,hu,hvp,rfl⟩:∃ u v,denL σ xs=[u,v]/\∃ g1 g2,RepT β S A u (.lp i off) g1/\RepT β S A v p g2/\g=g1++(g2++[]):=by
    generalize denL σ xs=ws at e1
    cases e1 with
    | cons u _ g1 _ _ _ k1 k2 =>
     cases k2 with
     | cons v _ g2 _ _ _ k3 k4=>cases k4;exact ⟨u,v,rfl,g1,g2,k1,k3,rfl⟩
   obtain ⟨hu,rfl⟩:=hu
   rw [List.append_nil,List.nil_append] at e3
   cases hu with
   | lp _ b _ hb =>
    obtain ⟨B,gm',hs,hh,hBn,hBg,R1,E1⟩:=R.store (m:=m) hb h2 e2 hvp e3 h3 h4 h5
    refine ⟨undef,B,by rw [hv];exact hs,?_⟩
    have hL1:=((hL.pss (eW h1).1 (eW h1).2).dirty e2 (B:=B) (S':=S) (β':=β) (μ.set i (.cells (cZ l off (aX p)))) (fun c hc=>hh c fun e=>R.β_S b (List.mem_of_getElem? hb) (e ▸ hc)) (fun _ h=>h) fun _ h=>h).var e2.length.symm undef (.c undef)
    rw [<- ax hrv [undef]] at R1
    refine SX.wp_mono k (fun o outs C hC=>hC.trans E1 (Nat.le_refl _) fun b hb=>?_) (ih R1 (hrv.append _) hL1 (by rw [bq];exact hT) (by rw [List.length_set];exact hm) h6)
    rw [ax hrv] at hb
    exact .inl hb
  case app e i z =>
   obtain ⟨p,q,ps',a,h1,h2,h3⟩:=h
   obtain ⟨g,gs1,e1,e2,e3⟩:=iO R.vars h1
   obtain ⟨u,v,hv⟩:∃ u v,denL σ xs=[u,v]:=by
    generalize denL σ xs=ws at e1
    cases e1 with
    | cons u _ g1 _ _ _ k1 k2 =>
     cases k2 with
     | cons v _ g2 _ _ _ k3 k4=>cases k4;exact ⟨u,v,rfl⟩
   rw [hv] at e1
   obtain ⟨w,B,S',g2,hs,R1,E1,hhb⟩:=mV R (m:=m) e2 e3 e1 h2
   refine ⟨w,B,by rw [hv];exact hs,?_⟩
   have hhS:∀ c,S c->B.h.get c=A.h.get c:=fun c hc=>E1.keep.heap c (R.S_lt c hc) fun e=>by
    rcases e with e | e
    ·exact R.β_S c e hc
    ·exact R.F_S c e hc
   have hhβ:∀ c,c∈β->B.h.get c=A.h.get c:=fun c hc=>hhb c (R.β_lt c hc)
   have hL1:=((hL.pss (eW h1).1 (eW h1).2).step e2 (fun _ _ h=>h) (B:=B) (S':=S') (β':=β) hhS E1.oldS (fun _ h=>h) hhβ).var e2.length.symm w a
   rw [<- ax hrv [w]] at R1
   refine SX.wp_mono k (fun o outs C hC=>hC.trans E1 (Nat.le_refl _) fun b hb=>?_) (ih R1 (hrv.append _) hL1 (by rw [bq];exact hT) hm h3)
   rw [ax hrv] at hb
   exact .inl hb
  case range str =>
   obtain ⟨s,rfl,h1,h2⟩:=h
   obtain ⟨v,hv,hr⟩:=inv1 (bU R.vars h1)
   cases hr
   have hlen:=R.objs.length
   let B:St:={ A with next:=A.next+1,h:=A.h.set A.next (.siter s 0) }
   have idx:(β++[A.next])[μ.length]? = some A.next:=by rw [<- hlen,List.getElem?_append_right (Nat.le_refl _)];simp
   obtain ⟨R1,E1⟩:=R.newIt (m:=m) (b:=A.next) (B:=B) (F':=ak σ rv) (.inl (Nat.le_refl _)) rfl rfl (Nat.le_succ _) (Nat.lt_succ_self _) (fun c hc=>⟨hc,fun e=>absurd (R.F_lt c hc) (by omega)⟩) (fun h=>.lp _ A.next 0 idx) (by omega)
   refine ⟨.pointer (some ⟨A.next,0,none⟩),B,by rw [hv];rfl,?_⟩
   have hh:∀ c,c < A.next->B.h.get c=A.h.get c:=fun c hc=>T.get_set_other _ _ (by omega)
   have hL1:=(hL.step R.vars (nG (x:=[.sit s 0]) rfl) (B:=B) (S':=S) (β':=β++[A.next]) (fun c hc=>hh c (R.S_lt c hc)) (fun _ h=>h) (fun c hc=>List.mem_append_left _ hc) fun c hc=>hh c (R.β_lt c hc)).var R.vars.length.symm (.pointer (some ⟨A.next,0,none⟩)) (.lp μ.length 0)
   rw [<- ax hrv [.pointer (some ⟨A.next,0,none⟩)]] at R1
   refine SX.wp_mono k (fun o outs C hC=>hC.trans E1 (Nat.le_refl _) fun b hb=>?_) (ih R1 (hrv.append _) hL1 (by rw [bq];exact hT) (by rw [List.length_append];omega) h2)
   rw [ax hrv] at hb
   exact .inl hb
  case next str =>
   obtain ⟨i,s,pos,rfl,h1,h2,h3,h4⟩:=h
   obtain ⟨v,hv,hr⟩:=inv1 (bU R.vars h1)
   cases hr with
   | lp _ b _ hb =>
    have hat:=R.objs.atIt hb h2
    have hbm:b∈β:=List.mem_of_getElem? hb
    by_cases hp:pos < s.size
    ·let B:St:=A.setObj b (.siter s (pos+(Utf8.decode s pos).2))
     let u:Value:=.tuple #[.bool true,goInt pos,.int .i32 (Utf8.decode s pos).1]
     have hrep:∀ h,Rep β S h u (.tup [.c (.bool true),.c (goInt pos),.c (.int .i32 (Utf8.decode s pos).1)]):=fun h =>
      .tup [.bool true,goInt pos,.int .i32 (Utf8.decode s pos).1] _ (.cons _ _ _ _ (.c _) (.cons _ _ _ _ (.c _) (.one (.c _))))
     obtain ⟨R1,E1⟩:=R.stepIt (m:=m) (B:=B) hb h2 rfl rfl rfl hrep
     refine ⟨u,B,?_,?_⟩
     ·rw [hv]
      show (match A.h.get b with
       | some (.siter s pos)=>if pos < s.size then some (Value.tuple #[.bool true,goInt pos,.int .i32 (Utf8.decode s pos).1],A.setObj b (.siter s (pos+(Utf8.decode s pos).2))) else some (.tuple #[.bool false],A)
       | _=>none)=_
      rw [hat]
      simp only [if_pos hp]
      rfl
     have hL1:=(hL.dirty R.vars (B:=B) (S':=S) (β':=β) (μ.set i (.sit s (pos+(Utf8.decode s pos).2))) (fun c hc=>T.get_set_other _ _ fun e=>R.β_S b hbm (e ▸ hc)) (fun _ h=>h) fun _ h=>h).var R.vars.length.symm u (.tup [.c (.bool true),.c (goInt pos),.c (.int .i32 (Utf8.decode s pos).1)])
     rw [<- ax hrv [u]] at R1
     refine SX.wp_mono k (fun o outs C hC=>hC.trans E1 (Nat.le_refl _) fun b hb=>?_) (ih R1 (hrv.append _) hL1 (by rw [bq];exact hT) (by rw [List.length_set];exact hm) (h3 hp))
     rw [ax hrv] at hb
     exact .inl hb
    ·refine ⟨.tuple #[.bool false],A,?_,?_⟩
     ·rw [hv]
      show (match A.h.get b with
       | some (.siter s pos)=>if pos < s.size then some (Value.tuple #[.bool true,goInt pos,.int .i32 (Utf8.decode s pos).1],A.setObj b (.siter s (pos+(Utf8.decode s pos).2))) else some (.tuple #[.bool false],A)
       | _=>none)=_
      rw [hat]
      simp only [if_neg hp]
     have R1:=R.pure (v:=.tuple #[.bool false]) (p:=.tup [.c (.bool false)]) (.tup [.bool false] _ (.one (.c _)))
     have hL1:=(hL.dirty R.vars (B:=A) (S':=S) (β':=β) μ (fun _ _=>rfl) (fun _ h=>h) fun _ h=>h).var R.vars.length.symm (.tuple #[.bool false]) (.tup [.c (.bool false)])
     rw [<- ax hrv [.tuple #[.bool false]]] at R1 ⊢
     exact ih R1 (hrv.append _) hL1 (by rw [bq];exact hT) hm (h4 (by omega))
 | .opAt b off r xs k=>by
  have ih:=@bt k
  rename_i m rv d hs C σ ps gs μ gm L H A β S Q
  intro R hrv hL hT hm h
  obtain ⟨n,us,as,p,μ',rfl,h1,h2,h3,h4,h5⟩:=h
  have hF:ak σ (some (b,n,us)) (c7 (SX.look σ b)+off):=⟨off,h1,h2,rfl⟩
  obtain ⟨v,A1,o,e1,e2,e3,e4,e5,e6⟩:=wB R (m:=m) (b:=c7 (SX.look σ b)+off) (.inr hF) (bU R.vars h3) h4 hm
  have hlt:=R.F_lt _ hF
  obtain ⟨β',S',gm',R1,E1,hβ⟩:=e6 { A1 with next:=A.next } (ak σ (some (b,n,off::us))) rfl rfl (Nat.le_refl _) hlt fun c hc=>by
   obtain ⟨j,j1,j2,j3⟩:=hc
   simp only [List.mem_cons,not_or] at j2
   exact ⟨⟨j,j1,j2.2,j3⟩,by omega⟩
  refine ⟨v,A1,e1,?_⟩
  have f:=R.fresh (.inr hF)
  have hh:∀ c,c≠c7 (SX.look σ b)+off->A1.h.get c=A.h.get c:=fun c hc=>by rw [e4];exact T.get_set_other _ _ hc
  obtain ⟨gx,hgx⟩:=rK h4
  have hL1:=(hL.step R.vars (nG hgx) (B:={ A1 with next:=A.next }) (S':=S') (β':=β') (fun c hc=>hh c fun e=>f.2.1 (e ▸ hc)) E1.oldS hβ fun c hc=>hh c fun e=>f.1 (e ▸ hc)).var R.vars.length.symm v p
  have hrv':rvOk (some (b,n,off::us)) σ:=hrv
  rw [<- ax hrv' [v]] at R1
  refine SX.wp_mono k (fun o outs C hC=>hC.trans E1 (Nat.le_refl _) fun c hc=>?_) (ih R1 (hrv'.append _) hL1 (by rw [bq];exact hT) (Nat.le_trans hm e5) h5)
  rw [ax hrv'] at hc
  obtain ⟨j,j1,j2,j3⟩:=hc
  simp only [List.mem_cons,not_or] at j2
  exact .inl ⟨j,j1,j2.2,j3⟩
 | .br x a b=>by
  have iha:=@bt a
  have ihb:=@bt b
  rename_i m rv d hs C σ ps gs μ gm L H A β S Q
  intro R hrv hL hT hm h
  obtain ⟨t,h1,h2,h3⟩:=h
  obtain ⟨v,hv,hr⟩:=inv1 (bU R.vars h1)
  cases hr
  simp only [denL,List.map_cons,List.map_nil,List.cons.injEq,and_true] at hv
  simp only [okT,Bool.and_eq_true] at hT
  exact ⟨t,hv,fun e=>iha R hrv hL hT.1 hm (h2 e),fun e=>ihb R hrv hL hT.2 hm (h3 e)⟩
 | .call f xs k=>by
  have ih:=@bt k
  rename_i m rv d hs C σ ps gs μ gm L H A β S Q
  intro R hrv hL hT hm h
  rcases h with ⟨as,r,μ',h1,h2,h3,h4⟩ | ⟨as,ps',r,μ',h1,h2,h3,h4⟩ | ⟨as,r,h1,hk0,h2,h4⟩
  rotate_left 2
  ·exact yV ih R hrv hL hT hm (RepO.of (bU R.vars h1)) hk0 h2 h4
  ·obtain ⟨v,B,e1,e2⟩:=km ih R hrv hL hT hm R.vars (g:=[]) (.refl _) (RepO.of (bU R.vars h1)) h2 h3 h4
   exact ⟨v,B,e1,e2⟩
  ·obtain ⟨g,gs1,k1,k2,k3⟩:=iO R.vars h1
   obtain ⟨v,B,e1,e2⟩:=km ih R hrv (hL.pss (eW h1).1 (eW h1).2) hT hm k2 k3 k1 h2 h3 h4
   exact ⟨v,B,e1,e2⟩
 | .callv f xs k=>by
  have ih:=@bt k
  rename_i m rv d hs C σ ps gs μ gm L H A β S Q
  intro R hrv hL hT hm h
  obtain ⟨g,cs,as,r,μ',h0,hfn,h1,h2,h3,h4⟩:=h
  obtain ⟨v,hv,hr⟩:=inv1 (bU R.vars h0)
  simp only [denL,List.map_cons,List.map_nil,List.cons.injEq,and_true] at hv
  cases hr with
  | fn _ ws _ hws =>
   obtain ⟨w,B,e1,e2⟩:=km ih R hrv hL hT hm R.vars (g:=[]) (.refl _) ((bU R.vars h1).repO_nil hws) h2 h3 h4
   refine ⟨g,#[],ws.toArray,w,B,hv,hfn,?_,e2⟩
   simpa using e1
 | .callm x name xs k=>by
  have ih:=@bt k
  rename_i m rv d hs C σ ps gs μ gm L H A β S Q
  intro R hrv hL hT hm h
  obtain ⟨t,p,g,as,r,μ',h0,hfn,h1,h2,h3,h4⟩:=h
  obtain ⟨v,hv,hr⟩:=inv1 (bU R.vars h0)
  simp only [denL,List.map_cons,List.map_nil,List.cons.injEq,and_true] at hv
  cases hr with
  | ifc _ u _ hu =>
   obtain ⟨w,B,e1,e2⟩:=km ih R hrv hL hT hm R.vars (g:=[]) (.refl _) (RepO.of (.cons _ _ _ _ hu (bU R.vars h1))) h2 h3 h4
   exact ⟨g,u::denL σ xs,w,B,by rw [hv];exact hfn A u _,e1,e2⟩
 | .loop xs body k=>by
  have ihb:=@bt body
  have ihk:=@bt k
  rename_i m rv d hs C σ ps gs μ gm L H A β S Q
  intro R hrv hL hT hm h
  obtain ⟨as,ps',n,vs,h1,h2,h3⟩:=h
  obtain ⟨g,gs1,e1,e2,e3⟩:=iO R.vars h1
  obtain ⟨g2,e4,dd,e5⟩:=pO e1 h2
  have hperm:gs.Perm ((gs1++dd)++g2):=by
   refine e3.trans ?_
   refine List.perm_append_comm.trans ?_
   rw [List.append_assoc]
   exact e5.append_left gs1
  have R1:RS gl A β S noF (denL σ xs) vs g2 μ gm:=R.noF.setVars e4 ⟨_,hperm⟩
  have E1:Ext μ.length A β S (ak σ rv) gs gm A β S g2 gm:=Ext.refl _ A β S _ gs gm fun k hk=>by
   rcases List.mem_append.1 hk with h | h
   ·exact List.mem_append_left _ (hperm.symm.subset (List.mem_append_right _ h))
   ·exact List.mem_append_right _ h
  simp only [okT,Bool.and_eq_true] at hT
  have hL2:LzR β S A σ d hs (ps'.map fz) μ L C H:=by
   refine (hL.pss (eW h1).1 (eW h1).2).pss (by simp) fun k=>?_
   rw [List.getD_eq_getElem?_getD,List.getD_eq_getElem?_getD,List.getElem?_map]
   cases ps'[k]? with
   | none=>rfl
   | some q=>exact fL q
  have hvl:vs.length=xs.length:=by
   rw [<- R1.vars.length];simp [denL]
  exact ⟨n,rL ihb ihk R.objs.length e2.fz hL2 hT.1 hT.2.1 hT.2.2 hm n R1 E1 (Nat.le_refl _) (fun _ _=>rfl) hvl h3⟩
 | .sw x c a b=>by
  have iha:=@bt a
  have ihb:=@bt b
  rename_i m rv d hs C σ ps gs μ gm L H A β S Q
  intro R hrv hL hT hm h
  obtain ⟨n,h1,h2,h3⟩:=h
  have e:c7 (SX.look σ x)=n:=by
   have hlt:x < ps.length:=by
    rcases Nat.lt_or_ge x ps.length with g | g
    ·exact g
    ·rw [List.getD_eq_getElem?_getD,List.getElem?_eq_none g] at h1;cases h1
   have hr:=R.vars.look x
   rw [List.getD_eq_getElem?_getD,List.getElem?_eq_getElem hlt] at h1 hr
   simp only [Option.getD_some] at h1 hr
   generalize ps[x]=q at h1 hr
   generalize SX.look σ x=u at hr
   cases q <;> first
    | (cases h1;done)
    | skip
   simp only [lY,Option.some.injEq] at h1
   cases hr
   exact h1
  simp only [okT,Bool.and_eq_true] at hT
  exact ⟨fun hc=>iha R hrv hL hT.1 hm (h2 (e ▸ hc)),fun hc=>ihb R hrv hL hT.2 hm (h3 (e ▸ hc))⟩
 | .bump n k=>by
  have ih:=@bt k
  rename_i m rv d hs C σ ps gs μ gm L H A β S Q
  intro R hrv hL hT hm h
  have hpl:=R.vars.length
  have h':pz E gl k m (some (ps.length,n,[])) false hs (ps++[.any]) μ Q:=h
  rw [<- hpl] at h'
  let A1:St:={ A with next:=A.next+n }
  have hn:A.next<=A1.next:=Nat.le_add_right _ _
  have hF:∀ b,ak (σ++[goInt A.next]) (some (σ.length,n,[])) b->A.next<=b/\b < A.next+n:=by
   rintro b ⟨j,j1,_,j3⟩
   rw [fV] at j3
   have:c7 (goInt A.next)=A.next:=rfl
   omega
  have R1:RS gl A1 β S (ak (σ++[goInt A.next]) (some (σ.length,n,[]))) (σ++[goInt A.next]) (ps++[.any]) gs μ gm:=by
   refine ⟨fun b hb=>Nat.lt_of_lt_of_le (R.S_lt b hb) hn,fun b hb=>Nat.lt_of_lt_of_le (R.β_lt b hb) hn,fun b hb=>(hF b hb).2,R.β_S,fun b hb hs=>?_,fun b hb hs=>?_,fun b hb=>⟨R.ginv b (hF b hb).1,fun hs=>?_⟩,R.β_nd,fun k hk=>R.ginv k (Nat.le_trans hn hk),fun r hr=>⟨(R.glob r hr).1,(R.glob r hr).2⟩,?_,?_,R.nd⟩
   ·have:=R.S_lt b hs;have:=(hF b hb).1;omega
   ·have:=R.β_lt b hs;have:=(hF b hb).1;omega
   ·have:=R.glt b hs;have:=(hF b hb).1;omega
   ·have:=(R.vars.mono (A:=A) (S':=S) (B:=A1) (β':=β) (fun _ h=>h) (fun _ _=>rfl) (fun _ _ h=>h) hn fun _ _=>rfl).snoc (Rep.toT (A:=A1) (.any (goInt A.next) rfl))
    rwa [List.append_nil] at this
   ·exact R.objs.mono (A:=A) (B:=A1) (fun _ h=>h) (fun _ _=>rfl) (fun _ _ h=>h) hn (fun _ _=>rfl) fun _ _=>rfl
  have E1:Ext m A β S (ak σ rv) gs gm A1 β S gs gm:=⟨⟨hn,fun _ _ _=>rfl,fun _ _ _=>rfl⟩,fun _ _=>rfl,fun _ h=>.inl h,fun _ h=>h,fun _ h=>.inl h,fun _ h=>.inl h⟩
  have hL1:=hL.off β S A1 (σ++[goInt A.next]) false (ps++[.any]) μ lk
  exact SX.wp_mono k (fun o outs C hC=>hC.trans E1 (Nat.le_refl _) fun b hb=>.inr (hF b hb).1) (ih R1 (by simp [rvOk]) hL1 (by rw [bq];exact hT) hm h')
 | .save k=>by
  have ih:=@bt k
  rename_i m rv d hs C σ ps gs μ gm L H A β S Q
  intro R hrv hL hT hm h
  exact ih R hrv (hL.save R) (by rw [<- R.vars.length];exact hT) hm h
 | .self x k=>by
  have ih:=@bt k
  rename_i m rv d hs C σ ps gs μ gm L H A β S Q
  intro R hrv hL hT hm h
  obtain ⟨⟨p,h1,h2⟩,h3⟩:=h
  obtain ⟨v,hv,hr⟩:=inv1 (bU R.vars h1)
  simp only [denL,List.map_cons,List.map_nil,List.cons.injEq,and_true] at hv
  exact ⟨by rw [hv];exact l8 40 hr h2,ih R hrv hL hT hm h3⟩
 | .chk i r xs x k=>by
  have ih:=@bt k
  rename_i m rv d hs C σ ps gs μ gm L H A β S Q
  intro R hrv hL hT hm h
  obtain ⟨⟨⟨p,h4,h5⟩,h7⟩,h6⟩:=h
  simp only [okT,Bool.and_eq_true] at hT
  obtain ⟨hT1,hT2⟩:=hT
  split at hT1
  case h_2=>cases hT1
  rename_i j
  simp only [Bool.and_eq_true] at hT1
  obtain ⟨hE1,hE2⟩:=hT1
  split at hE2
  case h_2=>cases hE2
  rename_i ls hls
  obtain ⟨v,hv,hr⟩:=inv1 (bU R.vars h4)
  simp only [denL,List.map_cons,List.map_nil,List.cons.injEq,and_true] at hv
  have hi:i < H.length:=by rw [<- hL.len];exact (List.getElem?_eq_some_iff.1 hls).1
  have hih:i < hs.length:=by rw [<- hL.lenh];exact (List.getElem?_eq_some_iff.1 hls).1
  have hen:=hL.en r xs j (wF hE1)
  have e3:aB r (denL σ xs) H[i]=some (SX.look σ j,H[i]):=by
   cases hml:eV r with
   | true=>exact hen.ml hml _
   | false =>
    rw [hml,Bool.false_or] at hE2
    simp only [Bool.and_eq_true] at hE2
    rcases hL.log i ls H[i] hs[i] hls (List.getElem?_eq_getElem hi) (List.getElem?_eq_getElem hih) with ho | ⟨βi,Si,dy,mu,k1⟩
    ·rw [ho] at hE2
     cases hE2.1
    ·obtain ⟨as,a1,a2⟩:=hen.mr hml
     cases hlp:dv r as with
     | false =>
      obtain ⟨q,q1,q2⟩:=a2 hlp
      obtain ⟨w,e1,_⟩:=l5 (ll k1 hE2.2 a1) q1
      have e:=e1 A k1.ag
      rw [q2] at e
      cases e
      exact e1 H[i] fun _ _=>rfl
     | true =>
      rcases h7 with h7 | ⟨as',b1,b2⟩ | ⟨nv,j',b1,b2,b3⟩
      ·rw [hml] at h7;cases h7
      ·rw [a1] at b1;cases b1;rw [hlp] at b2;cases b2
      ·cases b2
       rw [List.getElem?_eq_getElem hih] at b1
       cases b1
       exact k1.lp r xs j (wF hE1) b3 hE2.2 ⟨as,a1,hlp⟩
  refine ⟨⟨H[i],SX.look σ j,H[i],List.getElem?_eq_getElem hi,e3,?_⟩,ih R hrv hL hT2 hm h6⟩
  have hv':SX.look σ j=v:=hv
  have e:(vn j).den σ=v:=hv
  show veq 40 (SX.look σ j) ((vn j).den σ)=true
  rw [e,hv']
  exact l8 40 hr h5
theorem fnZ (hE:SxEnv E) {cfg:Cfg} {fuel f:Nat} {ps:List P} {T:N} (h:aC E cfg fuel f ps.length=some T) (hT:okT T ps.length [] []=true) {μ μ':Mu} {r:P}
  (hw:pz E gl T μ.length none false [] ps μ (fun _ outs μ1=>outs=[r]/\μ1=μ')):PR E gl f ps μ r μ':=by
 intro A β S vs gs gm R
 rw [<- R.vars.length] at h hT
 have h1:=bt T (E:=E) (gl:=gl) (rv:=none) (L:=[]) (C:=[]) (hs:=[]) (H:=[]) R trivial ⟨rfl,rfl,lk,fun i ls B nvi hi=>by cases hi⟩ hT (Nat.le_refl _) hw
 obtain ⟨v,B,h2,β',S',gs',gm',h3,h4⟩:=gH hE h (Q:=fun v B=>∃ β' S' gs' gm',Ext μ.length A β S noF gs gm B β' S' gs' gm'/\RS gl B β' S' noF [v] [r] gs' μ' gm') (SX.wp_mono T (fun o outs B hB v hv=>by
  obtain ⟨outsP,β',S',gs',μ1,gm',⟨rfl,rfl⟩,_,k3,k4⟩:=hB
  subst hv
  exact ⟨β',S',gs',gm',k4,k3⟩) h1)
 exact ⟨v,B,β',S',gs',gm',h2,h3,h4⟩
end
end Go.AM.PV
namespace Go.AM.PV
open Go Go.AM Go.AM.SX
section
variable {E:Env} {gl:List GRow} {k a b:N} {m:Nat} {rv:Rv} {ps ps':List P} {μ μ':Mu} {L L':List Lg} {Q:aW} {xs:List X}
theorem gp {α:Type} {l:List α} {i:Nat} {x:α} (h:l[i]? = some x):l.take (i+1)=l.take i++[x]:=by
 rw [List.take_add_one,h];rfl
end
end Go.AM.PV
namespace Go.AM.PV
open Go Go.AM Go.AM.SX
section
variable {E:Env} {gl:List GRow} {k a b:N} {m:Nat} {rv:Rv} {ps ps':List P} {μ μ':Mu} {L L':List Lg} {Q:aW} {xs:List X}
theorem ko {op:BinOp} {x y v:Value} (h:cU [] op x y=some v):aS (.bin op) [.c x,.c y]=some (.c v):=by
 unfold aS bc
 simp only [iI,unc,aB,fP,h,if_true]
theorem kp {op:BinOp} {kd:IntKind} {a b:Int}:cU [] op (.int kd a) (.int kd b)=(match op with
   | .add=>some (.int kd (aV kd (a+b)))
   | .sub=>some (.int kd (aV kd (a - b)))
   | .mul=>some (.int kd (aV kd (a * b)))
   | .eql=>some (.bool (a==b))
   | .neq=>some (.bool (a != b))
   | .lss=>some (.bool (decide (a < b)))
   | .leq=>some (.bool (decide (a<=b)))
   | .gtr=>some (.bool (decide (a > b)))
   | .geq=>some (.bool (decide (a>=b)))
   | _=>none):=by
 unfold cU
 simp only [if_true]
 cases op <;> rfl
theorem jJ {n:Int} (h0:-9223372036854775808<=n) (h1:n<=9223372036854775807):aV .i64 n=n:=by
 unfold aV
 rw [if_pos ⟨by simp only [lo];omega,by simp only [hi];omega⟩]
theorem nH (kd:IntKind) (n:Int):kd.wrap n=aV kd n:=(rF kd n).symm
theorem yW {sz n:Nat} {i:Int} {l:List P} (h0:0<=i) (hi:i < n):aS (.idxA sz) [.sl sz n l,.c (.int .i64 i)]=some (.ip l (i.toNat * sz)):=by
 unfold aS
 have:bc (.idxA sz) [.sl sz n l,.c (.int .i64 i)]=none:=rfl
 rw [this]
 simp only
 rw [if_pos ⟨trivial,h0,hi⟩]
theorem yX {sz n:Nat} {i:Int} {l:List P} (h0:0<=i) (hi:i < n):aS (.idxA sz) [.fx sz n l,.c (.int .i64 i)]=some (.ip l (i.toNat * sz)):=by
 unfold aS
 have:bc (.idxA sz) [.fx sz n l,.c (.int .i64 i)]=none:=rfl
 rw [this]
 simp only
 rw [if_pos ⟨trivial,h0,hi⟩]
theorem yY {off:Nat} {l:List P} {p:P} (hl:l[off]? = some p):aS (.load none) [.ip l off]=some p:=by
 unfold aS
 have:bc (.load none) [.ip l off]=none:=rfl
 rw [this]
 exact hl
theorem yZ {n off:Nat} {l:List P} (hle:off+n<=l.length):aS (.load (some n)) [.ip l off]=some (.agg ((l.drop off).take n)):=by
 unfold aS
 have:bc (.load (some n)) [.ip l off]=none:=rfl
 rw [this]
 simp only
 rw [if_pos hle]
end
end Go.AM.PV
namespace Go.AM.PV
open Go Go.AM Go.AM.SX
def nI (op:BinOp) (as:List P):Option P:=match as with
 | [.c (.int k a),.c (.int k' b)]=>if k=k' then (match op with
   | .eql=>some (.c (.bool (decide (a=b))))
   | .neq=>some (.c (.bool !decide (a=b)))
   | .lss=>some (.c (.bool (decide (a < b))))
   | .leq=>some (.c (.bool (decide (a<=b))))
   | .gtr=>some (.c (.bool (decide (a > b))))
   | .geq=>some (.c (.bool (decide (a>=b))))
   | _=>none) else none
 | as=>aS (.bin op) as
def tz (r:SX.R) (as:List P):Option P:=match r with
 | .bin op=>nI op as
 | .conv _=>none
 | .lenS=>(match as with
  | [.c (.string s)]=>some (.c (.int .i64 (s.size:Int)))
  | _=>none)
 | .lenL=>(match as with
  | [.sl _ n _] | [.fx _ n _]=>some (.c (.int .i64 (n:Int)))
  | as=>aS .lenL as)
 | .not=>(match as with
  | [.c (.bool t)]=>some (.c (.bool !t))
  | _=>none)
 | r=>aS r as
theorem y0 {op:BinOp} {as:List P} {p:P} (h:nI op as=some p):aS (.bin op) as=some p:=by
 unfold nI at h
 split at h
 ·rename_i k a k' b
  split at h
  ·rename_i hk
   subst hk
   cases op <;> first
    | (cases h;done)
    | (cases h;exact ko kp)
  ·cases h
 ·exact h
theorem y5 {r:SX.R} {as:List P} {p:P} (h:tz r as=some p):aS r as=some p:=by
 unfold tz at h
 split at h
 ·exact y0 h
 ·cases h
 ·split at h
  ·cases h;rfl
  ·cases h
 ·split at h
  ·cases h;rfl
  ·cases h;rfl
  ·exact h
 ·split at h
  ·cases h;rfl
  ·cases h
 ·exact h
def nJ (op:BinOp) (as:List P):Option P:=match as with
 | [.c (.int k a),.c (.int k' b)]=>if k=k' then (match op with
   | .add=>some (.c (.int k (aV k (a+b))))
   | .sub=>some (.c (.int k (aV k (a - b))))
   | .mul=>some (.c (.int k (aV k (a * b))))
   | _=>none) else none
 | _=>none
def tw (r:SX.R) (as:List P):Option P:=match r with
 | .bin op=>nJ op as
 | .conv k=>(match as with
  | [.c (.int _ a)]=>some (.c (.int k (aV k a)))
  | _=>none)
 | _=>none
theorem y6 {op:BinOp} {as:List P} {p:P} (h:nJ op as=some p):aS (.bin op) as=some p:=by
 unfold nJ at h
 split at h
 ·rename_i k a k' b
  split at h
  ·rename_i hk
   subst hk
   cases op <;> first
    | (cases h;done)
    | (cases h;exact ko kp)
  ·cases h
 ·cases h
theorem y7 {r:SX.R} {as:List P} {p:P} (h:tw r as=some p):aS r as=some p:=by
 unfold tw at h
 split at h
 ·exact y6 h
 ·split at h
  ·rename_i k _ kd a
   cases h
   show some (P.c (.int k (IntKind.wrap k a)))=_
   rw [nH]
  ·cases h
 ·cases h
def stz (r:SX.R) (xs:List X) (ps:List P) (μ:Mu):Option (List P×Mu) :=
 match r with
 | .load n=>match denF ps xs with
  | some as=>match aS (.load n) as with
   | some p=>some (ps++[p],μ)
   | none=>none
  | none=>none
 | .store _ | .app _ _ _ | .toBytes _ | .range _ | .next _=>none
 | .alloc t z=>match denF ps xs with
  | some as=>match bH (.alloc t z) as μ with
   | some (p,μ')=>some (ps++[p],μ')
   | none=>none
  | none=>none
 | .box t=>match denF ps xs with
  | some as=>match bH (.box t) as μ with
   | some (p,μ')=>some (ps++[p],μ')
   | none=>none
  | none=>none
 | .newSl t z pl=>match denF ps xs with
  | some as=>match bH (.newSl t z pl) as μ with
   | some (p,μ')=>some (ps++[p],μ')
   | none=>none
  | none=>none
 | .mkSl t z b=>match denF ps xs with
  | some as=>match bH (.mkSl t z b) as μ with
   | some (p,μ')=>some (ps++[p],μ')
   | none=>none
  | none=>none
 | r=>match denF ps xs with
  | some as=>match tz r as with
   | some p=>some (ps++[p],μ)
   | none=>none
  | none=>none
section
variable {E:Env} {gl:List GRow} {k a b:N} {m:Nat} {rv:Rv} {d:Bool} {hs:List Nat} {ps ps':List P} {μ μ':Mu} {Q:aW} {xs:List X}
theorem jK {r:SX.R} (h:stz r xs ps μ=some (ps',μ')) (hk:pz E gl k m rv d hs ps' μ' Q):pz E gl (.op r xs k) m rv d hs ps μ Q:=by
 unfold stz at h
 cases r <;> simp only at h <;> first
  | (cases h;done)
  | (split at h
     ·rename_i as hd
      split at h
      ·rename_i p hp
       cases h
       exact ⟨as,p,hd,y5 hp,hk⟩
      ·cases h
     ·cases h)
  | (split at h
     ·rename_i as hd
      split at h
      ·rename_i p μ1 hp
       cases h
       exact ⟨as,p,_,hd,hp,hk⟩
      ·cases h
     ·cases h)
  | skip
 case load n =>
  split at h
  ·rename_i as hd
   split at h
   ·rename_i p hp
    cases h
    exact .inl ⟨as,p,hd,hp,hk⟩
   ·cases h
  ·cases h
theorem y8 {n:Option Nat} {i off:Nat} {p:P} (h:denF ps xs=some [.lp i off]) (hp:cA μ n i off=some p) (hd:d=false\/bO k=true) (hk:pz E gl k m rv d hs (ps++[fz p]) μ Q):pz E gl (.op (.load n) xs k) m rv d hs ps μ Q:=.inr (.inl ⟨i,off,p,h,hp,hd,hk⟩)
theorem rM {i off:Nat} {l:List P} {p:P} (h:denF ps xs=some [.lp i off]) (hi:μ[i]? = some (.cells l)) (hp:l[off]? = some p) (hd:d=false\/bO k=true) (hk:pz E gl k m rv d hs (ps++[p]) (μ.set i (.cells (l.set off (fz p)))) Q):pz E gl (.op (.load none) xs k) m rv d hs ps μ Q:=.inr (.inr ⟨i,off,l,p,rfl,h,hi,hp,hd,hk⟩)
theorem cX {x:X} (h:denF ps [x]=some [.c (.bool true)]) (hk:pz E gl a m rv d hs ps μ Q):pz E gl (.br x a b) m rv d hs ps μ Q:=⟨true,h,fun _=>hk,fun e=>(by cases e)⟩
theorem cg {x:X} (h:denF ps [x]=some [.c (.bool false)]) (hk:pz E gl b m rv d hs ps μ Q):pz E gl (.br x a b) m rv d hs ps μ Q:=⟨false,h,fun e=>(by cases e),fun _=>hk⟩
theorem aP {x:X} {t:Bool} (h:denF ps [x]=some [.c (.bool t)]) (ha:t=true->pz E gl a m rv d hs ps μ Q) (hb:t=false->pz E gl b m rv d hs ps μ Q):pz E gl (.br x a b) m rv d hs ps μ Q:=⟨t,h,ha,hb⟩
theorem aM {f:FuncId} {as:List P} {r:P} (h:denF ps xs=some as) (hp:PR E gl f as μ r μ') (hl:μ.length<=μ'.length) (hk:pz E gl k m rv true hs (ps++[r]) μ' Q):pz E gl (.call f xs k) m rv d hs ps μ Q:=.inl ⟨as,r,μ',h,hp,hl,hk⟩
theorem jL {f:FuncId} {as:List P} {r:P} (h:denF ps xs=some as) (h0:okm.okL 0 as=true) (hp:PR E gl f as [] r []) (hk:pz E gl k m rv d hs (ps++[r]) μ Q):pz E gl (.call f xs k) m rv d hs ps μ Q:=.inr (.inr ⟨as,r,h,h0,hp,hk⟩)
theorem aF {o:Nat} {as:List P} (h:takeL ps xs=some (as,ps')) (hq:Q o as μ):pz E gl (.fin o xs) m rv d hs ps μ Q:=⟨as,ps',as,h,.refl as,.inl hq⟩
theorem aG {o:Nat} {as:List P} (n:Nat) (h:takeL ps xs=some (as,ps')) (hm:m<=n) (h1:okm.okL n as=true) (h2:okM n (μ.take n)=true) (hq:Q o as (μ.take n)):pz E gl (.fin o xs) m rv d hs ps μ Q:=⟨as,ps',as,h,.refl as,.inr ⟨n,hm,h1,h2,hq⟩⟩
theorem bR {o:Nat} {as outs:List P} (n:Nat) (h:takeL ps xs=some (as,ps')) (hl:LeL as outs) (hm:m<=n) (h1:okm.okL n outs=true) (h2:okM n (μ.take n)=true) (hq:Q o outs (μ.take n)):pz E gl (.fin o xs) m rv d hs ps μ Q:=⟨as,ps',outs,h,hl,.inr ⟨n,hm,h1,h2,hq⟩⟩
theorem y9 {e:TypeId} {i:TypeInfo} {z:Value} {p q c:P} (h:takeL ps xs=some ([p,q],ps')) (ha:iL e i z p (fz q)=some c) (hk:pz E gl k m rv d hs (ps'++[c]) μ Q):pz E gl (.op (.app e i z) xs k) m rv d hs ps μ Q:=⟨p,q,ps',c,h,ha,hk⟩
theorem gq {s:ByteArray} (h:denF ps xs=some [.c (.string s)]) (hk:pz E gl k m rv d hs (ps++[.lp μ.length 0]) (μ++[.sit s 0]) Q):pz E gl (.op (.range true) xs k) m rv d hs ps μ Q:=⟨s,rfl,h,hk⟩
theorem gr {i pos:Nat} {s:ByteArray} (h:denF ps xs=some [.lp i 0]) (hi:μ[i]? = some (.sit s pos))
  (h1:pos < s.size->pz E gl k m rv true hs (ps++[.tup [.c (.bool true),.c (goInt pos),.c (.int .i32 (Utf8.decode s pos).1)]]) (μ.set i (.sit s (pos+(Utf8.decode s pos).2))) Q)
  (h2:s.size<=pos->pz E gl k m rv true hs (ps++[.tup [.c (.bool false)]]) μ Q):pz E gl (.op (.next true) xs k) m rv d hs ps μ Q:=⟨i,s,pos,rfl,h,hi,h1,h2⟩
theorem ya {n:Nat} (hk:pz E gl k m (some (ps.length,n,[])) false hs (ps++[.any]) μ Q):pz E gl (.bump n k) m rv d hs ps μ Q:=hk
theorem nK (hk:pz E gl k m rv d (hs++[ps.length]) ps μ Q):pz E gl (.save k) m rv d hs ps μ Q:=hk
end
section
variable {E:Env} {gl:List GRow}
theorem bB {xs:List X} {body k:N} {m:Nat} {rv:Rv} {d:Bool} {hs:List Nat} {ps ps':List P} {μ:Mu} {Q:aW} {as:List P} (I:Nat->List P->Mu->Prop) (h:takeL ps xs=some (as,ps')) (κ:Nat) (vs:List P) (hl:LeL as vs) (h0:I κ vs μ)
  (step:∀ κ vs ν,I κ vs ν->pz E gl body μ.length none false hs (ps'.map fz++vs) ν fun o outs ν'=>match o with
   | 0=>∃ j,j < κ/\I j outs ν'
   | o+1=>pz E gl k m none false hs (ps'.map fz++.c (goInt (o+1:Nat))::outs) ν' Q):pz E gl (.loop xs body k) m rv d hs ps μ Q:=by
 refine ⟨as,ps',κ+1,vs,h,hl,?_⟩
 have gen:∀ κ vs ν,I κ vs ν->aQ (fun vs μ' Q'=>pz E gl body μ.length none false hs (ps'.map fz++vs) μ' Q') (fun o outs μ'=>pz E gl k m none false hs (ps'.map fz++.c (goInt o)::outs) μ' Q) (κ+1) vs ν:=by
  intro κ
  induction κ using Nat.strongRecOn with
  | _ κ ih =>
   intro vs ν hI
   refine ah body ?_ (step κ vs ν hI)
   intro o outs ν' hp
   cases o with
   | zero =>
    obtain ⟨j,hj,hI'⟩:=hp
    refine wC ?_ (j+1) κ outs ν' hj (ih j hj outs ν' hI')
    exact fun _ _ _ _ hp hw=>ah body hp hw
   | succ o=>exact hp
 exact gen κ vs μ h0
end
section
variable {E:Env} {gl:List GRow} {k a b:N} {m:Nat} {rv:Rv} {d:Bool} {hs:List Nat} {ps ps':List P} {μ μ':Mu} {Q:aW} {xs:List X}
theorem kq {i:Nat} (h:denF ps xs=some [.c (.int .i64 i),.c (.int .i64 1)]) (hi:i < 4611686018427387904) (hk:pz E gl k m rv d hs (ps++[.c (.int .i64 ((i+1:Nat):Int))]) μ Q):pz E gl (.op (.bin .add) xs k) m rv d hs ps μ Q:=by
 refine ⟨_,_,h,?_,hk⟩
 show (some (P.c (.int .i64 (aV .i64 ((i:Int)+1)))):Option P)=_
 rw [pH (by omega) (by omega)]
 rfl
theorem eH {e:TypeId} {i:TypeInfo} {z:Value} {sz n c d1:Nat} {l l':List P} {p:P} (hc:ps.getD c (.c undef)=p) (hd:ps.getD d1 (.c undef)=.lit l') (hcd:Nat.beq d1 c=false) (hz:i.size=sz) (hp:pJ e sz p=some (n,l)) (hl:l'.length=sz) (h0:Nat.beq sz 0=false) (hzc:z.cells.size=sz) (hb:(n+1) * i.bytes<=140737488355328) (hn:n+1<=4611686018427387904)
  (hk:pz E gl k m rv d hs (ps.set c (fz p)++[.ow e sz (n+1) (l++l')]) μ Q):pz E gl (.op (.app e i z) [vn c,.sl (.n d1) 1] k) m rv d hs ps μ Q:=by
 subst hz
 subst hc
 have hne:d1≠c:=fun e=>by rw [e,Nat.beq_refl] at hcd;cases hcd
 have hz0:i.size≠0:=fun e=>by rw [e] at h0;cases h0
 have hd':(ps.set c (fz (ps.getD c (.c undef)))).getD d1 (.c undef)=.lit l':=by
  rw [<- hd,List.getD_eq_getElem?_getD,List.getElem?_set_ne (Ne.symm hne),<- List.getD_eq_getElem?_getD]
 have ht:takeL ps [vn c,.sl (.n d1) 1]=some ([ps.getD c (.c undef),.fx i.size 1 l'],ps.set c (fz (ps.getD c (.c undef)))):=by
  have h1:iJ (ps.set c (fz (ps.getD c (.c undef)))) (.sl (.n d1) 1)=some (.fx i.size 1 l',ps.set c (fz (ps.getD c (.c undef)))):=by
   show (match bT _ (X.sl (.n d1) 1) with | some p=>some (fz p,_) | none=>none)=_
   simp only [bT,bG,hd']
   rw [if_pos (by simp)]
   simp only [hl,Nat.div_one,fz,Nat.one_ne_zero,if_false]
  simp only [takeL,vn,iJ] at h1 ⊢
  rw [h1]
 refine y9 ht (c:=.ow e i.size (n+1) (l++l')) ?_ hk
 unfold iL
 have hq:iK i.size (fz (.fx i.size 1 l'))=some (1,l'):=by simp only [fz,iK,if_true]
 rw [hp,hq]
 simp only
 rw [if_pos ⟨hz0,hzc,hb,hn⟩]
theorem kr {t:TypeId} {z0:Value} {p q:P} (h:denF ps xs=some [q]) (hq:q=p) (h2:aX p=[p]) (h3:bz p=true) (hk:pz E gl k m rv d hs (ps++[.lit [p]]) μ Q):pz E gl (.op (.newSl t [z0] [(0,1)]) xs k) m rv d hs ps μ Q:=by
 subst hq
 refine ⟨_,.lit [q],μ,h,?_,hk⟩
 have h4:dK [(0,1)] [q] (List.map P.c [z0])=some [q]:=by
  simp only [dK,h2,pR,pS,List.length_cons,List.length_nil,Nat.zero_add,Nat.le_refl,and_self,if_true,cZ,pT]
 unfold bH
 simp only [h4,List.all_cons,List.all_nil,h3,Bool.and_self,if_true]
theorem rN {z0:Value} {p q:P} (h:denF ps xs=some [q]) (hq:q=p) (h2:aX p=[p]) (hk:pz E gl k m rv d hs (ps++[.agg [p]]) μ Q):pz E gl (.op (.build [z0] [(0,1)]) xs k) m rv d hs ps μ Q:=by
 subst hq
 refine ⟨_,.agg [q],h,?_,hk⟩
 have h4:dK [(0,1)] [q] (List.map P.c [z0])=some [q]:=by
  simp only [dK,h2,pR,pS,List.length_cons,List.length_nil,Nat.zero_add,Nat.le_refl,and_self,if_true,cZ,pT]
 unfold aS
 have:bc (.build [z0] [(0,1)]) [q]=none:=rfl
 rw [this]
 simp only [h4]
theorem fA {n i off:Nat} {l:List P} {p:P} (h:takeL ps xs=some ([.lp i off,p],ps')) (hi:μ[i]? = some (.cells l)) (hl:(aX p).length=n) (ho:(aX p).all bz=true) (hle:off+n<=l.length) (hk:pz E gl k m rv true hs (ps'++[.c undef]) (μ.set i (.cells (cZ l off (aX p)))) Q):pz E gl (.op (.store n) xs k) m rv d hs ps μ Q :=
 ⟨i,off,p,ps',l,h,hi,hl,ho,hle,hk⟩
end
section
variable {E:Env} {gl:List GRow} {k a b:N} {m:Nat} {rv:Rv} {d:Bool} {hs:List Nat} {ps ps':List P} {μ μ':Mu} {Q:aW} {xs:List X}
theorem rO {x y:Int} (h:denF ps xs=some [.c (.int .i64 x),.c (.int .i64 y)]) (h0:-9223372036854775808<=x+y) (h1:x+y<=9223372036854775807) (hk:pz E gl k m rv d hs (ps++[.c (.int .i64 (x+y))]) μ Q):pz E gl (.op (.bin .add) xs k) m rv d hs ps μ Q :=
 ⟨_,_,h,(ko kp).trans (by simp only [jJ h0 h1]),hk⟩
theorem rP {x y:Int} (h:denF ps xs=some [.c (.int .i64 x),.c (.int .i64 y)]) (h0:-9223372036854775808<=x - y) (h1:x - y<=9223372036854775807) (hk:pz E gl k m rv d hs (ps++[.c (.int .i64 (x - y))]) μ Q):pz E gl (.op (.bin .sub) xs k) m rv d hs ps μ Q :=
 ⟨_,_,h,(ko kp).trans (by simp only [jJ h0 h1]),hk⟩
theorem rQ {kd:IntKind} {x:Int} (h:denF ps xs=some [.c (.int kd x)]) (h0:-9223372036854775808<=x) (h1:x<=9223372036854775807) (hk:pz E gl k m rv d hs (ps++[.c (.int .i64 x)]) μ Q):pz E gl (.op (.conv .i64) xs k) m rv d hs ps μ Q:=by
 refine ⟨_,.c (.int .i64 x),h,?_,hk⟩
 show some (P.c (.int .i64 (IntKind.wrap .i64 x)))=_
 rw [nH,jJ h0 h1]
theorem bS {p:Prop} [Decidable p] {x:X} (h:denF ps [x]=some [.c (.bool (decide p))]) (ha:p->pz E gl a m rv d hs ps μ Q) (hb:¬ p->pz E gl b m rv d hs ps μ Q):pz E gl (.br x a b) m rv d hs ps μ Q :=
 ⟨decide p,h,fun e=>ha (of_decide_eq_true e),fun e=>hb (of_decide_eq_false e)⟩
theorem cI {p:Prop} [Decidable p] {x:X} (h:denF ps [x]=some [.c (.bool !decide p)]) (ha:¬ p->pz E gl a m rv d hs ps μ Q) (hb:p->pz E gl b m rv d hs ps μ Q):pz E gl (.br x a b) m rv d hs ps μ Q :=
 ⟨!decide p,h,fun e=>ha (of_decide_eq_false (by simpa using e)),fun e=>hb (of_decide_eq_true (by simpa using e))⟩
theorem cm {sz n i:Nat} {l:List P} (h:denF ps xs=some [.sl sz n l,.c (.int .i64 i)]) (hi:i < n) (hk:pz E gl k m rv d hs (ps++[.ip l (i * sz)]) μ Q):pz E gl (.op (.idxA sz) xs k) m rv d hs ps μ Q:=by
 have e:aS (.idxA sz) [.sl sz n l,.c (.int .i64 (i:Int))]=some (.ip l (i * sz)):=(yW (sz:=sz) (n:=n) (i:=(i:Int)) (l:=l) (by omega) (by omega)).trans (by rw [Int.toNat_natCast])
 exact ⟨_,.ip l (i * sz),h,e,hk⟩
theorem nL {sz n i:Nat} {l:List P} (h:denF ps xs=some [.fx sz n l,.c (.int .i64 i)]) (hi:i < n) (hk:pz E gl k m rv d hs (ps++[.ip l (i * sz)]) μ Q):pz E gl (.op (.idxA sz) xs k) m rv d hs ps μ Q:=by
 have e:aS (.idxA sz) [.fx sz n l,.c (.int .i64 (i:Int))]=some (.ip l (i * sz)):=(yX (sz:=sz) (n:=n) (i:=(i:Int)) (l:=l) (by omega) (by omega)).trans (by rw [Int.toNat_natCast])
 exact ⟨_,.ip l (i * sz),h,e,hk⟩
theorem dG {off:Nat} {l:List P} {p:P} (h:denF ps xs=some [.ip l off]) (hl:l[off]? = some p) (hk:pz E gl k m rv d hs (ps++[p]) μ Q):pz E gl (.op (.load none) xs k) m rv d hs ps μ Q :=
 .inl ⟨_,p,h,yY hl,hk⟩
theorem ku {n off:Nat} {l:List P} (h:denF ps xs=some [.ip l off]) (hle:off+n<=l.length) (hk:pz E gl k m rv d hs (ps++[.agg ((l.drop off).take n)]) μ Q):pz E gl (.op (.load (some n)) xs k) m rv d hs ps μ Q :=
 .inl ⟨_,_,h,yZ hle,hk⟩
theorem yb {sz n i:Nat} {l:List P} (h:denF ps xs=some [.sl sz n l,.c (.int .i64 i)]) (hi:i<=n) (hk:pz E gl k m rv d hs (ps++[.sl sz (n - i) ((l.drop (i * sz)).take ((n - i) * sz))]) μ Q):pz E gl (.op (.subL sz true false false) xs k) m rv d hs ps μ Q:=by
 have e:aS (.subL sz true false false) [.sl sz n l,.c (.int .i64 (i:Int))]=some (.sl sz (n - i) ((l.drop (i * sz)).take ((n - i) * sz))):=by
  unfold aS
  have:bc (.subL sz true false false) [.sl sz n l,.c (.int .i64 (i:Int))]=none:=rfl
  rw [this]
  simp only [eT,if_true,List.head?_cons,List.tail_cons,Bool.false_eq_true,if_false,eS,bound]
  rw [if_pos (by omega)]
  simp
 exact ⟨_,_,h,e,hk⟩
theorem yc {s:ByteArray} {h:Nat} (h2:h<=s.size):aS (.subS false true) [.c (.string s),.c (.int .i64 h)]=some (.c (.string (s.extract 0 h))):=by
 have e1:aL (some (.int .i64 (h:Int))) s.size s.size=some h:=by
  show bound (.int .i64 (h:Int)) s.size=_
  unfold bound
  simp only
  rw [if_pos (by omega)]
  simp
 have e3:aB (.subS false true) [.string s,.int .i64 (h:Int)] st0=some (.string (s.extract 0 h),st0):=by
  show (match aL (some (.int .i64 (h:Int))) s.size s.size with
   | some h=>match aL none h 0 with
    | some l=>some (Value.string (s.extract l h),st0)
    | none=>none
   | none=>none)=_
  rw [e1]
  rfl
 have e4:bc (.subS false true) [.c (.string s),.c (.int .i64 h)]=some (.c (.string (s.extract 0 h))):=by
  show (match aB (.subS false true) [.string s,.int .i64 (h:Int)] st0 with
   | some (v,_)=>some (P.c v)
   | none=>none)=_
  rw [e3]
 unfold aS
 rw [e4]
theorem yd {s:ByteArray} {l:Nat} (h2:l<=s.size):aS (.subS true false) [.c (.string s),.c (.int .i64 l)]=some (.c (.string (s.extract l s.size))):=by
 have e1:aL (some (.int .i64 (l:Int))) s.size 0=some l:=by
  show bound (.int .i64 (l:Int)) s.size=_
  unfold bound
  simp only
  rw [if_pos (by omega)]
  simp
 have e3:aB (.subS true false) [.string s,.int .i64 (l:Int)] st0=some (.string (s.extract l s.size),st0):=by
  show (match aL (some (.int .i64 (l:Int))) s.size 0 with
    | some l=>some (Value.string (s.extract l s.size),st0)
    | none=>none)=_
  rw [e1]
 have e4:bc (.subS true false) [.c (.string s),.c (.int .i64 l)]=some (.c (.string (s.extract l s.size))):=by
  show (match aB (.subS true false) [.string s,.int .i64 (l:Int)] st0 with
   | some (v,_)=>some (P.c v)
   | none=>none)=_
  rw [e3]
 unfold aS
 rw [e4]
theorem rR {s:ByteArray} {h:Nat} (hd:denF ps xs=some [.c (.string s),.c (.int .i64 h)]) (h2:h<=s.size) (hk:pz E gl k m rv d hs (ps++[.c (.string (s.extract 0 h))]) μ Q):pz E gl (.op (.subS false true) xs k) m rv d hs ps μ Q:=⟨_,_,hd,yc h2,hk⟩
theorem nM {s:ByteArray} {l:Nat} (hd:denF ps xs=some [.c (.string s),.c (.int .i64 l)]) (h2:l<=s.size) (hk:pz E gl k m rv d hs (ps++[.c (.string (s.extract l s.size))]) μ Q):pz E gl (.op (.subS true false) xs k) m rv d hs ps μ Q:=⟨_,_,hd,yd h2,hk⟩
theorem rS {sz n i j:Nat} {l:List P} (h:denF ps xs=some [.sl sz n l,.c (.int .i64 i),.c (.int .i64 j)]) (hij:i<=j) (hj:j<=n) (hk:pz E gl k m rv d hs (ps++[.sl sz (j - i) ((l.drop (i * sz)).take ((j - i) * sz))]) μ Q):pz E gl (.op (.subL sz true true false) xs k) m rv d hs ps μ Q:=by
 refine ⟨_,.sl sz (j - i) ((l.drop (i * sz)).take ((j - i) * sz)),h,?_,hk⟩
 unfold aS
 have:bc (.subL sz true true false) [.sl sz n l,.c (.int .i64 i),.c (.int .i64 j)]=none:=rfl
 rw [this]
 simp only [eT,if_true,List.head?_cons,List.tail_cons,eS,bound]
 rw [if_pos (by omega)]
 simp only [Int.toNat_natCast]
 rw [if_pos (by omega)]
theorem ye {sz n j:Nat} {l:List P} (h:denF ps xs=some [.sl sz n l,.c (.int .i64 j)]) (hj:j<=n) (hk:pz E gl k m rv d hs (ps++[.sl sz j (l.take (j * sz))]) μ Q):pz E gl (.op (.subL sz false true false) xs k) m rv d hs ps μ Q:=by
 refine ⟨_,.sl sz j (l.take (j * sz)),h,?_,hk⟩
 unfold aS
 have:bc (.subL sz false true false) [.sl sz n l,.c (.int .i64 j)]=none:=rfl
 rw [this]
 simp only [eT,if_true,List.head?_cons,eS,bound,Bool.false_eq_true,if_false]
 rw [if_pos (by omega)]
 simp
theorem yf {body:N} {as vs:List P} (n:Nat) (h:takeL ps xs=some (as,ps')) (hl:LeL as vs)
  (hq:aQ (fun vs μ' Q'=>pz E gl body μ.length none false hs (ps'.map fz++vs) μ' Q') (fun o outs μ'=>pz E gl k m none false hs (ps'.map fz++.c (goInt o)::outs) μ' Q) n vs μ):pz E gl (.loop xs body k) m rv d hs ps μ Q:=⟨as,ps',n,vs,h,hl,hq⟩
theorem yg {W:List P->Mu->aW->Prop} {Q:aW} {n:Nat} {vs:List P} (h:W vs μ fun o outs μ'=>match o with
  | 0=>aQ W Q n outs μ'
  | o+1=>Q (o+1) outs μ'):aQ W Q (n+1) vs μ:=h
theorem yh (x:Nat) (l m:List Nat):(x::l)++m=x::(l++m):=rfl
theorem yi (m:List Nat):[]++m=m:=rfl
theorem yj {x y:Int} (h:denF ps xs=some [.c (.int .i64 x),.c (.int .i64 y)]) (h0:0<=x) (h1:0 < y) (h2:x<=9223372036854775807) (hk:pz E gl k m rv d hs (ps++[.c (.int .i64 (x / y))]) μ Q):pz E gl (.op (.bin .quo) xs k) m rv d hs ps μ Q:=by
 refine ⟨_,.c (.int .i64 (x / y)),h,?_,hk⟩
 have e:aS (.bin .quo) [.c (.int .i64 x),.c (.int .i64 y)]=(if y=0 then none else some (.c (.int .i64 (IntKind.wrap .i64 (x.tdiv y))))):=by
  by_cases hy:y=0
  ·subst hy;rfl
  ·unfold aS bc
   simp only [iI,unc,aB,fP,cU,if_true,jk,Bool.false_eq_true,if_false,mI,hy]
 rw [e,if_neg (by omega),Int.tdiv_eq_ediv_of_nonneg h0,nH,jJ]
 ·have:=Int.ediv_nonneg h0 (by omega:0<=y);omega
 ·have:=Int.ediv_le_self y h0;omega
def adm (T:N) (rv:Rv) (d:Bool) (hs:List Nat) (ps:List P):Option (N×Rv×Bool×List Nat×List P):=match T with
 | .bump n k=>some (k,some (ps.length,n,[]),false,hs,ps++[.any])
 | .save k=>some (k,rv,d,hs++[ps.length],ps)
 | .self x k=>match denF ps [x] with
  | some [p]=>if shal 40 p then some (k,rv,d,hs,ps) else none
  | _=>none
 | .chk i r xs x k=>match denF ps [x] with
  | some [p]=>if shal 40 p then (if eV r then some (k,rv,d,hs,ps) else match denF ps xs with
   | some as=>if dv r as then (match x,hs[i]? with
    | .at (.n j),some nv=>if Nat.ble nv j then some (k,rv,d,hs,ps) else none
    | _,_=>none) else some (k,rv,d,hs,ps)
   | none=>none) else none
  | _=>none
 | .sw x c a b=>match lY (ps.getD x .any) with
  | some n=>if Nat.beq n c then some (a,rv,d,hs,ps) else some (b,rv,d,hs,ps)
  | none=>none
 | _=>none
theorem rT {T T':N} {rv':Rv} {d':Bool} {hs':List Nat} (h:adm T rv d hs ps=some (T',rv',d',hs',ps')) (hk:pz E gl T' m rv' d' hs' ps' μ Q):pz E gl T m rv d hs ps μ Q:=by
 unfold adm at h
 split at h
 ·cases h;exact hk
 ·cases h;exact hk
 ·split at h
  ·rename_i p hp
   split at h
   ·rename_i hs0;cases h;exact ⟨⟨p,hp,hs0⟩,hk⟩
   ·cases h
  ·cases h
 ·split at h
  ·rename_i p hp
   split at h
   ·rename_i hs0
    split at h
    ·rename_i hm;cases h;exact ⟨⟨⟨p,hp,hs0⟩,.inl hm⟩,hk⟩
    ·split at h
     ·rename_i as ha
      split at h
      ·split at h
       ·rename_i j nv hv
        split at h
        ·rename_i hb;cases h;exact ⟨⟨⟨p,hp,hs0⟩,.inr (.inr ⟨nv,j,hv,rfl,Nat.le_of_ble_eq_true hb⟩)⟩,hk⟩
        ·cases h
       ·cases h
      ·rename_i hl
       cases h
       exact ⟨⟨⟨p,hp,hs0⟩,.inr (.inl ⟨as,ha,by simpa using hl⟩)⟩,hk⟩
     ·cases h
   ·cases h
  ·cases h
 ·split at h
  ·rename_i n hn
   split at h
   ·rename_i hb
    cases h
    have:=Nat.eq_of_beq_eq_true hb
    subst this
    exact ⟨n,hn,fun _=>hk,fun e=>absurd rfl e⟩
   ·rename_i hb
    cases h
    exact ⟨n,hn,fun e=>(by subst e;exact absurd (Nat.beq_refl n) hb),fun _=>hk⟩
  ·cases h
 ·cases h
theorem yk {r:SX.R} {as:List P} {p:P} (h:denF ps xs=some as) (hp:tw r as=some p) (hk:pz E gl k m rv d hs (ps++[p]) μ Q):pz E gl (.op r xs k) m rv d hs ps μ Q:=by
 have hq:=y7 hp
 cases r <;> first
  | (cases hp;done)
  | exact ⟨as,p,h,hq,hk⟩
end
attribute [go_sem] U5 U6 yh yi U7 U8 U3 U4 bG gd0 gds Tu Tv Tw Tx Ty Tz UA UB UC UD UE UF UG UH UI UJ UK UL UM UN UO UP UQ UR US UT UU UV UW UX UY UZ List.length_cons List.length_nil Nat.zero_add Nat.add_zero pT U0 U1 U2 pR pS cZ ite_true ite_false if_true List.drop_zero List.take_succ_cons List.take_zero List.take_nil
end Go.AM.PV
namespace Go.AM.PV
open Go Go.AM Go.AM.SX
attribute [local irreducible] pz
structure Reach (E:Env) (gl:List GRow) (m:Nat) (Q:aW) (T:N) (rv:Rv) (d:Bool) (hs:List Nat) (ps:List P) (μ:Mu) (T':N) (rv':Rv) (d':Bool) (hs':List Nat) (ps':List P) (μ':Mu):Prop where
 go:pz E gl T' m rv' d' hs' ps' μ' Q->pz E gl T m rv d hs ps μ Q
section
variable {E:Env} {gl:List GRow} {k a b T T' T1:N} {m:Nat} {rv rv' rv1:Rv} {d d' d1:Bool} {hs hs' hs1:List Nat} {ps ps' ps1:List P} {μ μ' μ1:Mu} {Q:aW} {xs:List X}
theorem yl:Reach E gl m Q T rv d hs ps μ T rv d hs ps μ:=⟨id⟩
theorem rU {r:SX.R} (h:stz r xs ps μ=some (ps1,μ1)) (hk:Reach E gl m Q k rv d hs ps1 μ1 T' rv' d' hs' ps' μ'):Reach E gl m Q (.op r xs k) rv d hs ps μ T' rv' d' hs' ps' μ':=⟨fun z=>jK h (hk.go z)⟩
theorem rV (h:adm T rv d hs ps=some (T1,rv1,d1,hs1,ps1)) (hk:Reach E gl m Q T1 rv1 d1 hs1 ps1 μ T' rv' d' hs' ps' μ'):Reach E gl m Q T rv d hs ps μ T' rv' d' hs' ps' μ':=⟨fun z=>rT h (hk.go z)⟩
theorem rW {x y:Int} (h:denF ps xs=some [.c (.int .i64 x),.c (.int .i64 y)]) (h1:-9223372036854775808<=x+y/\x+y<=9223372036854775807) (hk:Reach E gl m Q k rv d hs (ps++[.c (.int .i64 (x+y))]) μ T' rv' d' hs' ps' μ'):Reach E gl m Q (.op (.bin .add) xs k) rv d hs ps μ T' rv' d' hs' ps' μ':=⟨fun z=>rO h h1.1 h1.2 (hk.go z)⟩
theorem rX {x y:Int} (h:denF ps xs=some [.c (.int .i64 x),.c (.int .i64 y)]) (h1:-9223372036854775808<=x - y/\x - y<=9223372036854775807) (hk:Reach E gl m Q k rv d hs (ps++[.c (.int .i64 (x - y))]) μ T' rv' d' hs' ps' μ'):Reach E gl m Q (.op (.bin .sub) xs k) rv d hs ps μ T' rv' d' hs' ps' μ':=⟨fun z=>rP h h1.1 h1.2 (hk.go z)⟩
theorem rY {kd:IntKind} {x:Int} (h:denF ps xs=some [.c (.int kd x)]) (h1:-9223372036854775808<=x/\x<=9223372036854775807) (hk:Reach E gl m Q k rv d hs (ps++[.c (.int .i64 x)]) μ T' rv' d' hs' ps' μ'):Reach E gl m Q (.op (.conv .i64) xs k) rv d hs ps μ T' rv' d' hs' ps' μ':=⟨fun z=>rQ h h1.1 h1.2 (hk.go z)⟩
theorem rZ {sz n i:Nat} {l:List P} (h:denF ps xs=some [.sl sz n l,.c (.int .i64 i)]) (hi:i < n) (hk:Reach E gl m Q k rv d hs (ps++[.ip l (i * sz)]) μ T' rv' d' hs' ps' μ'):Reach E gl m Q (.op (.idxA sz) xs k) rv d hs ps μ T' rv' d' hs' ps' μ':=⟨fun z=>cm h hi (hk.go z)⟩
theorem r9 {sz n i:Nat} {l:List P} (h:denF ps xs=some [.fx sz n l,.c (.int .i64 i)]) (hi:i < n) (hk:Reach E gl m Q k rv d hs (ps++[.ip l (i * sz)]) μ T' rv' d' hs' ps' μ'):Reach E gl m Q (.op (.idxA sz) xs k) rv d hs ps μ T' rv' d' hs' ps' μ':=⟨fun z=>nL h hi (hk.go z)⟩
theorem rf {off:Nat} {l:List P} {p:P} (h:denF ps xs=some [.ip l off]) (hl:l[off]? = some p) (hk:Reach E gl m Q k rv d hs (ps++[p]) μ T' rv' d' hs' ps' μ'):Reach E gl m Q (.op (.load none) xs k) rv d hs ps μ T' rv' d' hs' ps' μ':=⟨fun z=>dG h hl (hk.go z)⟩
theorem rh {n:Option Nat} {i off:Nat} {p:P} (h:denF ps xs=some [.lp i off]) (hp:cA μ n i off=some p) (hd:(!d||bO k)=true) (hk:Reach E gl m Q k rv d hs (ps++[fz p]) μ T' rv' d' hs' ps' μ'):Reach E gl m Q (.op (.load n) xs k) rv d hs ps μ T' rv' d' hs' ps' μ':=⟨fun z=>y8 h hp (by cases d with
 | false=>exact .inl rfl
 | true=>exact .inr hd) (hk.go z)⟩
theorem ri {n i off:Nat} {l:List P} {p:P} (h:takeL ps xs=some ([.lp i off,p],ps1)) (hi:μ[i]? = some (.cells l)) (hc:(Nat.beq (aX p).length n&&(aX p).all bz&&Nat.ble (off+n) l.length)=true) (hk:Reach E gl m Q k rv true hs (ps1++[.c undef]) (μ.set i (.cells (cZ l off (aX p)))) T' rv' d' hs' ps' μ'):Reach E gl m Q (.op (.store n) xs k) rv d hs ps μ T' rv' d' hs' ps' μ':=⟨fun z=>by
 simp only [Bool.and_eq_true] at hc
 exact fA h hi (Nat.eq_of_beq_eq_true hc.1.1) hc.1.2 (Nat.le_of_ble_eq_true hc.2) (hk.go z)⟩
theorem rj {p:Prop} {dp:Decidable p} {x:X} (h:denF ps [x]=some [.c (.bool (@decide p dp))]) (hp:p) (hk:Reach E gl m Q a rv d hs ps μ T' rv' d' hs' ps' μ'):Reach E gl m Q (.br x a b) rv d hs ps μ T' rv' d' hs' ps' μ':=⟨fun z=>bS h (fun _=>hk.go z) (fun e=>absurd hp e)⟩
theorem rk {p:Prop} {dp:Decidable p} {x:X} (h:denF ps [x]=some [.c (.bool (@decide p dp))]) (hp:¬ p) (hk:Reach E gl m Q b rv d hs ps μ T' rv' d' hs' ps' μ'):Reach E gl m Q (.br x a b) rv d hs ps μ T' rv' d' hs' ps' μ':=⟨fun z=>bS h (fun e=>absurd e hp) (fun _=>hk.go z)⟩
theorem rl {p:Prop} {dp:Decidable p} {x:X} (h:denF ps [x]=some [.c (.bool !@decide p dp)]) (hp:¬ p) (hk:Reach E gl m Q a rv d hs ps μ T' rv' d' hs' ps' μ'):Reach E gl m Q (.br x a b) rv d hs ps μ T' rv' d' hs' ps' μ':=⟨fun z=>cI h (fun _=>hk.go z) (fun e=>absurd e hp)⟩
theorem rm {p:Prop} {dp:Decidable p} {x:X} (h:denF ps [x]=some [.c (.bool !@decide p dp)]) (hp:p) (hk:Reach E gl m Q b rv d hs ps μ T' rv' d' hs' ps' μ'):Reach E gl m Q (.br x a b) rv d hs ps μ T' rv' d' hs' ps' μ':=⟨fun z=>cI h (fun e=>absurd hp e) (fun _=>hk.go z)⟩
theorem rn {x:X} (h:denF ps [x]=some [.c (.bool true)]) (hk:Reach E gl m Q a rv d hs ps μ T' rv' d' hs' ps' μ'):Reach E gl m Q (.br x a b) rv d hs ps μ T' rv' d' hs' ps' μ':=⟨fun z=>cX h (hk.go z)⟩
theorem rp {x:X} (h:denF ps [x]=some [.c (.bool false)]) (hk:Reach E gl m Q b rv d hs ps μ T' rv' d' hs' ps' μ'):Reach E gl m Q (.br x a b) rv d hs ps μ T' rv' d' hs' ps' μ':=⟨fun z=>cg h (hk.go z)⟩
theorem rq {x:X} {t:Bool} (h:denF ps [x]=some [.c (.bool t)]) (ht:t=true) (hk:Reach E gl m Q a rv d hs ps μ T' rv' d' hs' ps' μ'):Reach E gl m Q (.br x a b) rv d hs ps μ T' rv' d' hs' ps' μ':=⟨fun z=>cX (ht ▸ h) (hk.go z)⟩
theorem ru {x:X} {t:Bool} (h:denF ps [x]=some [.c (.bool t)]) (ht:t=false) (hk:Reach E gl m Q b rv d hs ps μ T' rv' d' hs' ps' μ'):Reach E gl m Q (.br x a b) rv d hs ps μ T' rv' d' hs' ps' μ':=⟨fun z=>cg (ht ▸ h) (hk.go z)⟩
theorem ry {p:Prop} {dp:Decidable p} {x:X} (_:denF ps [x]=some [.c (.bool (@decide p dp))]) (hk:Reach E gl m Q a rv d hs ps μ T' rv' d' hs' ps' μ') (hb:Reach E gl m Q b rv d hs ps μ T' rv' d' hs' ps' μ'):Reach E gl m Q (.br x a b) rv d hs ps μ T' rv' d' hs' ps' μ':=⟨fun z=>by
 rename_i h
 exact bS h (fun _=>hk.go z) (fun _=>hb.go z)⟩
theorem rz {p:Prop} {dp:Decidable p} {x:X} (_:denF ps [x]=some [.c (.bool !@decide p dp)]) (hk:Reach E gl m Q a rv d hs ps μ T' rv' d' hs' ps' μ') (hb:Reach E gl m Q b rv d hs ps μ T' rv' d' hs' ps' μ'):Reach E gl m Q (.br x a b) rv d hs ps μ T' rv' d' hs' ps' μ':=⟨fun z=>by
 rename_i h
 exact cI h (fun _=>hk.go z) (fun _=>hb.go z)⟩
theorem sA {f:FuncId} {ys:List P} {r:P} (h:denF ps xs=some ys) (hp:PR E gl f ys μ r μ1) (hl:Nat.ble μ.length μ1.length=true) (hk:Reach E gl m Q k rv true hs (ps++[r]) μ1 T' rv' d' hs' ps' μ'):Reach E gl m Q (.call f xs k) rv d hs ps μ T' rv' d' hs' ps' μ':=⟨fun z=>aM h hp (Nat.le_of_ble_eq_true hl) (hk.go z)⟩
theorem sB {f:FuncId} {ys:List P} {r:P} (h:denF ps xs=some ys) (hp:PR E gl f ys [] r []) (ho:okm.okL 0 ys=true) (hk:Reach E gl m Q k rv true hs (ps++[r]) μ T' rv' d' hs' ps' μ'):Reach E gl m Q (.call f xs k) rv d hs ps μ T' rv' d' hs' ps' μ':=⟨fun z=>aM h (hp.frame ho μ) (Nat.le_refl _) (hk.go z)⟩
theorem sC {r:SX.R} {ys:List P} {p:P} (h:denF ps xs=some ys) (hp:tw r ys=some p) (hk:Reach E gl m Q k rv d hs (ps++[p]) μ T' rv' d' hs' ps' μ'):Reach E gl m Q (.op r xs k) rv d hs ps μ T' rv' d' hs' ps' μ':=⟨fun z=>yk h hp (hk.go z)⟩
theorem aA (hk:pz E gl T' m rv' d' hs' ps' μ' Q) (h:Reach E gl m Q T rv d hs ps μ T' rv' d' hs' ps' μ':=by
  (first
   | (apply rU;rfl;(try dsimp only [go_sem]))
   | (apply rV;rfl;(try dsimp only [go_sem]))
   | (apply rW;rfl;omega;(try dsimp only [go_sem]))
   | (apply rX;rfl;omega;(try dsimp only [go_sem]))
   | (apply rY;rfl;omega;(try dsimp only [go_sem]))
   | (apply rZ;rfl;omega;(try dsimp only [go_sem]))
   | (apply r9;rfl;omega;(try dsimp only [go_sem]))
   | (apply rf;rfl;assumption;(try dsimp only [go_sem]))
   | (apply rh;rfl;rfl;rfl;(try dsimp only [go_sem]))
   | (apply ri;rfl;rfl;rfl;(try dsimp only [go_sem]))
   | (apply rj;rfl;omega)
   | (apply rk;rfl;omega)
   | (apply rl;rfl;omega)
   | (apply rm;rfl;omega)
   | (apply rq;rfl;assumption)
   | (apply ru;rfl;assumption)
   | (apply sA;rfl;apply_assumption;rfl;(try dsimp only [go_sem]))
   | (apply sB;rfl;apply_assumption;rfl;(try dsimp only [go_sem]))
   | ((fail_if_success (apply ry;rfl));(fail_if_success (apply rz;rfl));(first | (apply rn;rfl) | (apply rp;rfl)))
   | (apply sC;rfl;rfl;(try dsimp only [go_sem])))
  (repeat (first
   | (apply rU;rfl;(try dsimp only [go_sem]))
   | (apply rV;rfl;(try dsimp only [go_sem]))
   | (apply rW;rfl;omega;(try dsimp only [go_sem]))
   | (apply rX;rfl;omega;(try dsimp only [go_sem]))
   | (apply rY;rfl;omega;(try dsimp only [go_sem]))
   | (apply rZ;rfl;omega;(try dsimp only [go_sem]))
   | (apply r9;rfl;omega;(try dsimp only [go_sem]))
   | (apply rf;rfl;assumption;(try dsimp only [go_sem]))
   | (apply rh;rfl;rfl;rfl;(try dsimp only [go_sem]))
   | (apply ri;rfl;rfl;rfl;(try dsimp only [go_sem]))
   | (apply rj;rfl;omega)
   | (apply rk;rfl;omega)
   | (apply rl;rfl;omega)
   | (apply rm;rfl;omega)
   | (apply rq;rfl;assumption)
   | (apply ru;rfl;assumption)
   | (apply sA;rfl;apply_assumption;rfl;(try dsimp only [go_sem]))
   | (apply sB;rfl;apply_assumption;rfl;(try dsimp only [go_sem]))
   | ((fail_if_success (apply ry;rfl));(fail_if_success (apply rz;rfl));(first | (apply rn;rfl) | (apply rp;rfl)))
   | (apply sC;rfl;rfl;(try dsimp only [go_sem]))))
  exact yl):pz E gl T m rv d hs ps μ Q:=h.go hk
end
end Go.AM.PV
namespace Go.AM.PV
open Go Go.AM Go.AM.SX
attribute [local irreducible] pz aQ
structure To (A B:Prop):Prop where
 go:B->A
section
variable {E:Env} {gl:List GRow} {k a b T T1:N} {m:Nat} {rv rv1:Rv} {d d1:Bool} {hs hs1:List Nat} {ps ps' ps1:List P} {μ μ1:Mu} {Q:aW} {xs:List X} {B:Prop}
theorem ym {A:Prop}:To A A:=⟨id⟩
theorem sD {r:SX.R} (h:stz r xs ps μ=some (ps1,μ1)) (hk:To (pz E gl k m rv d hs ps1 μ1 Q) B):To (pz E gl (.op r xs k) m rv d hs ps μ Q) B:=⟨fun z=>jK h (hk.go z)⟩
theorem sE (h:adm T rv d hs ps=some (T1,rv1,d1,hs1,ps1)) (hk:To (pz E gl T1 m rv1 d1 hs1 ps1 μ Q) B):To (pz E gl T m rv d hs ps μ Q) B:=⟨fun z=>rT h (hk.go z)⟩
theorem sF {x y:Int} (h:denF ps xs=some [.c (.int .i64 x),.c (.int .i64 y)]) (h1:-9223372036854775808<=x+y/\x+y<=9223372036854775807) (hk:To (pz E gl k m rv d hs (ps++[.c (.int .i64 (x+y))]) μ Q) B):To (pz E gl (.op (.bin .add) xs k) m rv d hs ps μ Q) B:=⟨fun z=>rO h h1.1 h1.2 (hk.go z)⟩
theorem sG {x y:Int} (h:denF ps xs=some [.c (.int .i64 x),.c (.int .i64 y)]) (h1:-9223372036854775808<=x - y/\x - y<=9223372036854775807) (hk:To (pz E gl k m rv d hs (ps++[.c (.int .i64 (x - y))]) μ Q) B):To (pz E gl (.op (.bin .sub) xs k) m rv d hs ps μ Q) B:=⟨fun z=>rP h h1.1 h1.2 (hk.go z)⟩
theorem sH {kd:IntKind} {x:Int} (h:denF ps xs=some [.c (.int kd x)]) (h1:-9223372036854775808<=x/\x<=9223372036854775807) (hk:To (pz E gl k m rv d hs (ps++[.c (.int .i64 x)]) μ Q) B):To (pz E gl (.op (.conv .i64) xs k) m rv d hs ps μ Q) B:=⟨fun z=>rQ h h1.1 h1.2 (hk.go z)⟩
theorem sI {p:Prop} {dp:Decidable p} {x:X} (h:denF ps [x]=some [.c (.bool (@decide p dp))]) (hp:p) (hk:To (pz E gl a m rv d hs ps μ Q) B):To (pz E gl (.br x a b) m rv d hs ps μ Q) B:=⟨fun z=>bS h (fun _=>hk.go z) (fun e=>absurd hp e)⟩
theorem sJ {p:Prop} {dp:Decidable p} {x:X} (h:denF ps [x]=some [.c (.bool (@decide p dp))]) (hp:¬ p) (hk:To (pz E gl b m rv d hs ps μ Q) B):To (pz E gl (.br x a b) m rv d hs ps μ Q) B:=⟨fun z=>bS h (fun e=>absurd e hp) (fun _=>hk.go z)⟩
theorem sK {p:Prop} {dp:Decidable p} {x:X} (h:denF ps [x]=some [.c (.bool !@decide p dp)]) (hp:¬ p) (hk:To (pz E gl a m rv d hs ps μ Q) B):To (pz E gl (.br x a b) m rv d hs ps μ Q) B:=⟨fun z=>cI h (fun _=>hk.go z) (fun e=>absurd e hp)⟩
theorem sL {p:Prop} {dp:Decidable p} {x:X} (h:denF ps [x]=some [.c (.bool !@decide p dp)]) (hp:p) (hk:To (pz E gl b m rv d hs ps μ Q) B):To (pz E gl (.br x a b) m rv d hs ps μ Q) B:=⟨fun z=>cI h (fun e=>absurd hp e) (fun _=>hk.go z)⟩
theorem sM {x:X} (h:denF ps [x]=some [.c (.bool true)]) (hk:To (pz E gl a m rv d hs ps μ Q) B):To (pz E gl (.br x a b) m rv d hs ps μ Q) B:=⟨fun z=>cX h (hk.go z)⟩
theorem sN {x:X} (h:denF ps [x]=some [.c (.bool false)]) (hk:To (pz E gl b m rv d hs ps μ Q) B):To (pz E gl (.br x a b) m rv d hs ps μ Q) B:=⟨fun z=>cg h (hk.go z)⟩
theorem sO {p:Prop} {dp:Decidable p} {x:X} (_:denF ps [x]=some [.c (.bool (@decide p dp))]) (hk:To (pz E gl a m rv d hs ps μ Q) B) (hb:To (pz E gl b m rv d hs ps μ Q) B):To (pz E gl (.br x a b) m rv d hs ps μ Q) B:=⟨fun z=>by
 rename_i h
 exact bS h (fun _=>hk.go z) (fun _=>hb.go z)⟩
theorem sP {p:Prop} {dp:Decidable p} {x:X} (_:denF ps [x]=some [.c (.bool !@decide p dp)]) (hk:To (pz E gl a m rv d hs ps μ Q) B) (hb:To (pz E gl b m rv d hs ps μ Q) B):To (pz E gl (.br x a b) m rv d hs ps μ Q) B:=⟨fun z=>by
 rename_i h
 exact cI h (fun _=>hk.go z) (fun _=>hb.go z)⟩
theorem sQ {f:FuncId} {ys:List P} {r:P} (h:denF ps xs=some ys) (hp:PR E gl f ys μ r μ1) (hl:Nat.ble μ.length μ1.length=true) (hk:To (pz E gl k m rv true hs (ps++[r]) μ1 Q) B):To (pz E gl (.call f xs k) m rv d hs ps μ Q) B:=⟨fun z=>aM h hp (Nat.le_of_ble_eq_true hl) (hk.go z)⟩
theorem sR {x y:Int} (h:denF ps xs=some [.c (.int .i64 x),.c (.int .i64 y)]) (h0:0<=x) (h1:0 < y) (h2:x<=9223372036854775807) (hk:To (pz E gl k m rv d hs (ps++[.c (.int .i64 (x / y))]) μ Q) B):To (pz E gl (.op (.bin .quo) xs k) m rv d hs ps μ Q) B:=⟨fun z=>yj h h0 h1 h2 (hk.go z)⟩
theorem sS {body:N} {ys:List P} (h:takeL ps xs=some (ys,ps'))
  (hq:To (aQ (fun vs μ' Q'=>pz E gl body μ.length none false hs (ps'.map fz++vs) μ' Q') (fun o outs μ'=>pz E gl k m none false hs (ps'.map fz++.c (goInt o)::outs) μ' Q) 12 ys μ) B):To (pz E gl (.loop xs body k) m rv d hs ps μ Q) B:=⟨fun z=>yf 12 h (LeL.refl _) (hq.go z)⟩
theorem sT {W:List P->Mu->aW->Prop} {n:Nat} {vs:List P} (h:To (W vs μ fun o outs μ'=>match o with
  | 0=>aQ W Q n outs μ'
  | o+1=>Q (o+1) outs μ') B):To (aQ W Q (n+1) vs μ) B:=⟨fun z=>yg (h.go z)⟩
theorem sU {o:Nat} {ys:List P} (h:takeL ps xs=some (ys,ps')) (hq:To (Q o ys μ) B):To (pz E gl (.fin o xs) m rv d hs ps μ Q) B:=⟨fun z=>aF h (hq.go z)⟩
theorem ai {A:Prop} (hk:B) (h:To A B:=by
  (first
   | (apply sD;rfl;(try dsimp only [go_sem,List.size_toArray,Int.reduceAdd,Int.reduceSub,Int.reduceNeg,Int.reduceDiv,Nat.reduceAdd,Nat.reduceMul,Int.cast_ofNat_Int,UInt8.reduceToNat]))
   | (apply sE;rfl;(try dsimp only [go_sem,List.size_toArray,Int.reduceAdd,Int.reduceSub,Int.reduceNeg,Int.reduceDiv,Nat.reduceAdd,Nat.reduceMul,Int.cast_ofNat_Int,UInt8.reduceToNat]))
   | (apply sF;rfl;omega;(try dsimp only [go_sem,List.size_toArray,Int.reduceAdd,Int.reduceSub,Int.reduceNeg,Int.reduceDiv,Nat.reduceAdd,Nat.reduceMul,Int.cast_ofNat_Int,UInt8.reduceToNat]))
   | (apply sG;rfl;omega;(try dsimp only [go_sem,List.size_toArray,Int.reduceAdd,Int.reduceSub,Int.reduceNeg,Int.reduceDiv,Nat.reduceAdd,Nat.reduceMul,Int.cast_ofNat_Int,UInt8.reduceToNat]))
   | (apply sH;rfl;omega;(try dsimp only [go_sem,List.size_toArray,Int.reduceAdd,Int.reduceSub,Int.reduceNeg,Int.reduceDiv,Nat.reduceAdd,Nat.reduceMul,Int.cast_ofNat_Int,UInt8.reduceToNat]))
   | (apply sR;rfl;omega;omega;omega;(try dsimp only [go_sem,List.size_toArray,Int.reduceAdd,Int.reduceSub,Int.reduceNeg,Int.reduceDiv,Nat.reduceAdd,Nat.reduceMul,Int.cast_ofNat_Int,UInt8.reduceToNat]))
   | (apply sI;rfl;omega)
   | (apply sJ;rfl;omega)
   | (apply sK;rfl;omega)
   | (apply sL;rfl;omega)
   | (apply sQ;rfl;apply_assumption;rfl;(try dsimp only [go_sem,List.size_toArray,Int.reduceAdd,Int.reduceSub,Int.reduceNeg,Int.reduceDiv,Nat.reduceAdd,Nat.reduceMul,Int.cast_ofNat_Int,UInt8.reduceToNat]))
   | (apply sS;rfl;(try dsimp only [go_sem,List.size_toArray,Int.reduceAdd,Int.reduceSub,Int.reduceNeg,Int.reduceDiv,Nat.reduceAdd,Nat.reduceMul,Int.cast_ofNat_Int,UInt8.reduceToNat]))
   | (apply sT;(try dsimp only [go_sem,List.size_toArray,Int.reduceAdd,Int.reduceSub,Int.reduceNeg,Int.reduceDiv,Nat.reduceAdd,Nat.reduceMul,Int.cast_ofNat_Int,UInt8.reduceToNat]))
   | (apply sU;rfl;(try dsimp only [go_sem,List.size_toArray,Int.reduceAdd,Int.reduceSub,Int.reduceNeg,Int.reduceDiv,Nat.reduceAdd,Nat.reduceMul,Int.cast_ofNat_Int,UInt8.reduceToNat]))
   | ((fail_if_success (apply sO;rfl));(fail_if_success (apply sP;rfl));(first | (apply sM;rfl) | (apply sN;rfl))))
  (repeat (first
   | (apply sD;rfl;(try dsimp only [go_sem,List.size_toArray,Int.reduceAdd,Int.reduceSub,Int.reduceNeg,Int.reduceDiv,Nat.reduceAdd,Nat.reduceMul,Int.cast_ofNat_Int,UInt8.reduceToNat]))
   | (apply sE;rfl;(try dsimp only [go_sem,List.size_toArray,Int.reduceAdd,Int.reduceSub,Int.reduceNeg,Int.reduceDiv,Nat.reduceAdd,Nat.reduceMul,Int.cast_ofNat_Int,UInt8.reduceToNat]))
   | (apply sF;rfl;omega;(try dsimp only [go_sem,List.size_toArray,Int.reduceAdd,Int.reduceSub,Int.reduceNeg,Int.reduceDiv,Nat.reduceAdd,Nat.reduceMul,Int.cast_ofNat_Int,UInt8.reduceToNat]))
   | (apply sG;rfl;omega;(try dsimp only [go_sem,List.size_toArray,Int.reduceAdd,Int.reduceSub,Int.reduceNeg,Int.reduceDiv,Nat.reduceAdd,Nat.reduceMul,Int.cast_ofNat_Int,UInt8.reduceToNat]))
   | (apply sH;rfl;omega;(try dsimp only [go_sem,List.size_toArray,Int.reduceAdd,Int.reduceSub,Int.reduceNeg,Int.reduceDiv,Nat.reduceAdd,Nat.reduceMul,Int.cast_ofNat_Int,UInt8.reduceToNat]))
   | (apply sR;rfl;omega;omega;omega;(try dsimp only [go_sem,List.size_toArray,Int.reduceAdd,Int.reduceSub,Int.reduceNeg,Int.reduceDiv,Nat.reduceAdd,Nat.reduceMul,Int.cast_ofNat_Int,UInt8.reduceToNat]))
   | (apply sI;rfl;omega)
   | (apply sJ;rfl;omega)
   | (apply sK;rfl;omega)
   | (apply sL;rfl;omega)
   | (apply sQ;rfl;apply_assumption;rfl;(try dsimp only [go_sem,List.size_toArray,Int.reduceAdd,Int.reduceSub,Int.reduceNeg,Int.reduceDiv,Nat.reduceAdd,Nat.reduceMul,Int.cast_ofNat_Int,UInt8.reduceToNat]))
   | (apply sS;rfl;(try dsimp only [go_sem,List.size_toArray,Int.reduceAdd,Int.reduceSub,Int.reduceNeg,Int.reduceDiv,Nat.reduceAdd,Nat.reduceMul,Int.cast_ofNat_Int,UInt8.reduceToNat]))
   | (apply sT;(try dsimp only [go_sem,List.size_toArray,Int.reduceAdd,Int.reduceSub,Int.reduceNeg,Int.reduceDiv,Nat.reduceAdd,Nat.reduceMul,Int.cast_ofNat_Int,UInt8.reduceToNat]))
   | (apply sU;rfl;(try dsimp only [go_sem,List.size_toArray,Int.reduceAdd,Int.reduceSub,Int.reduceNeg,Int.reduceDiv,Nat.reduceAdd,Nat.reduceMul,Int.cast_ofNat_Int,UInt8.reduceToNat]))
   | ((fail_if_success (apply sO;rfl));(fail_if_success (apply sP;rfl));(first | (apply sM;rfl) | (apply sN;rfl)))))
  exact ym):A:=h.go hk
end
end Go.AM.PV
namespace Go.AM.PV
open Go Go.AM Go.AM.SX
variable (inf:Nat->TypeInfo)
def bs (l:List UInt8):Value:=.string ⟨l.toArray⟩
@[reducible] def ld (k:Nat) (n:N):N:=.op (.load none) [vn k] n
@[reducible] def bo (o:BinOp) (x:List X) (n:N):N:=.op (.bin o) x n
def yn:N:=.op (.idxA 1) [vn 0,vn 2] (ld 5 (.call 20 [vn 6] (.op (.newSl 35 [(.int .i64 0),(.int .i64 0),(bs []),(.slice none 0 0)] [(0,4)]) [vn 7] (.op (.app 35 (inf 35) (.agg #[(.int .i64 0),(.int .i64 0),(bs []),(.slice none 0 0)])) [vn 1,.sl (.n 8) 1] (bo .add [vn 2,vi 1] (.fin 0 [vn 9,vn 10]))))))
def yo:N:=.op .lenL [vn 0] (bo .lss [vn 2,vn 3] (.br (vn 4) (yn inf) (.fin 2 [vn 1,vn 2])))
def yp:N:=.sw 1 2 (.fin 1 [vn 2]) .bad
def t11:N:=.loop [vv (.slice none 0 0),vi 0] (yo inf) yp
def yq:N:=.op (.idxA 4) [vn 0,vn 2] (.op (.load (some 4)) [vn 5] (.call 19 [vn 6] (.op (.newSl 41 [.nilIface] [(0,1)]) [vn 7] (.op (.app 41 (inf 41) .nilIface) [vn 1,.sl (.n 8) 1] (bo .add [vn 2,vi 1] (.fin 0 [vn 9,vn 10]))))))
def yr:N:=.op .lenL [vn 0] (bo .lss [vn 2,vn 3] (.br (vn 4) (yq inf) (.fin 2 [vn 1,vn 2])))
def yt:N:=.sw 1 2 (.fin 1 [vn 2]) .bad
def t12:N:=.loop [vv (.slice none 0 0),vi 0] (yr inf) yt
def yu:N:=.op (.fld 1) [vn 1] (ld 5 (.op (.build [(.int .i64 0)] [(0,1)]) [vn 6] (.fin 1 [.ifc 45 (.n 7)])))
def yv:N:=.op (.fld 2) [vn 1] (ld 6 (.op (.build [(bs [])] [(0,1)]) [vn 7] (.fin 1 [.ifc 72 (.n 8)])))
def yw:N:=.op (.fld 1) [vn 1] (ld 7 (bo .neq [vn 8,vi 0] (.op (.build [(.bool false)] [(0,1)]) [vn 9] (.fin 1 [.ifc 49 (.n 10)]))))
def yx:N:=.op (.fld 3) [vn 1] (ld 8 (.call 12 [vn 9] (.op (.build [(.slice none 0 0)] [(0,1)]) [vn 10] (.fin 1 [.ifc 52 (.n 11)]))))
def yy:N:=.op (.fld 3) [vn 1] (ld 9 (.call 34 [vn 10] (.op (.build [(.slice none 0 0)] [(0,1)]) [vn 11] (.fin 1 [.ifc 76 (.n 12)]))))
def yz:N:=.op (.fld 1) [vn 1] (ld 10 (.op (.build [(.int .i64 0)] [(0,1)]) [vn 11] (.fin 1 [.ifc 78 (.n 12)])))
def zA:N:=bo .eql [vn 3,vi 6] (.br (vn 9) yz (.fin 1 [vv .nilIface]))
def zB:N:=bo .eql [vn 3,vi 5] (.br (vn 8) yy zA)
def zC:N:=bo .eql [vn 3,vi 4] (.br (vn 7) yx zB)
def zD:N:=bo .eql [vn 3,vi 3] (.br (vn 6) yw zC)
def zE:N:=bo .eql [vn 3,vi 2] (.br (vn 5) yv zD)
def t19:N:=.op (.box 35) [vn 0] (.op (.fld 0) [vn 1] (ld 2 (bo .eql [vn 3,vi 1] (.br (vn 4) yu zE))))
def zF:N:=.op (.alloc 45 [(.int .i64 0)]) [] (.op (.store 1) [vn 5,vn 4] (.op (.fld 0) [vn 5] (ld 7 (.op (.build [(.int .i64 0),(.int .i64 0),(bs []),(.slice none 0 0)] [(0,1),(1,1)]) [vi 1,vn 8] (.op (.store 4) [vn 1,vn 9] (.op (.load (some 4)) [vn 1] (.fin 1 [vn 11])))))))
def zG:N:=.op (.alloc 72 [(bs [])]) [] (.op (.store 1) [vn 8,vn 7] (.op (.fld 0) [vn 8] (ld 10 (.op (.build [(.int .i64 0),(.int .i64 0),(bs []),(.slice none 0 0)] [(0,1),(2,1)]) [vi 2,vn 11] (.op (.store 4) [vn 1,vn 12] (.op (.load (some 4)) [vn 1] (.fin 1 [vn 14])))))))
def zH:N:=.op (.build [(.int .i64 0),(.int .i64 0),(bs []),(.slice none 0 0)] [(0,1),(1,1)]) [vi 3,vi 1] (.op (.store 4) [vn 1,vn 15] (.op (.load (some 4)) [vn 1] (.fin 1 [vn 17])))
def zI:N:=.op (.build [(.int .i64 0),(.int .i64 0),(bs []),(.slice none 0 0)] [(0,1)]) [vi 3] (.op (.store 4) [vn 1,vn 15] (.op (.load (some 4)) [vn 1] (.fin 1 [vn 17])))
def zJ:N:=.op (.alloc 49 [(.bool false)]) [] (.op (.store 1) [vn 11,vn 10] (.op (.fld 0) [vn 11] (ld 13 (.br (vn 14) zH zI))))
def zK:N:=.op (.alloc 52 [(.slice none 0 0)]) [] (.op (.store 1) [vn 14,vn 13] (.op (.fld 0) [vn 14] (ld 16 (.call 11 [vn 17] (.op (.build [(.int .i64 0),(.int .i64 0),(bs []),(.slice none 0 0)] [(0,1),(3,1)]) [vi 4,vn 18] (.op (.store 4) [vn 1,vn 19] (.op (.load (some 4)) [vn 1] (.fin 1 [vn 21]))))))))
def zL:N:=.op (.alloc 76 [(.slice none 0 0)]) [] (.op (.store 1) [vn 17,vn 16] (.op (.fld 0) [vn 17] (ld 19 (.call 35 [vn 20] (.op (.build [(.int .i64 0),(.int .i64 0),(bs []),(.slice none 0 0)] [(0,1),(3,1)]) [vi 5,vn 21] (.op (.store 4) [vn 1,vn 22] (.op (.load (some 4)) [vn 1] (.fin 1 [vn 24]))))))))
def zM:N:=.op (.alloc 78 [(.int .i64 0)]) [] (.op (.store 1) [vn 20,vn 19] (.op (.fld 0) [vn 20] (ld 22 (.op (.build [(.int .i64 0),(.int .i64 0),(bs []),(.slice none 0 0)] [(0,1),(1,1)]) [vi 6,vn 23] (.op (.store 4) [vn 1,vn 24] (.op (.load (some 4)) [vn 1] (.fin 1 [vn 26])))))))
def zN:N:=.op (.build [(.int .i64 0),(.int .i64 0),(bs []),(.slice none 0 0)] [(0,1)]) [vi 8] (.op (.store 4) [vn 1,vn 20] (.op (.load (some 4)) [vn 1] (.fin 1 [vn 22])))
def zO:N:=.op (.ta 78 (.agg #[(.int .i64 0)]) true) [vn 0] (.op (.ext 1) [vn 17] (.op (.ext 0) [vn 17] (.br (vn 18) zM zN)))
def zP:N:=.op (.ta 76 (.agg #[(.slice none 0 0)]) true) [vn 0] (.op (.ext 1) [vn 14] (.op (.ext 0) [vn 14] (.br (vn 15) zL zO)))
def zQ:N:=.op (.ta 52 (.agg #[(.slice none 0 0)]) true) [vn 0] (.op (.ext 1) [vn 11] (.op (.ext 0) [vn 11] (.br (vn 12) zK zP)))
def zR:N:=.op (.ta 49 (.agg #[(.bool false)]) true) [vn 0] (.op (.ext 1) [vn 8] (.op (.ext 0) [vn 8] (.br (vn 9) zJ zQ)))
def zS:N:=.op (.ta 72 (.agg #[(bs [])]) true) [vn 0] (.op (.ext 1) [vn 5] (.op (.ext 0) [vn 5] (.br (vn 6) zG zR)))
def t20:N:=.op (.alloc 35 [(.int .i64 0),(.int .i64 0),(bs []),(.slice none 0 0)]) [] (.op (.ta 45 (.agg #[(.int .i64 0)]) true) [vn 0] (.op (.ext 1) [vn 2] (.op (.ext 0) [vn 2] (.br (vn 3) zF zS))))
def zT:N:=.op (.idxA 4) [vn 0,vn 2] (.op (.load (some 4)) [vn 5] (.call 58 [vn 6] (.op (.newSl 100 [.nilIface] [(0,1)]) [vn 7] (.op (.app 100 (inf 100) .nilIface) [vn 1,.sl (.n 8) 1] (bo .add [vn 2,vi 1] (.fin 0 [vn 9,vn 10]))))))
def zU:N:=.op .lenL [vn 0] (bo .lss [vn 2,vn 3] (.br (vn 4) (zT inf) (.fin 2 [vn 1,vn 2])))
def zV:N:=.sw 1 2 (.fin 1 [vn 2]) .bad
def t34:N:=.loop [vv (.slice none 0 0),vi 0] (zU inf) zV
def zW:N:=.op (.idxA 1) [vn 0,vn 2] (ld 5 (.call 59 [vn 6] (.op (.newSl 35 [(.int .i64 0),(.int .i64 0),(bs []),(.slice none 0 0)] [(0,4)]) [vn 7] (.op (.app 35 (inf 35) (.agg #[(.int .i64 0),(.int .i64 0),(bs []),(.slice none 0 0)])) [vn 1,.sl (.n 8) 1] (bo .add [vn 2,vi 1] (.fin 0 [vn 9,vn 10]))))))
def zX:N:=.op .lenL [vn 0] (bo .lss [vn 2,vn 3] (.br (vn 4) (zW inf) (.fin 2 [vn 1,vn 2])))
def zY:N:=.sw 1 2 (.fin 1 [vn 2]) .bad
def t35:N:=.loop [vv (.slice none 0 0),vi 0] (zX inf) zY
def zZ:N:=.op (.fld 2) [vn 1] (ld 5 (.op (.build [(bs [])] [(0,1)]) [vn 6] (.fin 1 [.ifc 153 (.n 7)])))
def z7:N:=.op (.load (some 4)) [vn 1] (.call 19 [vn 11] (.op (.build [.nilIface] [(0,1)]) [vn 12] (.fin 1 [.ifc 134 (.n 13)])))
def z8:N:=.op (.fld 0) [vn 1] (ld 8 (bo .gtr [vn 9,vi 6] (.br (vn 10) (.fin 1 [vv .nilIface]) z7)))
def za:N:=.op (.fld 0) [vn 1] (ld 5 (bo .lss [vn 6,vi 1] (.br (vn 7) (.fin 1 [vv .nilIface]) z8)))
def t58:N:=.op (.box 35) [vn 0] (.op (.fld 0) [vn 1] (ld 2 (bo .eql [vn 3,vi 7] (.br (vn 4) zZ za))))
def zb:N:=.op (.alloc 134 [.nilIface]) [] (.op (.store 1) [vn 5,vn 4] (.op (.fld 0) [vn 5] (ld 7 (.call 20 [vn 8] (.op (.store 4) [vn 1,vn 9] (.op (.load (some 4)) [vn 1] (.fin 1 [vn 11])))))))
def zc:N:=.op (.alloc 153 [(bs [])]) [] (.op (.store 1) [vn 8,vn 7] (.op (.fld 0) [vn 8] (ld 10 (.op (.build [(.int .i64 0),(.int .i64 0),(bs []),(.slice none 0 0)] [(0,1),(2,1)]) [vi 7,vn 11] (.op (.store 4) [vn 1,vn 12] (.op (.load (some 4)) [vn 1] (.fin 1 [vn 14])))))))
def zd:N:=.op (.build [(.int .i64 0),(.int .i64 0),(bs []),(.slice none 0 0)] [(0,1)]) [vi 8] (.op (.store 4) [vn 1,vn 8] (.op (.load (some 4)) [vn 1] (.fin 1 [vn 10])))
def ze:N:=.op (.ta 153 (.agg #[(bs [])]) true) [vn 0] (.op (.ext 1) [vn 5] (.op (.ext 0) [vn 5] (.br (vn 6) zc zd)))
def t59:N:=.op (.alloc 35 [(.int .i64 0),(.int .i64 0),(bs []),(.slice none 0 0)]) [] (.op (.ta 134 (.agg #[.nilIface]) true) [vn 0] (.op (.ext 1) [vn 2] (.op (.ext 0) [vn 2] (.br (vn 3) zb ze))))
def zf:N:=bo .add [vn 6,vi 1] (.fin 0 [vn 5,vn 16])
def zg:N:=.bump 10 (.save (.op (.idxA 4) [vn 0,vn 6] (.op (.load (some 4)) [vn 10] (.op (.idxA 4) [vn 1,vn 6] (.op (.load (some 4)) [vn 12] (.call 32 [vn 11,vn 13] (.save (.op .not [vn 14] (.self (vn 0) (.self (vn 6) (.chk 0 (.idxA 4) [vn 0,vn 6] (vn 10) (.chk 0 (.load (some 4)) [vn 10] (vn 11) (.self (vn 1) (.self (vn 6) (.chk 0 (.idxA 4) [vn 1,vn 6] (vn 12) (.chk 0 (.load (some 4)) [vn 12] (vn 13) (.chk 1 .not [vn 14] (vn 15) (.br (vn 15) (.fin 1 [vv (.bool false),vn 6]) zf))))))))))))))))))
def zh:N:=.op .lenL [vn 0] (bo .lss [vn 6,vn 7] (.br (vn 8) zg (.fin 2 [vn 5,vn 6])))
def zi:N:=.sw 5 2 (.fin 1 [vv (.bool true)]) .bad
def zj:N:=.sw 5 1 (.fin 1 [vn 6]) zi
def zk:N:=.loop [vv (.bool false),vi 0] zh zj
def t15:N:=.op .lenL [vn 0] (.op .lenL [vn 1] (bo .neq [vn 2,vn 3] (.br (vn 4) (.fin 1 [vv (.bool false)]) zk)))
def zl:N:=.op (.fld 0) [vn 1] (ld 7 (bo .neq [vn 8,vi 7] (.fin 1 [vn 9])))
def t16:N:=.op (.box 35) [vn 0] (.op (.load (some 4)) [vn 1] (.call 33 [vn 2,vi 1024,vi 0] (.op (.ext 0) [vn 3] (.op (.ext 1) [vn 3] (.op (.ext 2) [vn 3] (.br (vn 6) zl (.fin 1 [vv (.bool false)])))))))
def zm:N:=.op (.fld 3) [vn 2] (ld 24 (.op (.fld 3) [vn 3] (ld 26 (.call 15 [vn 25,vn 27] (.fin 1 [vn 28])))))
def zn:N:=.op (.fld 1) [vn 2] (ld 19 (.op (.fld 1) [vn 3] (ld 21 (bo .neq [vn 20,vn 22] (.br (vn 23) (.fin 1 [vv (.bool false)]) zm)))))
def zo:N:=.op (.fld 3) [vn 2] (ld 25 (.op (.fld 3) [vn 3] (ld 27 (.call 15 [vn 26,vn 28] (.fin 1 [vn 29])))))
def zq:N:=.op (.fld 1) [vn 2] (ld 20 (.op (.fld 1) [vn 3] (ld 22 (bo .neq [vn 21,vn 23] (.br (vn 24) (.fin 1 [vv (.bool false)]) zo)))))
def zt:N:=.op (.fld 3) [vn 2] (ld 28 (.op (.fld 3) [vn 3] (ld 30 (.call 15 [vn 29,vn 31] (.fin 1 [vn 32])))))
def zu:N:=.op (.fld 1) [vn 2] (ld 21 (bo .neq [vn 22,vi 0] (.op (.fld 1) [vn 3] (ld 24 (bo .neq [vn 25,vi 0] (.op (.beq true) [vn 23,vn 26] (.br (vn 27) (.fin 1 [vv (.bool false)]) zt)))))))
def zx:N:=.op (.fld 3) [vn 2] (ld 27 (.op (.fld 3) [vn 3] (ld 29 (.call 15 [vn 28,vn 30] (.fin 1 [vn 31])))))
def zy:N:=.op (.fld 2) [vn 2] (ld 22 (.op (.fld 2) [vn 3] (ld 24 (bo .neq [vn 23,vn 25] (.br (vn 26) (.fin 1 [vv (.bool false)]) zx)))))
def zz:N:=.op (.fld 3) [vn 2] (ld 28 (.op (.fld 3) [vn 3] (ld 30 (.call 15 [vn 29,vn 31] (.fin 1 [vn 32])))))
def AA:N:=.op (.fld 2) [vn 2] (ld 23 (.op (.fld 2) [vn 3] (ld 25 (bo .neq [vn 24,vn 26] (.br (vn 27) (.fin 1 [vv (.bool false)]) zz)))))
def AB:N:=.op (.fld 3) [vn 2] (ld 23 (.op (.fld 3) [vn 3] (ld 25 (.call 15 [vn 24,vn 26] (.fin 1 [vn 27])))))
def AC:N:=bo .eql [vn 17,vi 7] (.br (vn 22) AA AB)
def AD:N:=bo .eql [vn 17,vi 2] (.br (vn 21) zy AC)
def AE:N:=bo .eql [vn 17,vi 3] (.br (vn 20) zu AD)
def AF:N:=bo .eql [vn 17,vi 6] (.br (vn 19) zq AE)
def AG:N:=.op (.fld 0) [vn 2] (ld 16 (bo .eql [vn 17,vi 1] (.br (vn 18) zn AF)))
def AH:N:=.op (.fld 3) [vn 2] (ld 9 (.op .lenL [vn 10] (.op (.fld 3) [vn 3] (ld 12 (.op .lenL [vn 13] (bo .neq [vn 11,vn 14] (.br (vn 15) (.fin 1 [vv (.bool false)]) AG)))))))
def t32:N:=.op (.box 35) [vn 0] (.op (.box 35) [vn 1] (.op (.fld 0) [vn 2] (ld 4 (.op (.fld 0) [vn 3] (ld 6 (bo .neq [vn 5,vn 7] (.br (vn 8) (.fin 1 [vv (.bool false)]) AH)))))))
def AI:N:=.op .tup [vi 0,vi 0,vv (.bool false)] (.fin 1 [vn 5])
def AJ:N:=.op .tup [vi 0,vi 0,vv (.bool false)] (.fin 1 [vn 6])
def AK:N:=.op (.fld 1) [vn 3] (ld 9 (.call 21 [vn 10] (.op .tup [vi 1,vi 0,vn 11] (.fin 1 [vn 12]))))
def AL:N:=.op (.fld 2) [vn 3] (ld 14 (.call 56 [vn 15] (bo .lss [vn 16,vi 0] (.op .tup [vi 1,vi 0,vn 17] (.fin 1 [vn 18])))))
def AN:N:=.op .tup [vi 1,vi 0,vv (.bool false)] (.fin 1 [vn 14])
def AO:N:=.op (.fld 2) [vn 3] (ld 10 (.op .lenS [vn 11] (bo .leq [vn 12,vi 4096] (.br (vn 13) AL AN))))
def AP:N:=.op .tup [vi 1,vi 0,vv (.bool true)] (.fin 1 [vn 11])
def AQ:N:=.op (.fld 1) [vn 3] (ld 16 (bo .leq [vn 17,vi 1048576] (.self (vn 13) (.self (vn 14) (.self (vn 15) (.self (vn 15) (.self (vn 16) (.self (vn 17) (.self (vn 18) (.self (vn 18) (.self (vi 1) (.self (vi 0) (.self (vn 18) (.op .tup [vi 1,vi 0,vn 18] (.fin 1 [vn 19])))))))))))))))
def AS:N:=.self (vn 13) (.self (vn 14) (.self (vn 15) (.self (vn 15) (.self (vv (.bool false)) (.self (vi 1) (.self (vi 0) (.self (vv (.bool false)) (.op .tup [vi 1,vi 0,vv (.bool false)] (.fin 1 [vn 16])))))))))
def AT:N:=.bump 11 (.save (.op (.fld 1) [vn 3] (ld 13 (bo .geq [vn 14,vi 1] (.br (vn 15) AQ AS)))))
def AU:N:=.op (.fld 2) [vn 3] (ld 13 (.call 57 [vn 14] (.op .tup [vi 1,vi 0,vn 15] (.fin 1 [vn 16]))))
def AV:N:=bo .add [vn 15,vn 38] (.op (.mm true) [vn 16,vn 39] (bo .add [vn 17,vi 1] (.fin 0 [vn 14,vn 42,vn 43,vn 44])))
def AW:N:=.op (.fld 3) [vn 3] (ld 31 (.op (.idxA 4) [vn 32,vn 17] (.op (.load (some 4)) [vn 33] (bo .sub [vn 1,vn 15] (bo .add [vn 2,vi 1] (.call 33 [vn 34,vn 35,vn 36] (.op (.ext 0) [vn 37] (.op (.ext 1) [vn 37] (.op (.ext 2) [vn 37] (.op .not [vn 40] (.br (vn 41) (.fin 1 [vv (.bool false),vi 0,vi 0,vn 17]) AV)))))))))))
def AX:N:=.op (.fld 3) [vn 3] (ld 25 (.op (.idxA 4) [vn 26,vn 17] (.op (.fld 0) [vn 27] (ld 28 (bo .eql [vn 29,vi 7] (.br (vn 30) (.fin 1 [vv (.bool false),vi 0,vi 0,vn 17]) AW))))))
def AY:N:=bo .add [vn 15,vn 32] (.op (.mm true) [vn 16,vn 33] (bo .add [vn 17,vi 1] (.fin 0 [vn 14,vn 36,vn 37,vn 38])))
def AZ:N:=.op (.fld 3) [vn 3] (ld 25 (.op (.idxA 4) [vn 26,vn 17] (.op (.load (some 4)) [vn 27] (bo .sub [vn 1,vn 15] (bo .add [vn 2,vi 1] (.call 33 [vn 28,vn 29,vn 30] (.op (.ext 0) [vn 31] (.op (.ext 1) [vn 31] (.op (.ext 2) [vn 31] (.op .not [vn 34] (.br (vn 35) (.fin 1 [vv (.bool false),vi 0,vi 0,vn 17]) AY)))))))))))
def A4:N:=.op (.fld 0) [vn 3] (ld 22 (bo .eql [vn 23,vi 4] (.br (vn 24) AX AZ)))
def A5:N:=.op (.fld 3) [vn 3] (ld 18 (.op .lenL [vn 19] (bo .lss [vn 17,vn 20] (.br (vn 21) A4 (.fin 3 [vn 14,vn 15,vn 16,vn 17])))))
def A6:N:=.op .tup [vn 16,vn 17,vn 15] (.fin 1 [vn 19])
def A7:N:=bo .add [vn 17,vi 1] (bo .lss [vn 17,vi 32] (.op .tup [vn 16,vn 19,vn 20] (.fin 1 [vn 21])))
def A8:N:=.sw 14 3 A7 .bad
def A9:N:=.sw 14 1 A6 A8
def Aa:N:=.loop [vv (.bool false),vi 1,vi 0,vi 0] A5 A9
def Ab:N:=bo .add [vn 16,vn 39] (.op (.mm true) [vn 17,vn 40] (bo .add [vn 18,vi 1] (.fin 0 [vn 15,vn 43,vn 44,vn 45])))
def Ac:N:=.op (.fld 3) [vn 3] (ld 32 (.op (.idxA 4) [vn 33,vn 18] (.op (.load (some 4)) [vn 34] (bo .sub [vn 1,vn 16] (bo .add [vn 2,vi 1] (.call 33 [vn 35,vn 36,vn 37] (.op (.ext 0) [vn 38] (.op (.ext 1) [vn 38] (.op (.ext 2) [vn 38] (.op .not [vn 41] (.br (vn 42) (.fin 1 [vv (.bool false),vi 0,vi 0,vn 18]) Ab)))))))))))
def Ad:N:=.op (.fld 3) [vn 3] (ld 26 (.op (.idxA 4) [vn 27,vn 18] (.op (.fld 0) [vn 28] (ld 29 (bo .eql [vn 30,vi 7] (.br (vn 31) (.fin 1 [vv (.bool false),vi 0,vi 0,vn 18]) Ac))))))
def Ae:N:=bo .add [vn 16,vn 33] (.op (.mm true) [vn 17,vn 34] (bo .add [vn 18,vi 1] (.fin 0 [vn 15,vn 37,vn 38,vn 39])))
def Af:N:=.op (.fld 3) [vn 3] (ld 26 (.op (.idxA 4) [vn 27,vn 18] (.op (.load (some 4)) [vn 28] (bo .sub [vn 1,vn 16] (bo .add [vn 2,vi 1] (.call 33 [vn 29,vn 30,vn 31] (.op (.ext 0) [vn 32] (.op (.ext 1) [vn 32] (.op (.ext 2) [vn 32] (.op .not [vn 35] (.br (vn 36) (.fin 1 [vv (.bool false),vi 0,vi 0,vn 18]) Ae)))))))))))
def Ag:N:=.op (.fld 0) [vn 3] (ld 23 (bo .eql [vn 24,vi 4] (.br (vn 25) Ad Af)))
def Ah:N:=.op (.fld 3) [vn 3] (ld 19 (.op .lenL [vn 20] (bo .lss [vn 18,vn 21] (.br (vn 22) Ag (.fin 3 [vn 15,vn 16,vn 17,vn 18])))))
def Ai:N:=.op .tup [vn 17,vn 18,vn 16] (.fin 1 [vn 20])
def Aj:N:=bo .add [vn 18,vi 1] (bo .lss [vn 18,vi 32] (.op .tup [vn 17,vn 20,vn 21] (.fin 1 [vn 22])))
def Ak:N:=.sw 15 3 Aj .bad
def Al:N:=.sw 15 1 Ai Ak
def Am:N:=.loop [vv (.bool false),vi 1,vi 0,vi 0] Ah Al
def An:N:=.op .tup [vi 0,vi 0,vv (.bool false)] (.fin 1 [vn 15])
def Ao:N:=bo .eql [vn 7,vi 5] (.br (vn 14) Am An)
def Ap:N:=bo .eql [vn 7,vi 4] (.br (vn 13) Aa Ao)
def Aq:N:=bo .eql [vn 7,vi 7] (.br (vn 12) AU Ap)
def Ar:N:=bo .eql [vn 7,vi 6] (.br (vn 11) AT Aq)
def As:N:=bo .eql [vn 7,vi 3] (.br (vn 10) AP Ar)
def Au:N:=bo .eql [vn 7,vi 2] (.br (vn 9) AO As)
def Av:N:=.op (.fld 0) [vn 3] (ld 6 (bo .eql [vn 7,vi 1] (.br (vn 8) AK Au)))
def Aw:N:=bo .gtr [vn 2,vi 32] (.br (vn 5) AJ Av)
def t33:N:=.op (.box 35) [vn 0] (bo .lss [vn 1,vi 1] (.br (vn 4) AI Aw))
def Ay:N:=bo .leq [vn 0,vi 1152921504606846975] (.fin 1 [vn 2])
def t21:N:=bo .geq [vn 0,vv (.int .i64 (-1152921504606846976))] (.br (vn 1) Ay (.fin 1 [vv (.bool false)]))
def t24:N:=.op (.alloc 3 [(.int .i64 0)]) [] (.op (.store 1) [vn 1,vi 1024] (.call 39 [vn 0,vn 1,vi 0] (.op (.ext 0) [vn 3] (.op (.ext 1) [vn 3] (.op .not [vn 5] (.br (vn 6) (.fin 1 [vi 1]) (.fin 1 [vi 0])))))))
def Az:N:=.op .tup [vi 0,vv (.bool false)] (.fin 1 [vn 11])
def BA:N:=.op .tup [vi 0,vv (.bool false)] (.fin 1 [vn 12])
def BB:N:=.op (.fld 0) [vn 15] (ld 21 (bo .leq [vn 22,vi 1152921504606846975] (.self (vn 18) (.self (vn 19) (.self (vn 20) (.self (vn 20) (.self (vn 21) (.self (vn 22) (.self (vn 23) (.self (vn 23) (.self (vi 0) (.self (vn 23) (.op .tup [vi 0,vn 23] (.fin 1 [vn 24]))))))))))))))
def BC:N:=.self (vn 18) (.self (vn 19) (.self (vn 20) (.self (vn 20) (.self (vv (.bool false)) (.self (vi 0) (.self (vv (.bool false)) (.op .tup [vi 0,vv (.bool false)] (.fin 1 [vn 21]))))))))
def BD:N:=.op (.alloc 45 [(.int .i64 0)]) [] (.op (.store 1) [vn 15,vn 14] (.bump 10 (.save (.op (.fld 0) [vn 15] (ld 18 (bo .geq [vn 19,vv (.int .i64 (-1152921504606846976))] (.br (vn 20) BB BC)))))))
def BE:N:=.op (.fld 0) [vn 18] (ld 24 (.call 64 [vn 25] (.op .tup [vi 0,vn 26] (.fin 1 [vn 27]))))
def BF:N:=.op .tup [vi 0,vv (.bool false)] (.fin 1 [vn 24])
def BG:N:=.op (.alloc 72 [(bs [])]) [] (.op (.store 1) [vn 18,vn 17] (.op (.fld 0) [vn 18] (ld 20 (.op .lenS [vn 21] (bo .leq [vn 22,vi 4096] (.br (vn 23) BE BF))))))
def BH:N:=.op (.alloc 49 [(.bool false)]) [] (.op (.store 1) [vn 21,vn 20] (.op .tup [vi 0,vv (.bool true)] (.fin 1 [vn 23])))
def BI:N:=.op (.fld 0) [vn 24] (ld 30 (bo .leq [vn 31,vi 1048576] (.self (vn 27) (.self (vn 28) (.self (vn 29) (.self (vn 29) (.self (vn 30) (.self (vn 31) (.self (vn 32) (.self (vn 32) (.self (vi 0) (.self (vn 32) (.op .tup [vi 0,vn 32] (.fin 1 [vn 33]))))))))))))))
def BJ:N:=.self (vn 27) (.self (vn 28) (.self (vn 29) (.self (vn 29) (.self (vv (.bool false)) (.self (vi 0) (.self (vv (.bool false)) (.op .tup [vi 0,vv (.bool false)] (.fin 1 [vn 30]))))))))
def BK:N:=.op (.alloc 78 [(.int .i64 0)]) [] (.op (.store 1) [vn 24,vn 23] (.bump 10 (.save (.op (.fld 0) [vn 24] (ld 27 (bo .geq [vn 28,vi 1] (.br (vn 29) BI BJ)))))))
def BL:N:=.op (.mm true) [vn 33,vn 40] (bo .add [vn 34,vi 1] (.fin 0 [vn 32,vn 43,vn 44]))
def BM:N:=.op (.idxA 1) [vn 30,vn 34] (ld 36 (bo .add [vn 2,vi 1] (.call 39 [vn 37,vn 1,vn 38] (.op (.ext 0) [vn 39] (.op (.ext 1) [vn 39] (.op .not [vn 41] (.br (vn 42) (.fin 1 [vv (.bool false),vi 0,vn 34]) BL)))))))
def BN:N:=bo .lss [vn 34,vn 31] (.br (vn 35) BM (.fin 3 [vn 32,vn 33,vn 34]))
def BO:N:=.op .tup [vn 34,vn 33] (.fin 1 [vn 36])
def BP:N:=bo .add [vn 34,vi 1] (bo .lss [vn 34,vi 32] (.op .tup [vn 36,vn 37] (.fin 1 [vn 38])))
def BQ:N:=.sw 32 3 BP .bad
def BR:N:=.sw 32 1 BO BQ
def BS:N:=.op (.alloc 52 [(.slice none 0 0)]) [] (.op (.store 1) [vn 27,vn 26] (.op (.fld 0) [vn 27] (ld 29 (.op .lenL [vn 30] (.loop [vv (.bool false),vi 0,vi 0] BN BR)))))
def BT:N:=.op (.mm true) [vn 36,vn 43] (bo .add [vn 37,vi 1] (.fin 0 [vn 35,vn 46,vn 47]))
def BU:N:=.op (.idxA 1) [vn 33,vn 37] (ld 39 (bo .add [vn 2,vi 1] (.call 65 [vn 40,vn 1,vn 41] (.op (.ext 0) [vn 42] (.op (.ext 1) [vn 42] (.op .not [vn 44] (.br (vn 45) (.fin 1 [vv (.bool false),vi 0,vn 37]) BT)))))))
def BV:N:=bo .lss [vn 37,vn 34] (.br (vn 38) BU (.fin 5 [vn 35,vn 36,vn 37]))
def BW:N:=.op .tup [vn 37,vn 36] (.fin 1 [vn 39])
def BX:N:=bo .add [vn 37,vi 1] (bo .lss [vn 37,vi 32] (.op .tup [vn 39,vn 40] (.fin 1 [vn 41])))
def BY:N:=.sw 35 5 BX .bad
def BZ:N:=.sw 35 1 BW BY
def B3:N:=.op (.alloc 76 [(.slice none 0 0)]) [] (.op (.store 1) [vn 30,vn 29] (.op (.fld 0) [vn 30] (ld 32 (.op .lenL [vn 33] (.loop [vv (.bool false),vi 0,vi 0] BV BZ)))))
def B4:N:=.op .tup [vi 0,vv (.bool false)] (.fin 1 [vn 30])
def B5:N:=.op (.ta 76 (.agg #[(.slice none 0 0)]) true) [vn 0] (.op (.ext 1) [vn 27] (.op (.ext 0) [vn 27] (.br (vn 28) B3 B4)))
def B6:N:=.op (.ta 52 (.agg #[(.slice none 0 0)]) true) [vn 0] (.op (.ext 1) [vn 24] (.op (.ext 0) [vn 24] (.br (vn 25) BS B5)))
def B7:N:=.op (.ta 78 (.agg #[(.int .i64 0)]) true) [vn 0] (.op (.ext 1) [vn 21] (.op (.ext 0) [vn 21] (.br (vn 22) BK B6)))
def B8:N:=.op (.ta 49 (.agg #[(.bool false)]) true) [vn 0] (.op (.ext 1) [vn 18] (.op (.ext 0) [vn 18] (.br (vn 19) BH B7)))
def B9:N:=.op (.ta 72 (.agg #[(bs [])]) true) [vn 0] (.op (.ext 1) [vn 15] (.op (.ext 0) [vn 15] (.br (vn 16) BG B8)))
def Ba:N:=.op (.ta 45 (.agg #[(.int .i64 0)]) true) [vn 0] (.op (.ext 1) [vn 12] (.op (.ext 0) [vn 12] (.br (vn 13) BD B9)))
def Bb:N:=bo .gtr [vn 2,vi 32] (.br (vn 11) BA Ba)
def t39:N:=.op .nilc [vn 1] (ld 3 (bo .sub [vn 4,vi 1] (.op .nilc [vn 1] (.op (.store 1) [vn 6,vn 5] (.op .nilc [vn 1] (ld 8 (bo .lss [vn 9,vi 0] (.br (vn 10) Az Bb))))))))
def Bc:N:=.op (.fld 0) [vn 6] (ld 8 (.call 39 [vn 9,vn 1,vn 2] (.op (.ext 0) [vn 10] (.op (.ext 1) [vn 10] (.op .tup [vn 11,vn 12] (.fin 1 [vn 13]))))))
def Bd:N:=.op (.fld 0) [vn 11] (ld 21 (.call 102 [vn 22] (.op .tup [vi 0,vn 23] (.fin 1 [vn 24]))))
def Be:N:=.op .tup [vi 0,vv (.bool false)] (.fin 1 [vn 21])
def Bf:N:=.op .nilc [vn 1] (ld 18 (bo .geq [vn 19,vi 0] (.br (vn 20) Bd Be)))
def Bg:N:=.op .tup [vi 0,vv (.bool false)] (.fin 1 [vn 18])
def Bh:N:=.op (.ta 153 (.agg #[(bs [])]) true) [vn 0] (.op (.ext 0) [vn 8] (.op (.ext 1) [vn 8] (.op (.alloc 153 [(bs [])]) [] (.op (.store 1) [vn 11,vn 9] (.op .nilc [vn 1] (ld 13 (bo .sub [vn 14,vi 1] (.op .nilc [vn 1] (.op (.store 1) [vn 16,vn 15] (.br (vn 10) Bf Bg))))))))))
def t65:N:=.op (.ta 134 (.agg #[.nilIface]) true) [vn 0] (.op (.ext 0) [vn 3] (.op (.ext 1) [vn 3] (.op (.alloc 134 [.nilIface]) [] (.op (.store 1) [vn 6,vn 4] (.br (vn 5) Bc Bh)))))
def Bi:N:=.call 97 [vn 0] (.op .not [vn 2] (.fin 1 [vn 3]))
def t57:N:=.call 96 [vn 0] (.br (vn 1) Bi (.fin 1 [vv (.bool false)]))
def Bj:N:=.call 134 [vn 0] (.op .not [vn 2] (.fin 1 [vn 3]))
def t102:N:=.call 133 [vn 0] (.br (vn 1) Bj (.fin 1 [vv (.bool false)]))
def Bk:N:=.op (.idxA 1) [vn 7,vn 10] (ld 12 (.call 28 [vn 13] (.op (.newSl 41 [.nilIface] [(0,1)]) [vn 14] (.op (.app 41 (inf 41) .nilIface) [vn 9,.sl (.n 15) 1] (bo .add [vn 10,vi 1] (.fin 0 [vn 16,vn 17]))))))
def Bl:N:=bo .lss [vn 10,vn 8] (.br (vn 11) (Bk inf) (.fin 3 [vn 9,vn 10]))
def Bm:N:=.op (.build [(.slice none 0 0)] [(0,1)]) [vn 10] (.fin 1 [.ifc 52 (.n 12)])
def Bn:N:=.sw 9 3 Bm .bad
def Bp:N:=.op (.alloc 52 [(.slice none 0 0)]) [] (.op (.store 1) [vn 4,vn 3] (.op (.fld 0) [vn 4] (ld 6 (.op .lenL [vn 7] (.loop [vv (.slice none 0 0),vi 0] (Bl inf) Bn)))))
def Bq:N:=.op (.alloc 76 [(.slice none 0 0)]) [] (.op (.store 1) [vn 7,vn 6] (.op (.fld 0) [vn 7] (ld 9 (.call 47 [vn 10] (.op (.build [(.slice none 0 0)] [(0,1)]) [vn 11] (.fin 1 [.ifc 76 (.n 12)]))))))
def Br:N:=.op (.ta 76 (.agg #[(.slice none 0 0)]) true) [vn 0] (.op (.ext 1) [vn 4] (.op (.ext 0) [vn 4] (.br (vn 5) Bq (.fin 1 [vn 0]))))
def t28:N:=.op (.ta 52 (.agg #[(.slice none 0 0)]) true) [vn 0] (.op (.ext 1) [vn 1] (.op (.ext 0) [vn 1] (.br (vn 2) (Bp inf) Br)))
def Bs:N:=.op (.fld 0) [vn 10] (ld 12 (.call 28 [vn 13] (.op (.build [.nilIface] [(0,1)]) [vn 14] (.op (.newSl 100 [.nilIface] [(0,1)]) [.ifc 134 (.n 15)] (.op (.app 100 (inf 100) .nilIface) [vn 2,.sl (.n 16) 1] (bo .add [vn 3,vi 1] (.fin 0 [vn 17,vn 18])))))))
def Bt:N:=.op (.newSl 100 [.nilIface] [(0,1)]) [vn 6] (.op (.app 100 (inf 100) .nilIface) [vn 2,.sl (.n 12) 1] (bo .add [vn 3,vi 1] (.fin 0 [vn 13,vn 14])))
def Bu:N:=.op (.idxA 1) [vn 0,vn 3] (ld 5 (.op (.ta 134 (.agg #[.nilIface]) true) [vn 6] (.op (.ext 0) [vn 7] (.op (.ext 1) [vn 7] (.op (.alloc 134 [.nilIface]) [] (.op (.store 1) [vn 10,vn 8] (.br (vn 9) (Bs inf) (Bt inf))))))))
def Bv:N:=bo .lss [vn 3,vn 1] (.br (vn 4) (Bu inf) (.fin 2 [vn 2,vn 3]))
def Bw:N:=.sw 2 2 (.fin 1 [vn 3]) .bad
def t47:N:=.op .lenL [vn 0] (.loop [vv (.slice none 0 0),vi 0] (Bv inf) Bw)
def Bx:N:=.op (.idxA 4) [vn 0,vn 2] (.op (.load (some 4)) [vn 5] (.call 55 [vn 6] (.op (.newSl 35 [(.int .i64 0),(.int .i64 0),(bs []),(.slice none 0 0)] [(0,4)]) [vn 7] (.op (.app 35 (inf 35) (.agg #[(.int .i64 0),(.int .i64 0),(bs []),(.slice none 0 0)])) [vn 1,.sl (.n 8) 1] (bo .add [vn 2,vi 1] (.fin 0 [vn 9,vn 10]))))))
def By:N:=.op .lenL [vn 0] (bo .lss [vn 2,vn 3] (.br (vn 4) (Bx inf) (.fin 2 [vn 1,vn 2])))
def Bz:N:=.sw 1 2 (.fin 1 [vn 2]) .bad
def t31:N:=.loop [vv (.slice none 0 0),vi 0] (By inf) Bz
def CA:N:=bo .eql [vn 0,vv (bs [102])] (.fin 1 [vn 11])
def CB:N:=bo .eql [vn 0,vv (bs [116])] (.br (vn 10) (.fin 1 [vv (.bool true)]) CA)
def CC:N:=bo .eql [vn 0,vv (bs [125])] (.br (vn 9) (.fin 1 [vv (.bool true)]) CB)
def CD:N:=bo .eql [vn 0,vv (bs [123])] (.br (vn 8) (.fin 1 [vv (.bool true)]) CC)
def CE:N:=bo .eql [vn 0,vv (bs [93])] (.br (vn 7) (.fin 1 [vv (.bool true)]) CD)
def CF:N:=bo .eql [vn 0,vv (bs [91])] (.br (vn 6) (.fin 1 [vv (.bool true)]) CE)
def CG:N:=bo .eql [vn 0,vv (bs [45,45])] (.br (vn 5) (.fin 1 [vv (.bool true)]) CF)
def CH:N:=bo .eql [vn 0,vv (bs [41])] (.br (vn 4) (.fin 1 [vv (.bool true)]) CG)
def CI:N:=bo .eql [vn 0,vv (bs [40])] (.br (vn 3) (.fin 1 [vv (.bool true)]) CH)
def CJ:N:=bo .eql [vn 0,vv (bs [59])] (.br (vn 2) (.fin 1 [vv (.bool true)]) CI)
def t97:N:=bo .eql [vn 0,vv (bs [58])] (.br (vn 1) (.fin 1 [vv (.bool true)]) CJ)
def t134:N:=.op (.newSl 9 [(bs []),(bs []),(bs []),(bs []),(bs []),(bs []),(bs []),(bs []),(bs []),(bs []),(bs [])] [(0,1),(1,1),(2,1),(3,1),(4,1),(5,1),(6,1),(7,1),(8,1),(9,1),(10,1)]) [vv (bs [58]),vv (bs [59]),vv (bs [40]),vv (bs [41]),vv (bs [45,45]),vv (bs [91]),vv (bs [93]),vv (bs [123]),vv (bs [125]),vv (bs [116]),vv (bs [102])] (.call 37 [.sl (.n 1) 11,vn 0] (.fin 1 [vn 2]))
def CK:N:=.op (.build [(.int .i64 0),(.int .i64 0),(bs []),(.slice none 0 0)] [(0,1),(1,1)]) [vi 3,vi 1] (.op (.newSl 35 [(.int .i64 0),(.int .i64 0),(bs []),(.slice none 0 0)] [(0,4)]) [vn 1] (.fin 1 [.sl (.n 2) 1]))
def CL:N:=.op (.build [(.int .i64 0),(.int .i64 0),(bs []),(.slice none 0 0)] [(0,1)]) [vi 3] (.op (.newSl 35 [(.int .i64 0),(.int .i64 0),(bs []),(.slice none 0 0)] [(0,4)]) [vn 1] (.fin 1 [.sl (.n 2) 1]))
def t53:N:=.br (vn 0) CK CL
end Go.AM.PV
namespace Go.AM.PV
open Go Go.AM Go.AM.SX
def CM:N:=bo .eql [vn 0,vv (.int .i32 12288)] (.fin 1 [vn 6])
def CN:N:=bo .eql [vn 0,vv (.int .i32 160)] (.br (vn 5) (.fin 1 [vv (.bool true)]) CM)
def CO:N:=bo .eql [vn 0,vv (.int .i32 32)] (.br (vn 4) (.fin 1 [vv (.bool true)]) CN)
def CP:N:=bo .eql [vn 0,vv (.int .i32 13)] (.br (vn 3) (.fin 1 [vv (.bool true)]) CO)
def CQ:N:=bo .eql [vn 0,vv (.int .i32 10)] (.br (vn 2) (.fin 1 [vv (.bool true)]) CP)
def t130:N:=bo .eql [vn 0,vv (.int .i32 9)] (.br (vn 1) (.fin 1 [vv (.bool true)]) CQ)
def CR:N:=bo .leq [vn 0,vv (.int .i32 65305)] (.br (vn 6) (.fin 1 [vv (.int .i32 65296)]) (.fin 1 [vv (.int .i32 0)]))
def CS:N:=bo .geq [vn 0,vv (.int .i32 65296)] (.br (vn 5) CR (.fin 1 [vv (.int .i32 0)]))
def CT:N:=bo .leq [vn 0,vv (.int .i32 1641)] (.br (vn 4) (.fin 1 [vv (.int .i32 1632)]) CS)
def CU:N:=bo .leq [vn 0,vv (.int .i32 65305)] (.br (vn 5) (.fin 1 [vv (.int .i32 65296)]) (.fin 1 [vv (.int .i32 0)]))
def CV:N:=bo .geq [vn 0,vv (.int .i32 65296)] (.br (vn 4) CU (.fin 1 [vv (.int .i32 0)]))
def CW:N:=bo .geq [vn 0,vv (.int .i32 1632)] (.br (vn 3) CT CV)
def CX:N:=bo .leq [vn 0,vv (.int .i32 57)] (.br (vn 2) (.fin 1 [vv (.int .i32 48)]) CW)
def CY:N:=bo .leq [vn 0,vv (.int .i32 65305)] (.br (vn 5) (.fin 1 [vv (.int .i32 65296)]) (.fin 1 [vv (.int .i32 0)]))
def CZ:N:=bo .geq [vn 0,vv (.int .i32 65296)] (.br (vn 4) CY (.fin 1 [vv (.int .i32 0)]))
def C0:N:=bo .leq [vn 0,vv (.int .i32 1641)] (.br (vn 3) (.fin 1 [vv (.int .i32 1632)]) CZ)
def C1:N:=bo .leq [vn 0,vv (.int .i32 65305)] (.br (vn 4) (.fin 1 [vv (.int .i32 65296)]) (.fin 1 [vv (.int .i32 0)]))
def C2:N:=bo .geq [vn 0,vv (.int .i32 65296)] (.br (vn 3) C1 (.fin 1 [vv (.int .i32 0)]))
def C3:N:=bo .geq [vn 0,vv (.int .i32 1632)] (.br (vn 2) C0 C2)
def t148:N:=bo .geq [vn 0,vv (.int .i32 48)] (.br (vn 1) CX C3)
def C4:N:=bo .sub [vn 0,vn 8] (.op (.conv .i64) [vn 12] (.fin 1 [vn 13,vn 8,vv (.bool true),vn 5]))
def C5:N:=bo .add [vn 5,vi 1] (.fin 0 [vn 2,vn 3,vn 4,vn 12])
def C6:N:=bo .add [vn 8,vv (.int .i32 9)] (bo .leq [vn 0,vn 10] (.br (vn 11) C4 C5))
def C7:N:=bo .add [vn 5,vi 1] (.fin 0 [vn 2,vn 3,vn 4,vn 10])
def C8:N:=.op (.idxA 1) [.sl (.n 1) 3,vn 5] (ld 7 (bo .geq [vn 0,vn 8] (.br (vn 9) C6 C7)))
def C9:N:=bo .lss [vn 5,vi 3] (.br (vn 6) C8 (.fin 2 [vn 2,vn 3,vn 4,vn 5]))
def Ca:N:=.op .tup [vn 3,vn 4,vn 5] (.fin 1 [vn 7])
def Cb:N:=.op .tup [vi 0,vv (.int .i32 0),vv (.bool false)] (.fin 1 [vn 7])
def Cc:N:=.sw 2 2 Cb .bad
def Cd:N:=.sw 2 1 Ca Cc
def t146:N:=.op (.newSl 21 [(.int .i32 0),(.int .i32 0),(.int .i32 0)] [(0,1),(1,1),(2,1)]) [vv (.int .i32 48),vv (.int .i32 1632),vv (.int .i32 65296)] (.loop [vi 0,vv (.int .i32 0),vv (.bool false),vi 0] C9 Cd)
def Ce:N:=bo .add [vn 4,vi 1] (.fin 0 [vn 3,vn 9])
def Cf:N:=.op (.idxA 1) [vn 0,vn 4] (ld 6 (bo .eql [vn 1,vn 7] (.br (vn 8) (.fin 1 [vn 4,vn 4]) Ce)))
def Cg:N:=bo .lss [vn 4,vn 2] (.br (vn 5) Cf (.fin 2 [vn 3,vn 4]))
def Ch:N:=.sw 3 2 (.fin 1 [vv (.int .i64 (-1))]) .bad
def Ci:N:=.sw 3 1 (.fin 1 [vn 4]) Ch
def t62:N:=.op .lenL [vn 0] (.loop [vi 0,vi 0] Cg Ci)
def t37:N:=.call 62 [vn 0,vn 1] (bo .geq [vn 2,vi 0] (.fin 1 [vn 3]))
def Cj:N:=.op .lenS [vn 1] (.op (.subS false true) [vn 0,vn 5] (bo .eql [vn 6,vn 1] (.fin 1 [vn 7])))
def t105:N:=.op .lenS [vn 0] (.op .lenS [vn 1] (bo .geq [vn 2,vn 3] (.br (vn 4) Cj (.fin 1 [vv (.bool false)]))))
def t67:N:=.call 105 [vn 0,vn 1] (.fin 1 [vn 2])
def Ck:N:=bo .add [vn 12,vi 1] (.fin 0 [vn 11,vn 31])
def Cl:N:=.op (.idxA 4) [vn 1,vn 12] (.op (.fld 0) [vn 27] (ld 28 (bo .eql [vn 29,vv (.int .i32 65533)] (.br (vn 30) (.fin 1 [vv (.bool false),vn 12]) Ck))))
def Cm:N:=.op (.idxA 4) [vn 1,vn 12] (.op (.fld 0) [vn 23] (ld 24 (bo .eql [vn 25,vv (.int .i32 127)] (.br (vn 26) (.fin 1 [vv (.bool false),vn 12]) Cl))))
def Cn:N:=.op (.idxA 4) [vn 1,vn 12] (.op (.fld 0) [vn 19] (ld 20 (bo .lss [vn 21,vv (.int .i32 32)] (.br (vn 22) (.fin 1 [vv (.bool false),vn 12]) Cm))))
def Co:N:=.op (.idxA 4) [vn 1,vn 12] (.op (.fld 0) [vn 15] (ld 16 (.call 130 [vn 17] (.br (vn 18) (.fin 1 [vv (.bool false),vn 12]) Cn))))
def Cp:N:=.op .lenL [vn 1] (bo .lss [vn 12,vn 13] (.br (vn 14) Co (.fin 2 [vn 11,vn 12])))
def Cq:N:=.call 128 [vn 1] (.op (.ext 0) [vn 14] (.op (.ext 1) [vn 14] (.op (.ext 2) [vn 14] (.op .not [vn 17] (.fin 1 [vn 18])))))
def Cr:N:=.sw 11 2 Cq .bad
def Cs:N:=.sw 11 1 (.fin 1 [vn 12]) Cr
def Ct:N:=.loop [vv (.bool false),vi 0] Cp Cs
def Cu:N:=bo .eql [vn 0,vv (bs [33])] (.br (vn 10) (.fin 1 [vv (.bool false)]) Ct)
def Cv:N:=.op (.idxA 4) [vn 1,vi 0] (.op (.fld 0) [vn 6] (ld 7 (bo .eql [vn 8,vv (.int .i32 34)] (.br (vn 9) (.fin 1 [vv (.bool false)]) Cu))))
def Cw:N:=.op .lenL [vn 1] (bo .gtr [vn 4,vi 32] (.br (vn 5) (.fin 1 [vv (.bool false)]) Cv))
def t96:N:=.call 95 [vn 0] (.op .lenL [vn 1] (bo .lss [vn 2,vi 1] (.br (vn 3) (.fin 1 [vv (.bool false)]) Cw)))
def Cx:N:=bo .add [vn 3,vi 1] (.fin 0 [vn 2,vn 14])
def Cy:N:=bo .eql [vn 7,vv (.int .i32 34)] (.br (vn 13) (.fin 1 [vv (.bool false),vn 3]) Cx)
def Cz:N:=bo .add [vn 3,vi 1] (.fin 0 [vn 2,vn 13])
def DA:N:=bo .eql [vn 6,vi 0] (.br (vn 12) Cy Cz)
def DB:N:=bo .eql [vn 7,vv (.int .i32 127)] (.br (vn 11) (.fin 1 [vv (.bool false),vn 3]) DA)
def DC:N:=bo .lss [vn 7,vv (.int .i32 32)] (.br (vn 10) (.fin 1 [vv (.bool false),vn 3]) DB)
def DD:N:=.call 157 [vn 7] (.br (vn 9) (.fin 1 [vv (.bool false),vn 3]) DC)
def DE:N:=.op (.ext 1) [vn 4] (.op (.ext 2) [vn 4] (bo .eql [vn 7,vv (.int .i32 65533)] (.br (vn 8) (.fin 1 [vv (.bool false),vn 3]) DD)))
def DF:N:=.op (.next true) [vn 1] (.op (.ext 0) [vn 4] (.br (vn 5) DE (.fin 2 [vn 2,vn 3])))
def DG:N:=.op .not [vn 7] (.fin 1 [vn 12])
def DH:N:=bo .neq [vn 0,vv (bs [33])] (.br (vn 11) DG (.fin 1 [vv (.bool false)]))
def DJ:N:=bo .leq [vn 4,vi 32] (.br (vn 10) DH (.fin 1 [vv (.bool false)]))
def DK:N:=.call 124 [vn 0] (.op (.ext 0) [vn 5] (.op (.ext 1) [vn 5] (.op (.ext 2) [vn 5] (bo .geq [vn 4,vi 1] (.br (vn 9) DJ (.fin 1 [vv (.bool false)]))))))
def DL:N:=.sw 2 2 DK .bad
def DM:N:=.sw 2 1 (.fin 1 [vn 3]) DL
def t133:N:=.op (.range true) [vn 0] (.loop [vv (.bool false),vi 0] DF DM)
end Go.AM.PV
namespace Go.AM.PV
open Go Go.AM Go.AM.SX
variable (inf:Nat->TypeInfo)
def DN:N:=bo .add [vn 5,vi 1] (.op (.build [(.int .i32 0),(.int .i64 0),(.int .i64 0),(.bool false)] [(0,1),(1,1),(2,1),(3,1)]) [vn 6,vn 5,vn 13,vv (.bool true)] (.op (.newSl 151 [(.int .i32 0),(.int .i64 0),(.int .i64 0),(.bool false)] [(0,4)]) [vn 14] (.op (.app 151 (inf 151) (.agg #[(.int .i32 0),(.int .i64 0),(.int .i64 0),(.bool false)])) [vn 2,.sl (.n 15) 1] (.fin 0 [vn 16]))))
def DO:N:=bo .add [vn 5,vi 1] (.op (.build [(.int .i32 0),(.int .i64 0),(.int .i64 0),(.bool false)] [(0,1),(1,1),(2,1),(3,1)]) [vn 6,vn 5,vn 15,vv (.bool true)] (.op (.newSl 151 [(.int .i32 0),(.int .i64 0),(.int .i64 0),(.bool false)] [(0,4)]) [vn 16] (.op (.app 151 (inf 151) (.agg #[(.int .i32 0),(.int .i64 0),(.int .i64 0),(.bool false)])) [vn 2,.sl (.n 17) 1] (.fin 0 [vn 18]))))
def DP:N:=.op (.build [(.int .i32 0),(.int .i64 0),(.int .i64 0),(.bool false)] [(0,1),(1,1),(2,1),(3,1)]) [vn 6,vn 5,vn 9,vv (.bool false)] (.op (.newSl 151 [(.int .i32 0),(.int .i64 0),(.int .i64 0),(.bool false)] [(0,4)]) [vn 15] (.op (.app 151 (inf 151) (.agg #[(.int .i32 0),(.int .i64 0),(.int .i64 0),(.bool false)])) [vn 2,.sl (.n 16) 1] (.fin 0 [vn 17])))
def DQ:N:=.op (.subS true true) [vn 0,vn 5,vn 9] (bo .neq [vn 13,vv (bs [239,191,189])] (.br (vn 14) (DO inf) (DP inf)))
def DS:N:=.op .lenS [vn 0] (bo .gtr [vn 9,vn 11] (.br (vn 12) (DN inf) (DQ inf)))
def DT:N:=.op (.build [(.int .i32 0),(.int .i64 0),(.int .i64 0),(.bool false)] [(0,1),(1,1),(2,1),(3,1)]) [vn 6,vn 5,vn 9,vv (.bool false)] (.op (.newSl 151 [(.int .i32 0),(.int .i64 0),(.int .i64 0),(.bool false)] [(0,4)]) [vn 11] (.op (.app 151 (inf 151) (.agg #[(.int .i32 0),(.int .i64 0),(.int .i64 0),(.bool false)])) [vn 2,.sl (.n 12) 1] (.fin 0 [vn 13])))
def DU:N:=.op (.ext 1) [vn 3] (.op (.ext 2) [vn 3] (.op .runeStr [vn 6] (.op .lenS [vn 7] (bo .add [vn 5,vn 8] (bo .eql [vn 6,vv (.int .i32 65533)] (.br (vn 10) (DS inf) (DT inf)))))))
def DV:N:=.op (.next true) [vn 1] (.op (.ext 0) [vn 3] (.br (vn 4) (DU inf) (.fin 2 [vn 2])))
def DW:N:=.sw 2 2 (.fin 1 [vn 3]) .bad
def t95:N:=.op (.range true) [vn 0] (.loop [vv (.slice none 0 0)] (DV inf) DW)
def DX:N:=.op (.idxA 4) [vn 1,vn 3] (.op (.fld 1) [vn 9] (ld 10 (.fin 1 [vn 11,vn 3])))
def DY:N:=bo .add [vn 3,vi 1] (.fin 0 [vn 2,vn 9])
def DZ:N:=.op (.idxA 4) [vn 1,vn 3] (.op (.fld 3) [vn 6] (ld 7 (.br (vn 8) DX DY)))
def D0:N:=.op .lenL [vn 1] (bo .lss [vn 3,vn 4] (.br (vn 5) DZ (.fin 2 [vn 2,vn 3])))
def D1:N:=.sw 2 2 (.fin 1 [vv (.int .i64 (-1))]) .bad
def D2:N:=.sw 2 1 (.fin 1 [vn 3]) D1
def t56:N:=.call 95 [vn 0] (.loop [vi 0,vi 0] D0 D2)
end Go.AM.PV
namespace Go.AM.PV
open Go Go.AM Go.AM.SX
inductive V where
 | mk (k n:Int) (s:ByteArray) (l:List V)
mutual
inductive Val where
 | nil
 | int (n:Int)
 | str (s:ByteArray)
 | bool (b:Bool)
 | list (l:List Val)
 | quot (l:List Itm)
 | box (n:Int)
inductive Itm where
 | nil
 | push (v:Val)
 | call (s:ByteArray)
end
mutual
def V.sz:V->Nat
 | .mk _ _ s l=>s.size+V.szs l+1
def V.szs:List V->Nat
 | []=>0
 | v::l=>v.sz+V.szs l
end
mutual
def V.val:V->Val
 | .mk k n s l=>if k=1 then .int n else if k=2 then .str s else if k=3 then .bool (n != 0) else if k=4 then .list (V.vals l) else if k=5 then .quot (V.itms l) else if k=6 then .box n else .nil
def V.vals:List V->List Val
 | []=>[]
 | v::l=>v.val::V.vals l
def V.itm:V->Itm
 | .mk k n s l=>if k=7 then .call s else if k < 1 then .nil else if k > 6 then .nil else
  .push (if k=1 then .int n else if k=2 then .str s else if k=3 then .bool (n != 0) else if k=4 then .list (V.vals l) else if k=5 then .quot (V.itms l) else if k=6 then .box n else .nil)
def V.itms:List V->List Itm
 | []=>[]
 | v::l=>v.itm::V.itms l
end
theorem V.itm_eq (v:V):v.itm=match v with | .mk k _ s _=>if k=7 then .call s else if k < 1 then .nil else if k > 6 then .nil else .push v.val:=by
 cases v;simp only [V.itm,V.val]
mutual
def Val.tree:Val->V
 | .nil=>.mk 8 0 ⟨#[]⟩ []
 | .int n=>.mk 1 n ⟨#[]⟩ []
 | .str s=>.mk 2 0 s []
 | .bool b=>.mk 3 (if b then 1 else 0) ⟨#[]⟩ []
 | .list l=>.mk 4 0 ⟨#[]⟩ (Val.trees l)
 | .quot l=>.mk 5 0 ⟨#[]⟩ (Itm.trees l)
 | .box n=>.mk 6 n ⟨#[]⟩ []
def Val.trees:List Val->List V
 | []=>[]
 | v::l=>v.tree::Val.trees l
def Itm.tree:Itm->V
 | .nil=>.mk 8 0 ⟨#[]⟩ []
 | .push v=>v.tree
 | .call s=>.mk 7 0 s []
def Itm.trees:List Itm->List V
 | []=>[]
 | v::l=>v.tree::Itm.trees l
end
abbrev I (n:Int):P:=.c (.int .i64 n)
abbrev Bo (b:Bool):P:=.c (.bool b)
abbrev St (s:ByteArray):P:=.c (.string s)
mutual
def V.p:V->List P
 | .mk k n s l=>[I k,I n,St s,.sl 4 l.length (V.ps l)]
def V.ps:List V->List P
 | []=>[]
 | v::l=>v.p++V.ps l
end
abbrev af:Nat:=45
abbrev jM:Nat:=72
abbrev D3:Nat:=49
abbrev jN:Nat:=52
abbrev sV:Nat:=76
abbrev D4:Nat:=78
abbrev D5:Nat:=134
abbrev D6:Nat:=153
abbrev fB:Nat:=41
abbrev dS:Nat:=100
abbrev tV:Nat:=35
mutual
def Val.p:Val->P
 | .nil=>.c .nilIface
 | .int n=>.ifc af (.agg [I n])
 | .str s=>.ifc jM (.agg [St s])
 | .bool b=>.ifc D3 (.agg [Bo b])
 | .list l=>.ifc jN (.agg [.sl 1 l.length (Val.ps l)])
 | .quot l=>.ifc sV (.agg [.sl 1 l.length (Itm.ps l)])
 | .box n=>.ifc D4 (.agg [I n])
def Val.ps:List Val->List P
 | []=>[]
 | v::l=>v.p::Val.ps l
def Itm.p:Itm->P
 | .nil=>.c .nilIface
 | .push v=>.ifc D5 (.agg [v.p])
 | .call s=>.ifc D6 (.agg [St s])
def Itm.ps:List Itm->List P
 | []=>[]
 | v::l=>v.p::Itm.ps l
end
theorem V.p_length (v:V):v.p.length=4:=by cases v;rfl
theorem V.ps_length:∀ l:List V,(V.ps l).length=l.length * 4
 | []=>rfl
 | v::l=>by simp only [V.ps,List.length_append,V.p_length,V.ps_length l,List.length_cons];omega
theorem V.ps_at:∀ (l:List V) (i:Nat) (v:V),l[i]? = some v->((V.ps l).drop (i * 4)).take 4=v.p
 | [],i,v,h=>by simp at h
 | w::l,0,v,h=>by
  simp only [List.getElem?_cons_zero,Option.some.injEq] at h
  subst h
  simp only [V.ps,Nat.zero_mul,List.drop_zero]
  rw [List.take_append_of_le_length (by rw [V.p_length];exact Nat.le_refl 4),List.take_of_length_le (by rw [V.p_length];exact Nat.le_refl 4)]
 | w::l,i+1,v,h=>by
  simp only [List.getElem?_cons_succ] at h
  simp only [V.ps]
  rw [List.drop_append,List.drop_of_length_le (by rw [V.p_length];omega),List.nil_append,V.p_length,show (i+1) * 4 - 4=i * 4 by omega]
  exact V.ps_at l i v h
theorem V.ps_append:∀ (l m:List V),V.ps (l++m)=V.ps l++V.ps m
 | [],_=>rfl
 | v::l,m=>by simp only [V.ps,List.cons_append,V.ps_append l m,List.append_assoc]
theorem Val.ps_map:∀ l:List Val,Val.ps l=l.map Val.p
 | []=>rfl
 | v::l=>by simp only [Val.ps,List.map_cons,Val.ps_map l]
theorem Itm.ps_map:∀ l:List Itm,Itm.ps l=l.map Itm.p
 | []=>rfl
 | v::l=>by simp only [Itm.ps,List.map_cons,Itm.ps_map l]
theorem V.vals_map:∀ l:List V,V.vals l=l.map V.val
 | []=>rfl
 | v::l=>by simp only [V.vals,List.map_cons,V.vals_map l]
theorem V.itms_map:∀ l:List V,V.itms l=l.map V.itm
 | []=>rfl
 | v::l=>by simp only [V.itms,List.map_cons,V.itms_map l]
theorem Val.trees_map:∀ l:List Val,Val.trees l=l.map Val.tree
 | []=>rfl
 | v::l=>by simp only [Val.trees,List.map_cons,Val.trees_map l]
theorem Itm.trees_map:∀ l:List Itm,Itm.trees l=l.map Itm.tree
 | []=>rfl
 | v::l=>by simp only [Itm.trees,List.map_cons,Itm.trees_map l]
mutual
theorem cJ:∀ v:Val,okm 0 v.p=true
 | .nil=>rfl
 | .int n=>rfl
 | .str s=>rfl
 | .bool b=>rfl
 | .box n=>rfl
 | .list l=>by simp only [Val.p,okm,okm.okL,bu l,Bool.and_self]
 | .quot l=>by simp only [Val.p,okm,okm.okL,dT l,Bool.and_self]
theorem bu:∀ l:List Val,okm.okL 0 (Val.ps l)=true
 | []=>rfl
 | v::l=>by simp only [Val.ps,okm.okL,cJ v,bu l,Bool.and_self]
theorem sW:∀ v:Itm,okm 0 v.p=true
 | .nil=>rfl
 | .push v=>by simp only [Itm.p,okm,okm.okL,cJ v,Bool.and_self]
 | .call s=>rfl
theorem dT:∀ l:List Itm,okm.okL 0 (Itm.ps l)=true
 | []=>rfl
 | v::l=>by simp only [Itm.ps,okm.okL,sW v,dT l,Bool.and_self]
end
theorem sX (i:Nat):∀ l m:List P,okm.okL i (l++m)=(okm.okL i l&&okm.okL i m)
 | [],m=>by simp [okm.okL]
 | p::l,m=>by simp only [List.cons_append,okm.okL,sX i l m,Bool.and_assoc]
mutual
theorem eI:∀ v:V,okm.okL 0 v.p=true
 | .mk k n s l=>by simp only [V.p,okm,okm.okL,fo l,Bool.and_self]
theorem fo:∀ l:List V,okm.okL 0 (V.ps l)=true
 | []=>rfl
 | v::l=>by simp only [V.ps,sX,eI v,fo l,Bool.and_self]
end
theorem gu (v:Val):aX v.p=[v.p]:=by cases v <;> rfl
theorem D7 (v:Itm):aX v.p=[v.p]:=by cases v <;> rfl
theorem fp (v:Val):bz v.p=true:=by cases v <;> rfl
theorem D8 (v:Itm):bz v.p=true:=by cases v <;> rfl
theorem bC (v:Val):fz v.p=v.p:=by cases v <;> rfl
theorem nN (v:Itm):fz v.p=v.p:=by cases v <;> rfl
theorem sY {E:Env} {gl:List GRow} {k:N} {m:Nat} {rv:Rv} {d:Bool} {hs:List Nat} {ps:List P} {μ:Mu} {Q:aW} {xs:List X} {t:TypeId} {v:V} {z:List Value} (h:denF ps xs=some [.agg v.p]) (hz:z.length=4) (hk:pz E gl k m rv d hs (ps++[.lit v.p]) μ Q):pz E gl (.op (.newSl t z [(0,4)]) xs k) m rv d hs ps μ Q:=by
 refine ⟨_,.lit v.p,μ,h,?_,hk⟩
 obtain ⟨k,n,s,l⟩:=v
 match z,hz with
 | [a,b,c,d],_=>rfl
end Go.AM.PV
namespace Go.AM.PV
open Go Go.AM Go.AM.SX
attribute [local irreducible] pz aQ
section
variable {E:Env} {gl:List GRow} {cfg:Cfg} {fuel:Nat}
theorem D9 (hE:SxEnv E) (h19:aC E cfg fuel 19 1=some t19) {k n:Int} {s:ByteArray} {l:List V}
  (h12:k=4->∀ μ,PR E gl 12 [.sl 4 l.length (V.ps l)] μ (.ow fB 1 (V.vals l).length (Val.ps (V.vals l))) μ)
  (h34:k=5->∀ μ,PR E gl 34 [.sl 4 l.length (V.ps l)] μ (.ow dS 1 (V.itms l).length (Itm.ps (V.itms l))) μ) :
  PR E gl 19 [.agg (V.p (.mk k n s l))] [] (V.val (.mk k n s l)).p []:=by
 refine fnZ hE (cfg:=cfg) (fuel:=fuel) h19 (by kernel_rfl) ?_
 unfold t19
 dsimp only [V.p]
 try refine aA ?_
 refine aP rfl (fun hk=>?_) (fun h1=>?_)
 ·obtain rfl:k=1:=by simpa using hk
  try refine aA ?_
  exact aG 0 rfl (Nat.le_refl _) rfl rfl ⟨rfl,rfl⟩
 try refine aA ?_
 refine aP rfl (fun hk=>?_) (fun h2=>?_)
 ·obtain rfl:k=2:=by simpa using hk
  try refine aA ?_
  exact aG 0 rfl (Nat.le_refl _) rfl rfl ⟨rfl,rfl⟩
 try refine aA ?_
 refine aP rfl (fun hk=>?_) (fun h3=>?_)
 ·obtain rfl:k=3:=by simpa using hk
  try refine aA ?_
  exact aG 0 rfl (Nat.le_refl _) rfl rfl ⟨rfl,rfl⟩
 try refine aA ?_
 refine aP rfl (fun hk=>?_) (fun h4=>?_)
 ·obtain rfl:k=4:=by simpa using hk
  replace h12:=h12 rfl
  clear h34
  try refine aA ?_
  exact aG 0 rfl (Nat.le_refl _) (by try dsimp only [go_sem];simp only [okm.okL,okm,bu,Bool.and_self]) rfl ⟨rfl,rfl⟩
 try refine aA ?_
 refine aP rfl (fun hk=>?_) (fun h5=>?_)
 ·obtain rfl:k=5:=by simpa using hk
  replace h34:=h34 rfl
  clear h12
  try refine aA ?_
  exact aG 0 rfl (Nat.le_refl _) (by try dsimp only [go_sem];simp only [okm.okL,okm,dT,Bool.and_self]) rfl ⟨rfl,rfl⟩
 try refine aA ?_
 refine aP rfl (fun hk=>?_) (fun h6=>?_)
 ·obtain rfl:k=6:=by simpa using hk
  try refine aA ?_
  exact aG 0 rfl (Nat.le_refl _) rfl rfl ⟨rfl,rfl⟩
 simp only [decide_eq_false_iff_not] at h1 h2 h3 h4 h5 h6
 refine aG 0 rfl (Nat.le_refl _) rfl rfl ⟨?_,rfl⟩
 simp only [V.val,if_neg h1,if_neg h2,if_neg h3,if_neg h4,if_neg h5,if_neg h6]
 rfl
theorem Da (hE:SxEnv E) {inf:Nat->TypeInfo} (h12:aC E cfg fuel 12 1=some (t12 inf)) (hi1:(inf 41).size=1) (hi2:(inf 41).bytes=16) {l:List V} (hlen:l.length<=1048576)
  (h19:∀ v,v∈l->PR E gl 19 [.agg v.p] [] v.val.p []):PR E gl 12 [.sl 4 l.length (V.ps l)] [] (.ow fB 1 (V.vals l).length (Val.ps (V.vals l))) []:=by
 refine fnZ hE (cfg:=cfg) (fuel:=fuel) h12 (by kernel_rfl) ?_
 unfold t12
 refine bB (fun κ vs ν=>ν=[]/\∃ i,κ=l.length - i/\i<=l.length/\vs=[.ow fB 1 i (Val.ps (V.vals (l.take i))),.c (.int .i64 i)]) rfl l.length
  [.ow fB 1 0 [],.c (.int .i64 (0:Nat))] (.cons _ _ _ _ (.nilow _ _) (.cons _ _ _ _ (.refl _) .nil)) ⟨rfl,0,by omega,by omega,rfl⟩ ?_
 rintro κ vs ν ⟨rfl,i,rfl,hi,rfl⟩
 try dsimp only [go_sem]
 try refine aA ?_
 refine aP rfl (fun hlt=>?_) (fun hge=>?_)
 ·have hlt:i < l.length:=by have:=of_decide_eq_true hlt;omega
  obtain ⟨v,hv⟩:∃ v,l[i]? = some v:=⟨l[i],List.getElem?_eq_getElem hlt⟩
  refine cm rfl hlt ?_
  try dsimp only [go_sem]
  refine ku rfl (by rw [V.ps_length];omega) ?_
  rw [V.ps_at l i v hv]
  try dsimp only [go_sem]
  refine aM rfl (h19 v (List.mem_of_getElem? hv)) (Nat.le_refl _) ?_
  try dsimp only [go_sem]
  refine kr rfl (bC _) (gu _) (fp _) ?_
  try dsimp only [go_sem]
  refine eH rfl rfl rfl hi1 rfl rfl rfl rfl (by rw [hi2];omega) (by omega) ?_
  try dsimp only [go_sem]
  refine kq rfl (by omega) ?_
  try dsimp only [go_sem]
  refine aF rfl ?_
  try dsimp only [go_sem]
  refine ⟨l.length - (i+1),by omega,rfl,i+1,rfl,by omega,?_⟩
  rw [gp hv,V.vals_map,V.vals_map,Val.ps_map,Val.ps_map]
  simp only [List.map_append,List.map_cons,List.map_nil]
 ·have hge:i=l.length:=by have:=of_decide_eq_false hge;omega
  subst hge
  refine aF rfl ?_
  try dsimp only [go_sem]
  try refine aA ?_
  refine aF rfl ⟨?_,rfl⟩
  rw [List.take_length]
  have:(V.vals l).length=l.length:=by rw [V.vals_map,List.length_map]
  rw [this]
  rfl
theorem Db (hE:SxEnv E) {inf:Nat->TypeInfo} (h34:aC E cfg fuel 34 1=some (t34 inf)) (hi1:(inf 100).size=1) (hi2:(inf 100).bytes=16) {l:List V} (hlen:l.length<=1048576)
  (h58:∀ v,v∈l->PR E gl 58 [.agg v.p] [] v.itm.p []):PR E gl 34 [.sl 4 l.length (V.ps l)] [] (.ow dS 1 (V.itms l).length (Itm.ps (V.itms l))) []:=by
 refine fnZ hE (cfg:=cfg) (fuel:=fuel) h34 (by kernel_rfl) ?_
 unfold t34
 refine bB (fun κ vs ν=>ν=[]/\∃ i,κ=l.length - i/\i<=l.length/\vs=[.ow dS 1 i (Itm.ps (V.itms (l.take i))),.c (.int .i64 i)]) rfl l.length
  [.ow dS 1 0 [],.c (.int .i64 (0:Nat))] (.cons _ _ _ _ (.nilow _ _) (.cons _ _ _ _ (.refl _) .nil)) ⟨rfl,0,by omega,by omega,rfl⟩ ?_
 rintro κ vs ν ⟨rfl,i,rfl,hi,rfl⟩
 try dsimp only [go_sem]
 try refine aA ?_
 refine aP rfl (fun hlt=>?_) (fun hge=>?_)
 ·have hlt:i < l.length:=by have:=of_decide_eq_true hlt;omega
  obtain ⟨v,hv⟩:∃ v,l[i]? = some v:=⟨l[i],List.getElem?_eq_getElem hlt⟩
  refine cm rfl hlt ?_
  try dsimp only [go_sem]
  refine ku rfl (by rw [V.ps_length];omega) ?_
  rw [V.ps_at l i v hv]
  try dsimp only [go_sem]
  refine aM rfl (h58 v (List.mem_of_getElem? hv)) (Nat.le_refl _) ?_
  try dsimp only [go_sem]
  refine kr rfl (nN _) (D7 _) (D8 _) ?_
  try dsimp only [go_sem]
  refine eH rfl rfl rfl hi1 rfl rfl rfl rfl (by rw [hi2];omega) (by omega) ?_
  try dsimp only [go_sem]
  refine kq rfl (by omega) ?_
  try dsimp only [go_sem]
  refine aF rfl ?_
  try dsimp only [go_sem]
  refine ⟨l.length - (i+1),by omega,rfl,i+1,rfl,by omega,?_⟩
  rw [gp hv,V.itms_map,V.itms_map,Itm.ps_map,Itm.ps_map]
  simp only [List.map_append,List.map_cons,List.map_nil]
 ·have hge:i=l.length:=by have:=of_decide_eq_false hge;omega
  subst hge
  refine aF rfl ?_
  try dsimp only [go_sem]
  try refine aA ?_
  refine aF rfl ⟨?_,rfl⟩
  rw [List.take_length]
  have:(V.itms l).length=l.length:=by rw [V.itms_map,List.length_map]
  rw [this]
  rfl
theorem Dc (hE:SxEnv E) (h58:aC E cfg fuel 58 1=some t58) {v:V} (h19:PR E gl 19 [.agg v.p] [] v.val.p []):PR E gl 58 [.agg v.p] [] v.itm.p []:=by
 obtain ⟨k,n,s,l⟩:=v
 rw [V.itm_eq]
 refine fnZ hE (cfg:=cfg) (fuel:=fuel) h58 (by kernel_rfl) ?_
 unfold t58
 dsimp only [V.p] at h19 ⊢
 try refine aA ?_
 refine aP rfl (fun hk=>?_) (fun h7=>?_)
 ·obtain rfl:k=7:=by simpa using hk
  try refine aA ?_
  exact aG 0 rfl (Nat.le_refl _) rfl rfl ⟨rfl,rfl⟩
 have h7:k≠7:=by simpa using h7
 try refine aA ?_
 refine aP rfl (fun hk=>?_) (fun h1=>?_)
 ·have hk:k < 1:=of_decide_eq_true hk
  refine aG 0 rfl (Nat.le_refl _) rfl rfl ⟨?_,rfl⟩
  simp only [if_neg h7,if_pos hk]
  rfl
 have h1:¬ k < 1:=of_decide_eq_false h1
 try refine aA ?_
 refine aP rfl (fun hk=>?_) (fun h6=>?_)
 ·have hk:k > 6:=of_decide_eq_true hk
  refine aG 0 rfl (Nat.le_refl _) rfl rfl ⟨?_,rfl⟩
  simp only [if_neg h7,if_neg h1,if_pos hk]
  rfl
 have h6:¬ k > 6:=of_decide_eq_false h6
 try refine aA ?_
 refine aM rfl (h19.frame ?_ _) (Nat.le_refl _) ?_
 ·simp only [okm.okL,okm,fo,Bool.and_self]
 try dsimp only [go_sem]
 refine rN rfl (bC _) (gu _) ?_
 try dsimp only [go_sem]
 refine aG 0 rfl (Nat.le_refl _) ?_ rfl ⟨?_,rfl⟩
 ·try dsimp only [go_sem]
  simp only [okm.okL,okm,cJ,Bool.and_self]
 ·simp only [if_neg h7,if_neg h1,if_neg h6]
  rfl
theorem sZ (hE:SxEnv E) {inf:Nat->TypeInfo} (h11:aC E cfg fuel 11 1=some (t11 inf)) (hi1:(inf 35).size=4) (hi2:(inf 35).bytes=56) {l:List Val} (hlen:l.length<=1048576)
  (h20:∀ v,v∈l->PR E gl 20 [v.p] [] (.agg v.tree.p) []):PR E gl 11 [.sl 1 l.length (Val.ps l)] [] (.ow tV 4 (Val.trees l).length (V.ps (Val.trees l))) []:=by
 refine fnZ hE (cfg:=cfg) (fuel:=fuel) h11 (by kernel_rfl) ?_
 unfold t11
 refine bB (fun κ vs ν=>ν=[]/\∃ i,κ=l.length - i/\i<=l.length/\vs=[.ow tV 4 i (V.ps (Val.trees (l.take i))),.c (.int .i64 i)]) rfl l.length
  [.ow tV 4 0 [],.c (.int .i64 (0:Nat))] (.cons _ _ _ _ (.nilow _ _) (.cons _ _ _ _ (.refl _) .nil)) ⟨rfl,0,by omega,by omega,rfl⟩ ?_
 rintro κ vs ν ⟨rfl,i,rfl,hi,rfl⟩
 try dsimp only [go_sem]
 try refine aA ?_
 refine aP rfl (fun hlt=>?_) (fun hge=>?_)
 ·have hlt:i < l.length:=by have:=of_decide_eq_true hlt;omega
  obtain ⟨v,hv⟩:∃ v,l[i]? = some v:=⟨l[i],List.getElem?_eq_getElem hlt⟩
  refine cm rfl hlt ?_
  try dsimp only [go_sem]
  refine dG rfl (p:=v.p) (by rw [Val.ps_map,Nat.mul_one,List.getElem?_map,hv];rfl) ?_
  try dsimp only [go_sem]
  refine aM (as:=[v.p]) (by show some [fz v.p]=some [v.p];rw [bC]) (h20 v (List.mem_of_getElem? hv)) (Nat.le_refl _) ?_
  try dsimp only [go_sem]
  refine sY rfl rfl ?_
  try dsimp only [go_sem]
  refine eH rfl rfl rfl hi1 rfl (V.p_length _) rfl rfl (by rw [hi2];omega) (by omega) ?_
  try dsimp only [go_sem]
  refine kq rfl (by omega) ?_
  try dsimp only [go_sem]
  refine aF rfl ?_
  try dsimp only [go_sem]
  refine ⟨l.length - (i+1),by omega,rfl,i+1,rfl,by omega,?_⟩
  rw [gp hv,Val.trees_map,Val.trees_map,List.map_append,V.ps_append]
  simp only [List.map_cons,List.map_nil,V.ps,List.append_nil]
 ·have hge:i=l.length:=by have:=of_decide_eq_false hge;omega
  subst hge
  refine aF rfl ?_
  try dsimp only [go_sem]
  try refine aA ?_
  refine aF rfl ⟨?_,rfl⟩
  rw [List.take_length]
  have:(Val.trees l).length=l.length:=by rw [Val.trees_map,List.length_map]
  rw [this]
  rfl
theorem Dd (hE:SxEnv E) {inf:Nat->TypeInfo} (h35:aC E cfg fuel 35 1=some (t35 inf)) (hi1:(inf 35).size=4) (hi2:(inf 35).bytes=56) {l:List Itm} (hlen:l.length<=1048576)
  (h59:∀ v,v∈l->PR E gl 59 [v.p] [] (.agg v.tree.p) []):PR E gl 35 [.sl 1 l.length (Itm.ps l)] [] (.ow tV 4 (Itm.trees l).length (V.ps (Itm.trees l))) []:=by
 refine fnZ hE (cfg:=cfg) (fuel:=fuel) h35 (by kernel_rfl) ?_
 unfold t35
 refine bB (fun κ vs ν=>ν=[]/\∃ i,κ=l.length - i/\i<=l.length/\vs=[.ow tV 4 i (V.ps (Itm.trees (l.take i))),.c (.int .i64 i)]) rfl l.length
  [.ow tV 4 0 [],.c (.int .i64 (0:Nat))] (.cons _ _ _ _ (.nilow _ _) (.cons _ _ _ _ (.refl _) .nil)) ⟨rfl,0,by omega,by omega,rfl⟩ ?_
 rintro κ vs ν ⟨rfl,i,rfl,hi,rfl⟩
 try dsimp only [go_sem]
 try refine aA ?_
 refine aP rfl (fun hlt=>?_) (fun hge=>?_)
 ·have hlt:i < l.length:=by have:=of_decide_eq_true hlt;omega
  obtain ⟨v,hv⟩:∃ v,l[i]? = some v:=⟨l[i],List.getElem?_eq_getElem hlt⟩
  refine cm rfl hlt ?_
  try dsimp only [go_sem]
  refine dG rfl (p:=v.p) (by rw [Itm.ps_map,Nat.mul_one,List.getElem?_map,hv];rfl) ?_
  try dsimp only [go_sem]
  refine aM (as:=[v.p]) (by show some [fz v.p]=some [v.p];rw [nN]) (h59 v (List.mem_of_getElem? hv)) (Nat.le_refl _) ?_
  try dsimp only [go_sem]
  refine sY rfl rfl ?_
  try dsimp only [go_sem]
  refine eH rfl rfl rfl hi1 rfl (V.p_length _) rfl rfl (by rw [hi2];omega) (by omega) ?_
  try dsimp only [go_sem]
  refine kq rfl (by omega) ?_
  try dsimp only [go_sem]
  refine aF rfl ?_
  try dsimp only [go_sem]
  refine ⟨l.length - (i+1),by omega,rfl,i+1,rfl,by omega,?_⟩
  rw [gp hv,Itm.trees_map,Itm.trees_map,List.map_append,V.ps_append]
  simp only [List.map_cons,List.map_nil,V.ps,List.append_nil]
 ·have hge:i=l.length:=by have:=of_decide_eq_false hge;omega
  subst hge
  refine aF rfl ?_
  try dsimp only [go_sem]
  try refine aA ?_
  refine aF rfl ⟨?_,rfl⟩
  rw [List.take_length]
  have:(Itm.trees l).length=l.length:=by rw [Itm.trees_map,List.length_map]
  rw [this]
  rfl
theorem fq (hE:SxEnv E) (h20:aC E cfg fuel 20 1=some t20) {v:Val}
  (h11:∀ l,v=.list l->PR E gl 11 [.sl 1 l.length (Val.ps l)] [] (.ow tV 4 (Val.trees l).length (V.ps (Val.trees l))) [])
  (h35:∀ l,v=.quot l->PR E gl 35 [.sl 1 l.length (Itm.ps l)] [] (.ow tV 4 (Itm.trees l).length (V.ps (Itm.trees l))) []) :
  PR E gl 20 [v.p] [] (.agg v.tree.p) []:=by
 refine fnZ hE (cfg:=cfg) (fuel:=fuel) h20 (by kernel_rfl) ?_
 unfold t20
 cases v with
 | nil =>
  dsimp only [Val.p]
  try refine aA ?_
  exact bR 0 rfl (LeL.one (.agg _ _ (.cons _ _ _ _ (.refl _) (.cons _ _ _ _ (.refl _) (.cons _ _ _ _ (.refl _) (.cons _ _ _ _ (.nil 4) .nil)))))) (Nat.le_refl _) rfl rfl ⟨rfl,rfl⟩
 | int n =>
  dsimp only [Val.p]
  try refine aA ?_
  exact bR 0 rfl (LeL.one (.agg _ _ (.cons _ _ _ _ (.refl _) (.cons _ _ _ _ (.refl _) (.cons _ _ _ _ (.refl _) (.cons _ _ _ _ (.nil 4) .nil)))))) (Nat.le_refl _) rfl rfl ⟨rfl,rfl⟩
 | str s =>
  dsimp only [Val.p]
  try refine aA ?_
  exact bR 0 rfl (LeL.one (.agg _ _ (.cons _ _ _ _ (.refl _) (.cons _ _ _ _ (.refl _) (.cons _ _ _ _ (.refl _) (.cons _ _ _ _ (.nil 4) .nil)))))) (Nat.le_refl _) rfl rfl ⟨rfl,rfl⟩
 | bool b =>
  dsimp only [Val.p]
  try refine aA ?_
  cases b <;> (
   try refine aA ?_
   exact bR 0 rfl (LeL.one (.agg _ _ (.cons _ _ _ _ (.refl _) (.cons _ _ _ _ (.refl _) (.cons _ _ _ _ (.refl _) (.cons _ _ _ _ (.nil 4) .nil)))))) (Nat.le_refl _) rfl rfl ⟨rfl,rfl⟩)
 | box n =>
  dsimp only [Val.p]
  try refine aA ?_
  exact bR 0 rfl (LeL.one (.agg _ _ (.cons _ _ _ _ (.refl _) (.cons _ _ _ _ (.refl _) (.cons _ _ _ _ (.refl _) (.cons _ _ _ _ (.nil 4) .nil)))))) (Nat.le_refl _) rfl rfl ⟨rfl,rfl⟩
 | list l =>
  dsimp only [Val.p]
  replace h11:=fun μ=>(h11 l rfl).frame (by simp only [okm.okL,okm,bu,Bool.and_self]) μ
  clear h35
  try refine aA ?_
  exact aG 0 rfl (Nat.le_refl _) (show okm.okL 0 [.agg (Val.list l).tree.p]=true by simp only [okm.okL,okm,eI,Bool.and_self]) rfl ⟨rfl,rfl⟩
 | quot l =>
  dsimp only [Val.p]
  replace h35:=fun μ=>(h35 l rfl).frame (by simp only [okm.okL,okm,dT,Bool.and_self]) μ
  clear h11
  try refine aA ?_
  exact aG 0 rfl (Nat.le_refl _) (show okm.okL 0 [.agg (Val.quot l).tree.p]=true by simp only [okm.okL,okm,eI,Bool.and_self]) rfl ⟨rfl,rfl⟩
theorem nO (hE:SxEnv E) (h59:aC E cfg fuel 59 1=some t59) {v:Itm} (h20:∀ w,v=.push w->PR E gl 20 [w.p] [] (.agg w.tree.p) []):PR E gl 59 [v.p] [] (.agg v.tree.p) []:=by
 refine fnZ hE (cfg:=cfg) (fuel:=fuel) h59 (by kernel_rfl) ?_
 unfold t59
 cases v with
 | nil =>
  dsimp only [Itm.p]
  try refine aA ?_
  exact bR 0 rfl (LeL.one (.agg _ _ (.cons _ _ _ _ (.refl _) (.cons _ _ _ _ (.refl _) (.cons _ _ _ _ (.refl _) (.cons _ _ _ _ (.nil 4) .nil)))))) (Nat.le_refl _) rfl rfl ⟨rfl,rfl⟩
 | call s =>
  dsimp only [Itm.p]
  try refine aA ?_
  exact bR 0 rfl (LeL.one (.agg _ _ (.cons _ _ _ _ (.refl _) (.cons _ _ _ _ (.refl _) (.cons _ _ _ _ (.refl _) (.cons _ _ _ _ (.nil 4) .nil)))))) (Nat.le_refl _) rfl rfl ⟨rfl,rfl⟩
 | push w =>
  dsimp only [Itm.p]
  try refine aA ?_
  refine fA rfl rfl rfl (by show (bz w.p&&true)=true;rw [fp];rfl) (by decide) ?_
  try dsimp only [go_sem]
  try refine aA ?_
  refine aM (as:=[w.p]) (by show some [fz (fz w.p)]=some [w.p];rw [bC,bC]) ((h20 w rfl).frame ?_ _) (Nat.le_refl _) ?_
  ·simp only [okm.okL,cJ,Bool.and_self]
  try dsimp only [go_sem]
  show pz E gl _ _ _ _ _ _ _ (fun _ outs μ1=>outs=[P.agg w.tree.p]/\μ1=[])
  generalize w.tree=t
  obtain ⟨k,n,s,l⟩:=t
  dsimp only [V.p]
  try refine aA ?_
  refine aG 0 rfl (Nat.le_refl _) ?_ rfl ⟨rfl,rfl⟩
  show okm.okL 0 [.agg (V.mk k n s l).p]=true
  simp only [okm.okL,okm,eI,Bool.and_self]
structure ConvT (E:Env) (inf:Nat->TypeInfo) (cfg:Cfg) (fuel:Nat):Prop where
 t19:aC E cfg fuel 19 1=some t19
 t12:aC E cfg fuel 12 1=some (t12 inf)
 t58:aC E cfg fuel 58 1=some t58
 t34:aC E cfg fuel 34 1=some (t34 inf)
 t20:aC E cfg fuel 20 1=some t20
 t11:aC E cfg fuel 11 1=some (t11 inf)
 t59:aC E cfg fuel 59 1=some t59
 t35:aC E cfg fuel 35 1=some (t35 inf)
 val1:(inf 41).size=1
 val2:(inf 41).bytes=16
 itm1:(inf 100).size=1
 itm2:(inf 100).bytes=16
 v1:(inf 35).size=4
 v2:(inf 35).bytes=56
mutual
def V.small (n:Nat):V->Prop
 | .mk _ _ s l=>l.length<=n/\V.smalls n l/\s.size<=n
def V.smalls (n:Nat):List V->Prop
 | []=>True
 | v::l=>v.small n/\V.smalls n l
end
mutual
def Val.small (n:Nat):Val->Prop
 | .list l=>l.length<=n/\Val.smalls n l
 | .quot l=>l.length<=n/\Itm.smalls n l
 | .str s=>s.size<=n
 | _=>True
def Val.smalls (n:Nat):List Val->Prop
 | []=>True
 | v::l=>v.small n/\Val.smalls n l
def Itm.small (n:Nat):Itm->Prop
 | .push v=>v.small n
 | .call s=>s.size<=n
 | _=>True
def Itm.smalls (n:Nat):List Itm->Prop
 | []=>True
 | v::l=>v.small n/\Itm.smalls n l
end
mutual
theorem nP (hE:SxEnv E) {inf:Nat->TypeInfo} (T:ConvT E inf cfg fuel):∀ v:V,v.small 1048576->PR E gl 19 [.agg v.p] [] v.val.p []
 | .mk k n s l,h=>by
  simp only [V.small] at h
  have hv:=s4 hE T l h.2.1
  refine D9 hE T.t19 (fun _ μ=>?_) (fun _ μ=>?_)
  ·refine PR.frame (Da hE T.t12 T.val1 T.val2 h.1 fun v hm=>(hv v hm).1) ?_ μ
   simp only [okm.okL,okm,fo,Bool.and_self]
  ·refine PR.frame (Db hE T.t34 T.itm1 T.itm2 h.1 fun v hm=>(hv v hm).2) ?_ μ
   simp only [okm.okL,okm,fo,Bool.and_self]
theorem s4 (hE:SxEnv E) {inf:Nat->TypeInfo} (T:ConvT E inf cfg fuel):∀ l:List V,V.smalls 1048576 l->∀ v,v∈l->PR E gl 19 [.agg v.p] [] v.val.p []/\PR E gl 58 [.agg v.p] [] v.itm.p []
 | [],_,v,hm=>by cases hm
 | w::l,h,v,hm=>by
  simp only [V.smalls] at h
  have hw:=nP hE T w h.1
  rcases List.mem_cons.1 hm with rfl | hm
  ·exact ⟨hw,Dc hE T.t58 hw⟩
  ·exact s4 hE T l h.2 v hm
end
mutual
theorem gv (hE:SxEnv E) {inf:Nat->TypeInfo} (T:ConvT E inf cfg fuel):∀ v:Val,v.small 1048576->PR E gl 20 [v.p] [] (.agg v.tree.p) []
 | .list l,h=>by
  simp only [Val.small] at h
  refine fq hE T.t20 (fun m hm=>?_) (fun m hm=>by cases hm)
  cases hm
  exact sZ hE T.t11 T.v1 T.v2 h.1 (nQ hE T l h.2)
 | .quot l,h=>by
  simp only [Val.small] at h
  refine fq hE T.t20 (fun m hm=>by cases hm) (fun m hm=>?_)
  cases hm
  exact Dd hE T.t35 T.v1 T.v2 h.1 (s5 hE T l h.2)
 | .nil,_=>fq hE T.t20 (fun m hm=>by cases hm) (fun m hm=>by cases hm)
 | .int _,_=>fq hE T.t20 (fun m hm=>by cases hm) (fun m hm=>by cases hm)
 | .str _,_=>fq hE T.t20 (fun m hm=>by cases hm) (fun m hm=>by cases hm)
 | .bool _,_=>fq hE T.t20 (fun m hm=>by cases hm) (fun m hm=>by cases hm)
 | .box _,_=>fq hE T.t20 (fun m hm=>by cases hm) (fun m hm=>by cases hm)
theorem nQ (hE:SxEnv E) {inf:Nat->TypeInfo} (T:ConvT E inf cfg fuel):∀ l:List Val,Val.smalls 1048576 l->∀ v,v∈l->PR E gl 20 [v.p] [] (.agg v.tree.p) []
 | [],_,v,hm=>by cases hm
 | w::l,h,v,hm=>by
  simp only [Val.smalls] at h
  have hw:=gv hE T w h.1
  rcases List.mem_cons.1 hm with rfl | hm
  ·exact hw
  ·exact nQ hE T l h.2 v hm
theorem De (hE:SxEnv E) {inf:Nat->TypeInfo} (T:ConvT E inf cfg fuel):∀ v:Itm,v.small 1048576->PR E gl 59 [v.p] [] (.agg v.tree.p) []
 | .push v,h=>by
  simp only [Itm.small] at h
  refine nO hE T.t59 (fun w hw=>?_)
  cases hw
  exact gv hE T v h
 | .nil,_=>nO hE T.t59 (fun m hm=>by cases hm)
 | .call _,_=>nO hE T.t59 (fun m hm=>by cases hm)
theorem s5 (hE:SxEnv E) {inf:Nat->TypeInfo} (T:ConvT E inf cfg fuel):∀ l:List Itm,Itm.smalls 1048576 l->∀ v,v∈l->PR E gl 59 [v.p] [] (.agg v.tree.p) []
 | [],_,v,hm=>by cases hm
 | w::l,h,v,hm=>by
  simp only [Itm.smalls] at h
  have hw:=De hE T w h.1
  rcases List.mem_cons.1 hm with rfl | hm
  ·exact hw
  ·exact s5 hE T l h.2 v hm
end
theorem s6 (hE:SxEnv E) {inf:Nat->TypeInfo} (T:ConvT E inf cfg fuel) {l:List Val} (hl:l.length<=1048576) (h:Val.smalls 1048576 l):PR E gl 11 [.sl 1 l.length (Val.ps l)] [] (.ow tV 4 (Val.trees l).length (V.ps (Val.trees l))) [] :=
 sZ hE T.t11 T.v1 T.v2 hl (nQ hE T l h)
end
end Go.AM.PV
namespace Go.AM.PV
open Go Go.AM Go.AM.SX
attribute [local irreducible] pz aQ
def gate (left nest:Int) (r:Int->Int×Bool×Int):Int×Bool×Int:=if left - 1 < 0 then (0,false,left - 1) else if nest > 32 then (0,false,left - 1) else r (left - 1)
def eJ (x:Int×Bool×Int):Int×Bool×Int:=if x.2.1 then (x.1+1,decide (x.1 < 32),x.2.2) else (0,false,x.2.2)
section
variable (vs nm:ByteArray->Bool)
mutual
def Val.meas:Val->Int->Int->Int×Bool×Int
 | .nil,left,nest=>gate left nest fun lf=>(0,false,lf)
 | .int n,left,nest=>gate left nest fun lf=>(0,decide (n>=-1152921504606846976)&&decide (n<=1152921504606846975),lf)
 | .str s,left,nest=>gate left nest fun lf=>(0,decide ((s.size:Int)<=4096)&&vs s,lf)
 | .bool _,left,nest=>gate left nest fun lf=>(0,true,lf)
 | .box n,left,nest=>gate left nest fun lf=>(0,decide (n>=1)&&decide (n<=1048576),lf)
 | .list l,left,nest=>gate left nest fun lf=>eJ (Val.measL l lf (nest+1) 0)
 | .quot l,left,nest=>gate left nest fun lf=>eJ (Itm.measL l lf (nest+1) 0)
def Val.measL:List Val->Int->Int->Int->Int×Bool×Int
 | [],lf,_,d=>(d,true,lf)
 | v::l,lf,nest,d=>if (v.meas lf nest).2.1 then Val.measL l (v.meas lf nest).2.2 nest (max d (v.meas lf nest).1) else (0,false,(v.meas lf nest).2.2)
def Itm.meas:Itm->Int->Int->Int×Bool×Int
 | .nil,left,_=>(0,false,left - 1)
 | .push v,left,nest=>v.meas left nest
 | .call s,left,_=>(0,decide (left - 1>=0)&&nm s,left - 1)
def Itm.measL:List Itm->Int->Int->Int->Int×Bool×Int
 | [],lf,_,d=>(d,true,lf)
 | v::l,lf,nest,d=>if (v.meas lf nest).2.1 then Itm.measL l (v.meas lf nest).2.2 nest (max d (v.meas lf nest).1) else (0,false,(v.meas lf nest).2.2)
end
def Bnd (left:Int) (x:Int×Bool×Int):Prop:=-1<=x.2.2/\x.2.2<=left/\0<=x.1/\x.1<=33/\(x.2.1=true->0<=x.2.2/\x.1<=32)
theorem ft {left nest:Int} {r:Int->Int×Bool×Int} (h:0<=left) (hr:0<=left - 1->Bnd (left - 1) (r (left - 1))):Bnd left (gate left nest r):=by
 unfold gate
 split
 ·exact ⟨by show -1<=left - 1;omega,by show left - 1<=left;omega,by show (0:Int)<=0;omega,by show (0:Int)<=33;omega,fun e=>by cases e⟩
 ·split
  ·exact ⟨by show -1<=left - 1;omega,by show left - 1<=left;omega,by show (0:Int)<=0;omega,by show (0:Int)<=33;omega,fun e=>by cases e⟩
  ·obtain ⟨h1,h2,h3,h4,h5⟩:=hr (by omega)
   exact ⟨h1,by omega,h3,h4,h5⟩
theorem jO {left:Int} {b:Bool} (h:0<=left):Bnd left (0,b,left):=⟨by show -1<=left;omega,Int.le_refl _,by show (0:Int)<=0;omega,by show (0:Int)<=33;omega,fun _=>⟨h,by show (0:Int)<=32;omega⟩⟩
def nR (left:Int) (x:Int×Bool×Int):Prop:=-1<=x.2.2/\x.2.2<=left/\0<=x.1/\x.1<=32/\(x.2.1=true->0<=x.2.2)
theorem s7 {left:Int} {x:Int×Bool×Int} (h:nR left x):Bnd left (eJ x):=by
 obtain ⟨h1,h2,h3,h4,h5⟩:=h
 unfold eJ
 split
 ·rename_i hx
  exact ⟨h1,h2,by show 0<=x.1+1;omega,by show x.1+1<=33;omega,fun e=>⟨h5 hx,by have:x.1 < 32:=of_decide_eq_true e;show x.1+1<=32;omega⟩⟩
 ·exact ⟨h1,h2,by show (0:Int)<=0;omega,by show (0:Int)<=33;omega,fun e=>by cases e⟩
mutual
theorem Val.bnd:∀ (v:Val) {left nest:Int},0<=left->Bnd left (v.meas vs nm left nest)
 | .nil,_,_,h=>ft h fun h=>jO h
 | .int _,_,_,h=>ft h fun h=>jO h
 | .str _,_,_,h=>ft h fun h=>jO h
 | .bool _,_,_,h=>ft h fun h=>jO h
 | .box _,_,_,h=>ft h fun h=>jO h
 | .list l,_,_,h=>ft h fun h=>s7 (Val.bndL l h (Int.le_refl 0) (by omega))
 | .quot l,_,_,h=>ft h fun h=>s7 (Itm.bndL l h (Int.le_refl 0) (by omega))
theorem Val.bndL:∀ (l:List Val) {lf nest d:Int},0<=lf->0<=d->d<=32->nR lf (Val.measL vs nm l lf nest d)
 | [],lf,nest,d,h,h0,h1=>⟨by show -1<=lf;omega,Int.le_refl _,h0,h1,fun _=>h⟩
 | v::l,lf,nest,d,h,h0,h1=>by
  obtain ⟨b1,b2,b3,b4,b5⟩:=Val.bnd v (nest:=nest) h
  simp only [Val.measL]
  split
  ·rename_i hok
   obtain ⟨c1,c2⟩:=b5 hok
   obtain ⟨e1,e2,e3,e4,e5⟩:=Val.bndL l (nest:=nest) (d:=max d (v.meas vs nm lf nest).1) c1 (by omega) (by omega)
   exact ⟨e1,by omega,e3,e4,e5⟩
  ·exact ⟨b1,b2,by show (0:Int)<=0;omega,by show (0:Int)<=32;omega,fun e=>by cases e⟩
theorem Itm.bnd:∀ (v:Itm) {left nest:Int},0<=left->Bnd left (v.meas vs nm left nest)
 | .nil,left,_,h=>⟨by show -1<=left - 1;omega,by show left - 1<=left;omega,by show (0:Int)<=0;omega,by show (0:Int)<=33;omega,fun e=>by cases e⟩
 | .push v,_,_,h=>Val.bnd v h
 | .call s,left,_,h=>⟨by show -1<=left - 1;omega,by show left - 1<=left;omega,by show (0:Int)<=0;omega,by show (0:Int)<=33;omega,fun e=>by
   have e':(decide (left - 1>=0)&&nm s)=true:=e
   rw [Bool.and_eq_true] at e'
   exact ⟨of_decide_eq_true e'.1,by show (0:Int)<=32;omega⟩⟩
theorem Itm.bndL:∀ (l:List Itm) {lf nest d:Int},0<=lf->0<=d->d<=32->nR lf (Itm.measL vs nm l lf nest d)
 | [],lf,nest,d,h,h0,h1=>⟨by show -1<=lf;omega,Int.le_refl _,h0,h1,fun _=>h⟩
 | v::l,lf,nest,d,h,h0,h1=>by
  obtain ⟨b1,b2,b3,b4,b5⟩:=Itm.bnd v (nest:=nest) h
  simp only [Itm.measL]
  split
  ·rename_i hok
   obtain ⟨c1,c2⟩:=b5 hok
   obtain ⟨e1,e2,e3,e4,e5⟩:=Itm.bndL l (nest:=nest) (d:=max d (v.meas vs nm lf nest).1) c1 (by omega) (by omega)
   exact ⟨e1,by omega,e3,e4,e5⟩
  ·exact ⟨b1,b2,by show (0:Int)<=0;omega,by show (0:Int)<=32;omega,fun e=>by cases e⟩
end
end
theorem gw (x:Value):∀ p,p∈[P.c x]->fz p=p:=by
 intro p hp
 simp only [List.mem_singleton] at hp
 subst hp;rfl
theorem bM {n:Int} (h0:-9223372036854775808<=n) (h1:n<=9223372036854775807):aV .i64 n=n:=by
 unfold aV
 rw [if_pos ⟨by simp only [lo];omega,by simp only [hi];omega⟩]
section
variable {E:Env} {gl:List GRow} {cfg:Cfg} {fuel:Nat} (vs nm:ByteArray->Bool)
def jP (E:Env) (gl:List GRow) (w:Val):Prop:=∀ left nest:Int,0<=left->left<=1024->0<=nest->nest<=33 ->
 PR E gl 39 [w.p,.lp 0 0,I nest] [.cells [I left]] (.tup [I (w.meas vs nm left nest).1,Bo (w.meas vs nm left nest).2.1]) [.cells [I (w.meas vs nm left nest).2.2]]
def kv (E:Env) (gl:List GRow) (w:Itm):Prop:=∀ left nest:Int,0<=left->left<=1024->0<=nest->nest<=33 ->
 PR E gl 65 [w.p,.lp 0 0,I nest] [.cells [I left]] (.tup [I (w.meas vs nm left nest).1,Bo (w.meas vs nm left nest).2.1]) [.cells [I (w.meas vs nm left nest).2.2]]
set_option maxHeartbeats 4000000 in
theorem fw (hE:SxEnv E) (h39:aC E cfg fuel 39 3=some t39) (hS:∀ s,s.size<=4096->PR E gl 64 [St s] [] (Bo (vs s)) []) {v:Val} (hsm:v.small 1048576)
  (hL:∀ l,v=.list l->∀ w,w∈l->jP vs nm E gl w) (hQ:∀ l,v=.quot l->∀ w,w∈l->kv vs nm E gl w):jP vs nm E gl v:=by
 intro left nest hl0 hl1 hn0 hn1
 refine fnZ hE (cfg:=cfg) (fuel:=fuel) h39 (by kernel_rfl) ?_
 unfold t39
 try refine aA ?_
 try rw [bM (n:=left - 1) (by omega) (by omega)]
 have gt0:left - 1 < 0->v.meas vs nm left nest=(0,false,left - 1):=fun h=>by cases v <;> simp only [Val.meas,gate,if_pos h]
 refine aP rfl (fun h=>?_) (fun h=>?_)
 ·have h:=of_decide_eq_true h
  try refine aA ?_
  refine aF rfl ?_
  rw [gt0 h]
  exact ⟨rfl,rfl⟩
 have h1:¬ left - 1 < 0:=of_decide_eq_false h
 have gt1:nest > 32->v.meas vs nm left nest=(0,false,left - 1):=fun h=>by cases v <;> simp only [Val.meas,gate,if_neg h1,if_pos h]
 try refine aA ?_
 refine aP rfl (fun h=>?_) (fun h=>?_)
 ·have h:=of_decide_eq_true h
  try refine aA ?_
  refine aF rfl ?_
  rw [gt1 h]
  exact ⟨rfl,rfl⟩
 have h2:¬ nest > 32:=of_decide_eq_false h
 cases v with
 | nil =>
  simp only [Val.meas,gate,if_neg h1,if_neg h2]
  dsimp only [Val.p]
  try refine aA ?_
  exact aG 1 rfl (Nat.le_refl _) rfl rfl ⟨rfl,rfl⟩
 | bool b =>
  simp only [Val.meas,gate,if_neg h1,if_neg h2]
  dsimp only [Val.p]
  try refine aA ?_
  exact aG 1 rfl (Nat.le_refl _) rfl rfl ⟨rfl,rfl⟩
 | int n =>
  simp only [Val.meas,gate,if_neg h1,if_neg h2]
  dsimp only [Val.p]
  try refine aA ?_
  refine aP rfl (fun h=>?_) (fun h=>?_)
  ·have h:decide (n>=-1152921504606846976)=true:=h
   try refine aA ?_
   refine aG 1 rfl (Nat.le_refl _) rfl rfl ⟨?_,rfl⟩
   rw [h]
   rfl
  ·have h:decide (n>=-1152921504606846976)=false:=h
   try refine aA ?_
   refine aG 1 rfl (Nat.le_refl _) rfl rfl ⟨?_,rfl⟩
   rw [h]
   rfl
 | str s =>
  simp only [Val.meas,gate,if_neg h1,if_neg h2]
  dsimp only [Val.p]
  try refine aA ?_
  refine aP rfl (fun h=>?_) (fun h=>?_)
  ·try refine aA ?_
   refine aM rfl ((hS s (by have h':decide ((s.size:Int)<=4096)=true:=h;have:=of_decide_eq_true h';omega)).frame rfl _) (Nat.le_refl _) ?_
   try dsimp only [go_sem]
   try refine aA ?_
   refine aG 1 rfl (Nat.le_refl _) rfl rfl ⟨?_,rfl⟩
   have h:decide ((s.size:Int)<=4096)=true:=h
   rw [h]
   rfl
  ·try refine aA ?_
   refine aG 1 rfl (Nat.le_refl _) rfl rfl ⟨?_,rfl⟩
   have h:decide ((s.size:Int)<=4096)=false:=h
   rw [h]
   rfl
 | box n =>
  simp only [Val.meas,gate,if_neg h1,if_neg h2]
  dsimp only [Val.p]
  try refine aA ?_
  refine aP rfl (fun h=>?_) (fun h=>?_)
  ·have h:decide (n>=1)=true:=h
   try refine aA ?_
   refine aG 1 rfl (Nat.le_refl _) rfl rfl ⟨?_,rfl⟩
   rw [h]
   rfl
  ·have h:decide (n>=1)=false:=h
   try refine aA ?_
   refine aG 1 rfl (Nat.le_refl _) rfl rfl ⟨?_,rfl⟩
   rw [h]
   rfl
 | list l =>
  have hlen:l.length<=1048576:=by simp only [Val.small] at hsm;exact hsm.1
  have hL:=hL l rfl
  simp only [Val.meas,gate,if_neg h1,if_neg h2]
  dsimp only [Val.p]
  try refine aA ?_
  have hb0:0<=left - 1:=by omega
  refine bB (fun κ us ν=>∃ (i:Nat) (d lf:Int),κ=l.length - i/\i<=l.length/\us=[Bo false,I d,I i]/\ν=[.cells [I lf],.cells [.sl 1 l.length (Val.ps l)]]/\0<=lf/\lf<=1024/\0<=d/\d<=32 /\
   Val.measL vs nm (l.drop i) lf (nest+1) d=Val.measL vs nm l (left - 1) (nest+1) 0) rfl l.length _ (LeL.refl _) ⟨0,0,left - 1,by omega,by omega,rfl,rfl,hb0,by omega,by omega,by omega,rfl⟩ ?_
  rintro κ us ν ⟨i,d,lf,rfl,hi,rfl,rfl,hf0,hf1,hd0,hd1,heq⟩
  try dsimp only [go_sem]
  try refine aA ?_
  refine aP rfl (fun hlt=>?_) (fun hge=>?_)
  ·have hlt:i < l.length:=by have:=of_decide_eq_true hlt;omega
   obtain ⟨w,hw⟩:∃ w,l[i]? = some w:=⟨l[i],List.getElem?_eq_getElem hlt⟩
   have hstep:l.drop i=w::l.drop (i+1):=by
    rw [List.drop_eq_getElem_cons hlt]
    rw [List.getElem?_eq_getElem hlt] at hw
    cases hw;rfl
   refine cm rfl hlt ?_
   try dsimp only [go_sem]
   refine dG rfl (p:=w.p) (by rw [Val.ps_map,Nat.mul_one,List.getElem?_map,hw];rfl) ?_
   try dsimp only [go_sem]
   try refine aA ?_
   try rw [bM (n:=nest+1) (by omega) (by omega)]
   refine aM (as:=[w.p,.lp 0 0,I (nest+1)]) (by show some [fz w.p,_,_]=some [w.p,_,_];rw [bC];rfl) (PR.frame1 (hL w (List.mem_of_getElem? hw) lf (nest+1) hf0 hf1 (by omega) (by omega))
    (.cons _ _ _ _ (.no _ (cJ w)) (.cons _ _ _ _ (.lp 0) (.cons _ _ _ _ (.no _ rfl) .nil))) rfl rfl rfl (gw _) (gw _) rfl) (Nat.le_refl _) ?_
   obtain ⟨b1,b2,b3,b4,b5⟩:=Val.bnd vs nm w (nest:=nest+1) hf0
   have hm:Val.measL vs nm (l.drop i) lf (nest+1) d=if (w.meas vs nm lf (nest+1)).2.1 then Val.measL vs nm (l.drop (i+1)) (w.meas vs nm lf (nest+1)).2.2 (nest+1) (max d (w.meas vs nm lf (nest+1)).1) else (0,false,(w.meas vs nm lf (nest+1)).2.2):=by
    rw [hstep];rfl
   rw [hm] at heq
   generalize w.meas vs nm lf (nest+1)=x at heq b1 b2 b3 b4 b5
   obtain ⟨d',ok,lf'⟩:=x
   try dsimp only [go_sem]
   try refine aA ?_
   cases ok with
   | false =>
    try refine aA ?_
    refine aF rfl ?_
    try dsimp only [go_sem]
    try refine aA ?_
    rw [<- heq]
    exact aG 1 rfl (Nat.le_refl _) rfl rfl ⟨rfl,rfl⟩
   | true =>
    try refine aA ?_
    try rw [bM (n:=(i:Int)+1) (by omega) (by omega)]
    refine aF rfl ?_
    obtain ⟨c1,c2⟩:=b5 rfl
    dsimp only at b1 b2 b3 b4 c1 c2
    refine ⟨l.length - (i+1),by omega,i+1,max d d',lf',rfl,by omega,?_,rfl,c1,by omega,by omega,by omega,heq⟩
    show [_,P.c (.int .i64 (if d' > d then d' else d)),_]=_
    rw [show (if d' > d then d' else d)=max d d' by rw [Int.max_def];split <;> split <;> omega]
    rfl
  ·have hge:i=l.length:=by have:=of_decide_eq_false hge;omega
   subst hge
   rw [List.drop_length] at heq
   refine aF rfl ?_
   try dsimp only [go_sem]
   try refine aA ?_
   try rw [bM (n:=d+1) (by omega) (by omega)]
   rw [<- heq]
   exact aG 1 rfl (Nat.le_refl _) rfl rfl ⟨rfl,rfl⟩
 | quot l =>
  have hlen:l.length<=1048576:=by simp only [Val.small] at hsm;exact hsm.1
  have hL:=hQ l rfl
  simp only [Val.meas,gate,if_neg h1,if_neg h2]
  dsimp only [Val.p]
  try refine aA ?_
  have hb0:0<=left - 1:=by omega
  refine bB (fun κ us ν=>∃ (i:Nat) (d lf:Int),κ=l.length - i/\i<=l.length/\us=[Bo false,I d,I i]/\ν=[.cells [I lf],.cells [.sl 1 l.length (Itm.ps l)]]/\0<=lf/\lf<=1024/\0<=d/\d<=32 /\
   Itm.measL vs nm (l.drop i) lf (nest+1) d=Itm.measL vs nm l (left - 1) (nest+1) 0) rfl l.length _ (LeL.refl _) ⟨0,0,left - 1,by omega,by omega,rfl,rfl,hb0,by omega,by omega,by omega,rfl⟩ ?_
  rintro κ us ν ⟨i,d,lf,rfl,hi,rfl,rfl,hf0,hf1,hd0,hd1,heq⟩
  try dsimp only [go_sem]
  try refine aA ?_
  refine aP rfl (fun hlt=>?_) (fun hge=>?_)
  ·have hlt:i < l.length:=by have:=of_decide_eq_true hlt;omega
   obtain ⟨w,hw⟩:∃ w,l[i]? = some w:=⟨l[i],List.getElem?_eq_getElem hlt⟩
   have hstep:l.drop i=w::l.drop (i+1):=by
    rw [List.drop_eq_getElem_cons hlt]
    rw [List.getElem?_eq_getElem hlt] at hw
    cases hw;rfl
   refine cm rfl hlt ?_
   try dsimp only [go_sem]
   refine dG rfl (p:=w.p) (by rw [Itm.ps_map,Nat.mul_one,List.getElem?_map,hw];rfl) ?_
   try dsimp only [go_sem]
   try refine aA ?_
   try rw [bM (n:=nest+1) (by omega) (by omega)]
   refine aM (as:=[w.p,.lp 0 0,I (nest+1)]) (by show some [fz w.p,_,_]=some [w.p,_,_];rw [nN];rfl) (PR.frame1 (hL w (List.mem_of_getElem? hw) lf (nest+1) hf0 hf1 (by omega) (by omega))
    (.cons _ _ _ _ (.no _ (sW w)) (.cons _ _ _ _ (.lp 0) (.cons _ _ _ _ (.no _ rfl) .nil))) rfl rfl rfl (gw _) (gw _) rfl) (Nat.le_refl _) ?_
   obtain ⟨b1,b2,b3,b4,b5⟩:=Itm.bnd vs nm w (nest:=nest+1) hf0
   have hm:Itm.measL vs nm (l.drop i) lf (nest+1) d=if (w.meas vs nm lf (nest+1)).2.1 then Itm.measL vs nm (l.drop (i+1)) (w.meas vs nm lf (nest+1)).2.2 (nest+1) (max d (w.meas vs nm lf (nest+1)).1) else (0,false,(w.meas vs nm lf (nest+1)).2.2):=by
    rw [hstep];rfl
   rw [hm] at heq
   generalize w.meas vs nm lf (nest+1)=x at heq b1 b2 b3 b4 b5
   obtain ⟨d',ok,lf'⟩:=x
   try dsimp only [go_sem]
   try refine aA ?_
   cases ok with
   | false =>
    try refine aA ?_
    refine aF rfl ?_
    try dsimp only [go_sem]
    try refine aA ?_
    rw [<- heq]
    exact aG 1 rfl (Nat.le_refl _) rfl rfl ⟨rfl,rfl⟩
   | true =>
    try refine aA ?_
    try rw [bM (n:=(i:Int)+1) (by omega) (by omega)]
    refine aF rfl ?_
    obtain ⟨c1,c2⟩:=b5 rfl
    dsimp only at b1 b2 b3 b4 c1 c2
    refine ⟨l.length - (i+1),by omega,i+1,max d d',lf',rfl,by omega,?_,rfl,c1,by omega,by omega,by omega,heq⟩
    show [_,P.c (.int .i64 (if d' > d then d' else d)),_]=_
    rw [show (if d' > d then d' else d)=max d d' by rw [Int.max_def];split <;> split <;> omega]
    rfl
  ·have hge:i=l.length:=by have:=of_decide_eq_false hge;omega
   subst hge
   rw [List.drop_length] at heq
   refine aF rfl ?_
   try dsimp only [go_sem]
   try refine aA ?_
   try rw [bM (n:=d+1) (by omega) (by omega)]
   rw [<- heq]
   exact aG 1 rfl (Nat.le_refl _) rfl rfl ⟨rfl,rfl⟩
theorem nS (hE:SxEnv E) (h65:aC E cfg fuel 65 3=some t65) (hN:∀ s,s.size<=1048576->PR E gl 102 [St s] [] (Bo (nm s)) []) {v:Itm} (hsm:v.small 1048576)
  (hV:∀ w,v=.push w->jP vs nm E gl w):kv vs nm E gl v:=by
 intro left nest hl0 hl1 hn0 hn1
 refine fnZ hE (cfg:=cfg) (fuel:=fuel) h65 (by kernel_rfl) ?_
 unfold t65
 cases v with
 | push w =>
  have hV:=hV w rfl left nest hl0 hl1 hn0 hn1
  simp only [Itm.meas]
  dsimp only [Itm.p]
  try refine aA ?_
  refine fA rfl rfl rfl (by show (bz w.p&&true)=true;rw [fp];rfl) (by decide) ?_
  try dsimp only [go_sem]
  try refine aA ?_
  refine aM (as:=[w.p,.lp 0 0,I nest]) (by show some [fz (fz w.p),_,_]=some [w.p,_,_];rw [bC,bC];rfl) (PR.frame1 hV
    (.cons _ _ _ _ (.no _ (cJ w)) (.cons _ _ _ _ (.lp 0) (.cons _ _ _ _ (.no _ rfl) .nil))) rfl rfl rfl (gw _) (gw _) rfl) (Nat.le_refl _) ?_
  try dsimp only [go_sem]
  try refine aA ?_
  exact aG 1 rfl (Nat.le_refl _) rfl rfl ⟨rfl,rfl⟩
 | nil =>
  simp only [Itm.meas]
  dsimp only [Itm.p]
  try refine aA ?_
  try rw [bM (n:=left - 1) (by omega) (by omega)]
  exact aG 1 rfl (Nat.le_refl _) rfl rfl ⟨rfl,rfl⟩
 | call s =>
  simp only [Itm.meas]
  dsimp only [Itm.p]
  try refine aA ?_
  try rw [bM (n:=left - 1) (by omega) (by omega)]
  refine aP rfl (fun h=>?_) (fun h=>?_)
  ·have h:decide (left - 1>=0)=true:=h
   try refine aA ?_
   refine aM rfl ((hN s (by simpa only [Itm.small] using hsm)).frame rfl _) (Nat.le_refl _) ?_
   try dsimp only [go_sem]
   try refine aA ?_
   refine aG 1 rfl (Nat.le_refl _) rfl rfl ⟨?_,rfl⟩
   rw [h]
   rfl
  ·have h:decide (left - 1>=0)=false:=h
   try refine aA ?_
   refine aG 1 rfl (Nat.le_refl _) rfl rfl ⟨?_,rfl⟩
   rw [h]
   rfl
mutual
theorem nT (hE:SxEnv E) (h39:aC E cfg fuel 39 3=some t39) (h65:aC E cfg fuel 65 3=some t65) (hS:∀ s,s.size<=4096->PR E gl 64 [St s] [] (Bo (vs s)) []) (hN:∀ s,s.size<=1048576->PR E gl 102 [St s] [] (Bo (nm s)) []):∀ v:Val,v.small 1048576->jP vs nm E gl v
 | .nil,h=>fw vs nm hE h39 hS h (fun _ e=>by cases e) (fun _ e=>by cases e)
 | .int _,h=>fw vs nm hE h39 hS h (fun _ e=>by cases e) (fun _ e=>by cases e)
 | .str _,h=>fw vs nm hE h39 hS h (fun _ e=>by cases e) (fun _ e=>by cases e)
 | .bool _,h=>fw vs nm hE h39 hS h (fun _ e=>by cases e) (fun _ e=>by cases e)
 | .box _,h=>fw vs nm hE h39 hS h (fun _ e=>by cases e) (fun _ e=>by cases e)
 | .list l,h=>have a:=s8 hE h39 h65 hS hN l (by simp only [Val.small] at h;exact h.2);fw vs nm hE h39 hS h (fun l' e=>by cases e;exact a) (fun _ e=>by cases e)
 | .quot l,h=>have a:=s9 hE h39 h65 hS hN l (by simp only [Val.small] at h;exact h.2);fw vs nm hE h39 hS h (fun _ e=>by cases e) (fun l' e=>by cases e;exact a)
theorem s8 (hE:SxEnv E) (h39:aC E cfg fuel 39 3=some t39) (h65:aC E cfg fuel 65 3=some t65) (hS:∀ s,s.size<=4096->PR E gl 64 [St s] [] (Bo (vs s)) []) (hN:∀ s,s.size<=1048576->PR E gl 102 [St s] [] (Bo (nm s)) []):∀ l:List Val,Val.smalls 1048576 l->∀ w,w∈l->jP vs nm E gl w
 | [],_=>fun _ hw=>by cases hw
 | v::l,h=>have h':v.small 1048576/\Val.smalls 1048576 l:=by simpa only [Val.smalls] using h
  have a:=nT hE h39 h65 hS hN v h'.1;have b:=s8 hE h39 h65 hS hN l h'.2
  fun w hw=>by
   rcases List.mem_cons.mp hw with hw | hw
   ·subst hw;exact a
   ·exact b w hw
theorem s9 (hE:SxEnv E) (h39:aC E cfg fuel 39 3=some t39) (h65:aC E cfg fuel 65 3=some t65) (hS:∀ s,s.size<=4096->PR E gl 64 [St s] [] (Bo (vs s)) []) (hN:∀ s,s.size<=1048576->PR E gl 102 [St s] [] (Bo (nm s)) []):∀ l:List Itm,Itm.smalls 1048576 l->∀ w,w∈l->kv vs nm E gl w
 | [],_=>fun _ hw=>by cases hw
 | v::l,h=>have h':v.small 1048576/\Itm.smalls 1048576 l:=by simpa only [Itm.smalls] using h
  have a:=Df hE h39 h65 hS hN v h'.1;have b:=s9 hE h39 h65 hS hN l h'.2
  fun w hw=>by
   rcases List.mem_cons.mp hw with hw | hw
   ·subst hw;exact a
   ·exact b w hw
theorem Df (hE:SxEnv E) (h39:aC E cfg fuel 39 3=some t39) (h65:aC E cfg fuel 65 3=some t65) (hS:∀ s,s.size<=4096->PR E gl 64 [St s] [] (Bo (vs s)) []) (hN:∀ s,s.size<=1048576->PR E gl 102 [St s] [] (Bo (nm s)) []):∀ v:Itm,v.small 1048576->kv vs nm E gl v
 | .nil,h=>nS vs nm hE h65 hN h fun _ e=>by cases e
 | .push w,h=>have a:=nT hE h39 h65 hS hN w (by simpa only [Itm.small] using h);nS vs nm hE h65 hN h fun w' e=>by cases e;exact a
 | .call _,h=>nS vs nm hE h65 hN h fun _ e=>by cases e
end
def Val.chk (v:Val):Int:=if (v.meas vs nm 1024 0).2.1 then 0 else 1
theorem Dg (hE:SxEnv E) (h24:aC E cfg fuel 24 1=some t24) (h39:aC E cfg fuel 39 3=some t39) (h65:aC E cfg fuel 65 3=some t65) (hS:∀ s,s.size<=4096->PR E gl 64 [St s] [] (Bo (vs s)) []) (hN:∀ s,s.size<=1048576->PR E gl 102 [St s] [] (Bo (nm s)) [])
  (v:Val) (hv:v.small 1048576):PR E gl 24 [v.p] [] (I (v.chk vs nm)) []:=by
 refine fnZ hE (cfg:=cfg) (fuel:=fuel) h24 (by kernel_rfl) ?_
 unfold t24
 try refine aA ?_
 have hm:=nT vs nm hE h39 h65 hS hN v hv 1024 0 (by omega) (by omega) (by omega) (by omega)
 refine aM (as:=[v.p,.lp 0 0,I 0]) (by show some [fz v.p,_,_]=some [v.p,_,_];rw [bC];rfl) hm (Nat.le_refl _) ?_
 unfold Val.chk
 generalize v.meas vs nm 1024 0=x
 obtain ⟨d,ok,lf⟩:=x
 try dsimp only [go_sem]
 cases ok with
 | true =>
  try refine aA ?_
  exact aG 0 rfl (Nat.zero_le _) rfl rfl ⟨rfl,rfl⟩
 | false =>
  try refine aA ?_
  exact aG 0 rfl (Nat.zero_le _) rfl rfl ⟨rfl,rfl⟩
end
end Go.AM.PV
