/- The law PrimLists returns true, and what was there stays, wherever its arguments and the listed variables are of bulk at most 1048576. No condition beyond the statement's own. -/
import Derived.Test.YtilbjefgojocaaaGreatDoorPbTxt2
import Derived.Test.YtilbjefgojocaaaGreatDoorTie
import Derived.Test.YtilbjefgojocaaaGreatDoorCards
import Derived.OpenShut
import Derived.LaidMore
import Derived.Lay
import Derived.SevenTiedAt
import Derived.Stop.Joined
import Derived.Deep.DeepHandedRow
import Derived.JoinedCond
namespace Go.AM.PV
open Go Go.AM Go.AM.SX
attribute [local irreducible] pz aQ
variable {E:Env} {gl:List GRow} {inf:Nat->TypeInfo} {c0 c1 c2 c3:Cfg} {fuel:Nat}
theorem Jp {ps:List P} {a:At} {n sz:Nat} {l:List P} (h:bG ps a=.lit l) (hn:l.length=n * sz) (h0:0 < n):denF ps [.sl a n]=some [.fx sz n l]:=by
 unfold denF
 rw [oN h hn h0]
 rfl
structure Lsts (E:Env) (gl:List GRow) (inf:Nat->TypeInfo) (c0 c1 c2 c3:Cfg) (fuel:Nat):Prop extends Lst E gl inf c0 c1 c2 c3 fuel where
 h5:aC E c0 fuel 5 3=some t5
section
variable (H:Lsts E gl inf c0 c1 c2 c3 fuel)
include H
set_option maxHeartbeats 4000000 in
theorem Jq {ka na kb nb n e:Int} {sa sb:ByteArray} {la lb:Nat} {pa pb:List P} {pv pw:P} {kx nx ky ny:Int} {sx sy:ByteArray} {lx ly:Nat} {px py:List P} (he:e≠0)
  (iv:(∃ t q,pv=.ifc t q/\shal 40 (.ifc t q)=true)\/pv=.c .nilIface) (iw:(∃ t q,pw=.ifc t q/\shal 40 (.ifc t q)=true)\/pw=.c .nilIface)
  (oa:okm.okL 0 [.agg [I ka,I na,St sa,.sl 4 la pa]]=true) (ob:okm.okL 0 [.agg [I kb,I nb,St sb,.sl 4 lb pb]]=true) (ov:okm.okL 0 [pv]=true) (ow:okm.okL 0 [pw]=true) (od:okm.okL 0 [.fx 1 2 [pv,pw],.fx 1 1 [.c (bs ae)]]=true)
  (h19a:PR E gl 19 [.agg [I ka,I na,St sa,.sl 4 la pa]] [] pv []) (h19b:PR E gl 19 [.agg [I kb,I nb,St sb,.sl 4 lb pb]] [] pw [])
  (h20a:PR E gl 20 [pv] [] (.agg [I kx,I nx,St sx,.sl 4 lx px]) []) (h20b:PR E gl 20 [pw] [] (.agg [I ky,I ny,St sy,.sl 4 ly py]) [])
  (d:PR E gl 17 [.fx 1 2 [pv,pw],.fx 1 1 [.c (bs ae)]] [] (.tup [.c (.slice none 0 0),I e]) []) :
  PR E gl 5 [.agg [I ka,I na,St sa,.sl 4 la pa],.agg [I kb,I nb,St sb,.sl 4 lb pb],I n] [] (Bo true) []:=by
 have h10:=H.awake
 have h5:=H.h5
 have hE:=H.hE
 clear H
 rcases iv with ⟨tv,qv,rfl,zv⟩ | rfl
 all_goals rcases iw with ⟨tw,qw,rfl,zw⟩ | rfl
 all_goals
  refine fnZ hE (cfg:=c0) (fuel:=fuel) h5 (by kernel_rfl) ?_
  unfold t5
  repeat (first | refine aA ?_ | refine jL rfl (by assumption) (by assumption) ?_ | refine jL rfl rfl (by assumption) ?_ | refine bN rfl (by assumption) ?_ | refine bN rfl rfl ?_ | refine jL (dt (sz:=1) (tz:=1) rfl rfl (by decide) rfl rfl (by decide)) (by assumption) (by assumption) ?_ | dsimp only [List.map,List.take,List.drop,fz])
  exact aG 0 rfl (Nat.zero_le _) rfl rfl ⟨rfl,rfl⟩
def oO (E:Env) (gl:List GRow) (n m k:Int) (pr pv pw:P):Prop :=
 ((∀ μ,PR E gl 21 [I n] μ (Bo false) μ)/\∀ μ,PR E gl 17 [.fx 1 2 [.ifc af (.agg [I n]),pr],.fx 1 1 [.c (bs a8)]] μ (.tup [.c (.slice none 0 0),I 1]) μ) \/
 ((∀ μ,PR E gl 21 [I n] μ (Bo true) μ)/\(n < 0\/m+k<=n)/\(∀ μ,PR E gl 17 [.fx 1 2 [.ifc af (.agg [I n]),pr],.fx 1 1 [.c (bs a8)]] μ (.tup [.c (.slice none 0 0),I 4]) μ)) \/
 ((∀ μ,PR E gl 21 [I n] μ (Bo true) μ)/\0<=n/\n < m+k/\∃ (t:TypeId) (q:P) (l:List P),(∀ μ,PR E gl 17 [.fx 1 2 [.ifc af (.agg [I n]),pr],.fx 1 1 [.c (bs a8)]] μ (.tup [.sl 1 1 [.ifc t q],I 0]) μ) /\
  (∀ μ,PR E gl 11 [.sl 1 1 [.ifc t q]] μ (.ow tV 4 1 l) μ)/\(∀ μ,PR E gl 15 [.sl 4 1 l,.sl 4 1 l] μ (Bo true) μ) /\
  ((n < m/\∀ μ,PR E gl 17 [.fx 1 2 [.ifc af (.agg [I n]),pv],.fx 1 1 [.c (bs a8)]] μ (.tup [.sl 1 1 [.ifc t q],I 0]) μ) \/
   (m<=n/\(∀ μ,PR E gl 17 [.fx 1 2 [.ifc af (.agg [I n]),pv],.fx 1 1 [.c (bs a8)]] μ (.tup [.c (.slice none 0 0),I 4]) μ)/\∀ μ,PR E gl 17 [.fx 1 2 [.ifc af (.agg [I (n - m)]),pw],.fx 1 1 [.c (bs a8)]] μ (.tup [.sl 1 1 [.ifc t q],I 0]) μ)))
set_option maxHeartbeats 16000000 in
theorem Jr {ka na kb nb n m k:Int} {sa sb:ByteArray} {la lb:Nat} {pa pb:List P} {tv tw tr:TypeId} {qv qw qr:P} {kx nx ky ny kz nz:Int} {sx sy sz:ByteArray} {lx ly lz:Nat} {px py pz':List P}
  (hm0:0<=m) (hm1:m<=1048576) (hk0:0<=k) (hk1:k<=1048576)
  (zv:shal 40 (.ifc tv qv)=true) (zw:shal 40 (.ifc tw qw)=true)
  (oa:okm.okL 0 [.agg [I ka,I na,St sa,.sl 4 la pa]]=true) (ob:okm.okL 0 [.agg [I kb,I nb,St sb,.sl 4 lb pb]]=true) (ov:okm.okL 0 [.ifc tv qv]=true) (ow:okm.okL 0 [.ifc tw qw]=true)
  (h19a:PR E gl 19 [.agg [I ka,I na,St sa,.sl 4 la pa]] [] (.ifc tv qv) []) (h19b:PR E gl 19 [.agg [I kb,I nb,St sb,.sl 4 lb pb]] [] (.ifc tw qw) [])
  (h20a:PR E gl 20 [.ifc tv qv] [] (.agg [I kx,I nx,St sx,.sl 4 lx px]) []) (h20b:PR E gl 20 [.ifc tw qw] [] (.agg [I ky,I ny,St sy,.sl 4 ly py]) [])
  (h20r:∀ μ,PR E gl 20 [.ifc tr qr] μ (.agg [I kz,I nz,St sz,.sl 4 lz pz']) μ)
  (h20i:∀ (i:Int) (μ:Mu),PR E gl 20 [.ifc af (.agg [I i])] μ (.agg [I 1,I i,St ⟨#[]⟩,.sl 4 0 []]) μ)
  (d1:∀ μ,PR E gl 17 [.fx 1 2 [.ifc tv qv,.ifc tw qw],.fx 1 1 [.c (bs ae)]] μ (.tup [.sl 1 1 [.ifc tr qr],I 0]) μ)
  (d2:∀ μ,PR E gl 17 [.fx 1 1 [.ifc tv qv],.fx 1 1 [.c (bs ba)]] μ (.tup [.sl 1 1 [.ifc af (.agg [I m])],I 0]) μ)
  (d3:∀ μ,PR E gl 17 [.fx 1 1 [.ifc tw qw],.fx 1 1 [.c (bs ba)]] μ (.tup [.sl 1 1 [.ifc af (.agg [I k])],I 0]) μ)
  (d4:∀ μ,PR E gl 17 [.sl 1 1 [.ifc tr qr],.fx 1 1 [.c (bs ba)]] μ (.tup [.sl 1 1 [.ifc af (.agg [I (m+k)])],I 0]) μ)
  (hq:kx=5\/kx≠5/\(∀ μ,PR E gl 17 [.fx 1 3 [.ifc af (.agg [I 0]),.ifc af (.agg [I m]),.ifc tr qr],.fx 1 1 [.c (bs cM)]] μ (.tup [.sl 1 1 [.ifc tv qv],I 0]) μ) /\
   (∀ μ,PR E gl 17 [.fx 1 3 [.ifc af (.agg [I m]),.ifc af (.agg [I (m+k)]),.ifc tr qr],.fx 1 1 [.c (bs cM)]] μ (.tup [.sl 1 1 [.ifc tw qw],I 0]) μ) /\
   (∀ μ,PR E gl 17 [.sl 1 1 [.ifc tr qr],.fx 1 2 [.c (bs cL),.c (bs cL)]] μ (.tup [.sl 1 1 [.ifc tr qr],I 0]) μ) /\
   (∀ μ,PR E gl 18 [.sl 1 1 [.ifc tv qv],.fx 4 1 [I kx,I nx,St sx,.sl 4 lx px]] μ (Bo true) μ) /\
   (∀ μ,PR E gl 18 [.sl 1 1 [.ifc tw qw],.fx 4 1 [I ky,I ny,St sy,.sl 4 ly py]] μ (Bo true) μ) /\
   (∀ μ,PR E gl 18 [.sl 1 1 [.ifc tr qr],.fx 4 1 [I kz,I nz,St sz,.sl 4 lz pz']] μ (Bo true) μ) /\
   oO E gl n m k (.ifc tr qr) (.ifc tv qv) (.ifc tw qw)) :
  PR E gl 5 [.agg [I ka,I na,St sa,.sl 4 la pa],.agg [I kb,I nb,St sb,.sl 4 lb pb],I n] [] (Bo true) []:=by
 have h10:=H.awake
 have h5:=H.h5
 have hE:=H.hE
 clear H
 refine fnZ hE (cfg:=c0) (fuel:=fuel) h5 (by kernel_rfl) ?_
 unfold t5
 have hw:aV .i64 (m+k)=m+k:=bM (by omega) (by omega)
 repeat (first | refine aA ?_ | refine jL rfl (by assumption) (by assumption) ?_ | refine jL rfl rfl (by assumption) ?_ | refine bN rfl (by assumption) ?_ | refine aM (dt (sz:=1) (tz:=1) rfl rfl (by decide) rfl rfl (by decide)) (by apply_assumption) (Nat.le_refl _) ?_ | dsimp only [List.map,List.take,List.drop,fz])
 rcases hq with rfl | ⟨hq,d5,d6,d7,e1,e2,e3,hN⟩
 ·refine cX rfl ?_
  exact aG 0 rfl (Nat.zero_le _) rfl rfl ⟨rfl,rfl⟩
 refine aP rfl (fun h=>absurd (eq_of_beq h) hq) (fun _=>?_)
 clear d1 d2 d3 d4 h19a h19b h20a h20b oa ob ov ow
 repeat (first | refine aA ?_ | refine aM (Jp (sz:=4) rfl rfl (by decide)) (by apply_assumption) (Nat.le_refl _) ?_ | refine aM (HJ (sz:=4) rfl rfl rfl (by decide)) (by apply_assumption) (Nat.le_refl _) ?_ | refine aM (dt (sz:=1) (tz:=1) rfl rfl (by decide) rfl rfl (by decide)) (by apply_assumption) (Nat.le_refl _) ?_ | dsimp only [List.map,List.take,List.drop,fz])
 clear d5 d6 d7 e1 e2 e3 h20r
 rcases hN with ⟨g1,g2⟩ | ⟨g1,g2,g3⟩ | ⟨g1,g2,g3,t,q,l,g4,g5,g6,g7⟩
 ·repeat (first | refine aA ?_ | refine aM (dt (sz:=1) (tz:=1) rfl rfl (by decide) rfl rfl (by decide)) (by apply_assumption) (Nat.le_refl _) ?_ | dsimp only [List.map,List.take,List.drop,fz])
  exact aG 0 rfl (Nat.zero_le _) rfl rfl ⟨rfl,rfl⟩
 ·repeat (first | refine aA ?_ | refine aM (dt (sz:=1) (tz:=1) rfl rfl (by decide) rfl rfl (by decide)) (by apply_assumption) (Nat.le_refl _) ?_ | dsimp only [List.map,List.take,List.drop,fz])
  rcases g2 with g2 | g2
  ·repeat (first | refine aA ?_ | refine aM (dt (sz:=1) (tz:=1) rfl rfl (by decide) rfl rfl (by decide)) (by apply_assumption) (Nat.le_refl _) ?_ | dsimp only [List.map,List.take,List.drop,fz])
   exact aG 0 rfl (Nat.zero_le _) rfl rfl ⟨rfl,rfl⟩
  ·by_cases h:n < 0
   ·repeat (first | refine aA ?_ | refine aM (dt (sz:=1) (tz:=1) rfl rfl (by decide) rfl rfl (by decide)) (by apply_assumption) (Nat.le_refl _) ?_ | dsimp only [List.map,List.take,List.drop,fz])
    exact aG 0 rfl (Nat.zero_le _) rfl rfl ⟨rfl,rfl⟩
   ·repeat (first | refine aA ?_ | refine aM (dt (sz:=1) (tz:=1) rfl rfl (by decide) rfl rfl (by decide)) (by apply_assumption) (Nat.le_refl _) ?_ | dsimp only [List.map,List.take,List.drop,fz])
    exact aG 0 rfl (Nat.zero_le _) rfl rfl ⟨rfl,rfl⟩
 ·have hs:aV .i64 (n - m)=n - m:=bM (by omega) (by omega)
  rcases g7 with ⟨g7,g8⟩ | ⟨g7,g8,g9⟩
  ·repeat (first | refine aA ?_ | refine aM (dt (sz:=1) (tz:=1) rfl rfl (by decide) rfl rfl (by decide)) (by apply_assumption) (Nat.le_refl _) ?_ | dsimp only [List.map,List.take,List.drop,fz])
   exact aG 0 rfl (Nat.zero_le _) rfl rfl ⟨rfl,rfl⟩
  ·repeat (first | refine aA ?_ | refine aM (dt (sz:=1) (tz:=1) rfl rfl (by decide) rfl rfl (by decide)) (by apply_assumption) (Nat.le_refl _) ?_ | dsimp only [List.map,List.take,List.drop,fz])
   exact aG 0 rfl (Nat.zero_le _) rfl rfl ⟨rfl,rfl⟩
theorem Js {ka na kb nb n m k:Int} {sa sb:ByteArray} {la lb:Nat} {pa pb:List P} {pv pw pr:P} {X Y Z:V}
  (hm0:0<=m) (hm1:m<=1048576) (hk0:0<=k) (hk1:k<=1048576)
  (iv:∃ t q,pv=.ifc t q/\shal 40 (.ifc t q)=true) (iw:∃ t q,pw=.ifc t q/\shal 40 (.ifc t q)=true) (ir:∃ t q,pr=.ifc t q/\shal 40 (.ifc t q)=true)
  (oa:okm.okL 0 [.agg [I ka,I na,St sa,.sl 4 la pa]]=true) (ob:okm.okL 0 [.agg [I kb,I nb,St sb,.sl 4 lb pb]]=true) (ov:okm.okL 0 [pv]=true) (ow:okm.okL 0 [pw]=true)
  (h19a:PR E gl 19 [.agg [I ka,I na,St sa,.sl 4 la pa]] [] pv []) (h19b:PR E gl 19 [.agg [I kb,I nb,St sb,.sl 4 lb pb]] [] pw [])
  (h20a:PR E gl 20 [pv] [] (.agg X.p) []) (h20b:PR E gl 20 [pw] [] (.agg Y.p) []) (h20r:∀ μ,PR E gl 20 [pr] μ (.agg Z.p) μ)
  (h20i:∀ (i:Int) (μ:Mu),PR E gl 20 [.ifc af (.agg [I i])] μ (.agg [I 1,I i,St ⟨#[]⟩,.sl 4 0 []]) μ)
  (d1:∀ μ,PR E gl 17 [.fx 1 2 [pv,pw],.fx 1 1 [.c (bs ae)]] μ (.tup [.sl 1 1 [pr],I 0]) μ)
  (d2:∀ μ,PR E gl 17 [.fx 1 1 [pv],.fx 1 1 [.c (bs ba)]] μ (.tup [.sl 1 1 [.ifc af (.agg [I m])],I 0]) μ)
  (d3:∀ μ,PR E gl 17 [.fx 1 1 [pw],.fx 1 1 [.c (bs ba)]] μ (.tup [.sl 1 1 [.ifc af (.agg [I k])],I 0]) μ)
  (d4:∀ μ,PR E gl 17 [.sl 1 1 [pr],.fx 1 1 [.c (bs ba)]] μ (.tup [.sl 1 1 [.ifc af (.agg [I (m+k)])],I 0]) μ)
  (hq:X.k=5\/X.k≠5/\(∀ μ,PR E gl 17 [.fx 1 3 [.ifc af (.agg [I 0]),.ifc af (.agg [I m]),pr],.fx 1 1 [.c (bs cM)]] μ (.tup [.sl 1 1 [pv],I 0]) μ) /\
   (∀ μ,PR E gl 17 [.fx 1 3 [.ifc af (.agg [I m]),.ifc af (.agg [I (m+k)]),pr],.fx 1 1 [.c (bs cM)]] μ (.tup [.sl 1 1 [pw],I 0]) μ) /\
   (∀ μ,PR E gl 17 [.sl 1 1 [pr],.fx 1 2 [.c (bs cL),.c (bs cL)]] μ (.tup [.sl 1 1 [pr],I 0]) μ) /\
   (∀ μ,PR E gl 18 [.sl 1 1 [pv],.fx 4 1 X.p] μ (Bo true) μ)/\(∀ μ,PR E gl 18 [.sl 1 1 [pw],.fx 4 1 Y.p] μ (Bo true) μ)/\(∀ μ,PR E gl 18 [.sl 1 1 [pr],.fx 4 1 Z.p] μ (Bo true) μ) /\
   oO E gl n m k pr pv pw) :
  PR E gl 5 [.agg [I ka,I na,St sa,.sl 4 la pa],.agg [I kb,I nb,St sb,.sl 4 lb pb],I n] [] (Bo true) []:=by
 obtain ⟨tv,qv,rfl,zv⟩:=iv
 obtain ⟨tw,qw,rfl,zw⟩:=iw
 obtain ⟨tr,qr,rfl,_⟩:=ir
 obtain ⟨kx,nx,sx,lx⟩:=X
 obtain ⟨ky,ny,sy,ly⟩:=Y
 obtain ⟨kz,nz,sz,lz⟩:=Z
 exact Jr H hm0 hm1 hk0 hk1 zv zw oa ob ov ow h19a h19b h20a h20b h20r h20i d1 d2 d3 d4 hq
end
end Go.AM.PV
namespace Go.AM.PV
open Go Go.AM Go.AM.SX
mutual
theorem uX {n:Nat}:∀ v:Val,v.small n->v.tree.small n
 | .nil,_=>by simp only [Val.tree,V.small,V.smalls,List.length_nil];exact ⟨Nat.zero_le _,trivial,Nat.zero_le _⟩
 | .int _,_=>by simp only [Val.tree,V.small,V.smalls,List.length_nil];exact ⟨Nat.zero_le _,trivial,Nat.zero_le _⟩
 | .str s,h=>by simp only [Val.small] at h;simp only [Val.tree,V.small,V.smalls,List.length_nil];exact ⟨Nat.zero_le _,trivial,h⟩
 | .bool _,_=>by simp only [Val.tree,V.small,V.smalls,List.length_nil];exact ⟨Nat.zero_le _,trivial,Nat.zero_le _⟩
 | .box _,_=>by simp only [Val.tree,V.small,V.smalls,List.length_nil];exact ⟨Nat.zero_le _,trivial,Nat.zero_le _⟩
 | .list l,h=>by simp only [Val.small] at h;simp only [Val.tree,V.small];exact ⟨by rw [Val.trees_map,List.length_map];exact h.1,lN l h.2,Nat.zero_le _⟩
 | .quot l,h=>by simp only [Val.small] at h;simp only [Val.tree,V.small];exact ⟨by rw [Itm.trees_map,List.length_map];exact h.1,uY l h.2,Nat.zero_le _⟩
theorem lN {n:Nat}:∀ l:List Val,Val.smalls n l->V.smalls n (Val.trees l)
 | [],_=>by simp only [Val.trees,V.smalls]
 | v::l,h=>by simp only [Val.smalls] at h;simp only [Val.trees,V.smalls];exact ⟨uX v h.1,lN l h.2⟩
theorem Jt {n:Nat}:∀ v:Itm,v.small n->v.tree.small n
 | .nil,_=>by simp only [Itm.tree,V.small,V.smalls,List.length_nil];exact ⟨Nat.zero_le _,trivial,Nat.zero_le _⟩
 | .push v,h=>by simp only [Itm.small] at h;simp only [Itm.tree];exact uX v h
 | .call s,h=>by simp only [Itm.small] at h;simp only [Itm.tree,V.small,V.smalls,List.length_nil];exact ⟨Nat.zero_le _,trivial,h⟩
theorem uY {n:Nat}:∀ l:List Itm,Itm.smalls n l->V.smalls n (Itm.trees l)
 | [],_=>by simp only [Itm.trees,V.smalls]
 | v::l,h=>by simp only [Itm.smalls] at h;simp only [Itm.trees,V.smalls];exact ⟨Jt v h.1,uY l h.2⟩
end
attribute [local irreducible] pz aQ
variable {E:Env} {gl:List GRow} {inf:Nat->TypeInfo} {c0 c1 c2 c3:Cfg} {fuel:Nat}
theorem PR.all {f:FuncId} {ps:List P} {r:P} (h:PR E gl f ps [] r []) (hk:okm.okL 0 ps=true):∀ μ,PR E gl f ps μ r μ:=fun μ=>h.frame hk μ
theorem okd (l:List Val) (n:Nat) (q:P) (hq:okm.okL 0 [q]=true):okm.okL 0 [.fx 1 n (Val.ps l),q]=true:=by
 have hq:(okm 0 q&&okm.okL 0 [])=true:=hq
 show (okm 0 (.fx 1 n (Val.ps l))&&(okm 0 q&&okm.okL 0 []))=true
 rw [hq,Bool.and_true]
 simp only [okm,bu]
theorem uZ (l:List Val) (n:Nat) (q:P) (hq:okm.okL 0 [q]=true):okm.okL 0 [.sl 1 n (Val.ps l),q]=true:=by
 have hq:(okm 0 q&&okm.okL 0 [])=true:=hq
 show (okm 0 (.sl 1 n (Val.ps l))&&(okm 0 q&&okm.okL 0 []))=true
 rw [hq,Bool.and_true]
 simp only [okm,bu]
theorem okv (v:Val):okm.okL 0 [v.p]=true:=by simp only [okm.okL,cJ,Bool.and_self]
theorem u0 (v:Val):(∃ t q,v.p=.ifc t q/\shal 40 (.ifc t q)=true)\/v.p=.c .nilIface:=by
 cases v with
 | nil=>exact .inr rfl
 | _=>exact .inl ⟨_,_,rfl,rfl⟩
section
variable (H:Lsts E gl inf c0 c1 c2 c3 fuel) (W:∀ w,w∈dU->PR E gl 25 [.c (bs w.1)] [] (.c (.tuple #[bs w.2,.bool true])) [])
include H
theorem eP {w1:List UInt8} {n m:Nat} {l1 l2:List P} (h1:PR E gl 13 [.c (bs w1),.sl 1 n l1] [] (.tup [.sl 1 m l2,I 0]) []):PR E gl 17 [.sl 1 n l1,.fx 1 1 [.c (bs w1)]] [] (.tup [.sl 1 m l2,I 0]) []:=by
 refine fnZ H.hE (cfg:=c0) (fuel:=fuel) H.h17 (by kernel_rfl) ?_
 unfold t17
 repeat (first | refine ai ?_ | refine aA ?_)
 exact ⟨rfl,rfl⟩
theorem Ju {w1 w2:List UInt8} {n m k:Nat} {l1 l2 l3:List P} (h1:PR E gl 13 [.c (bs w1),.sl 1 n l1] [] (.tup [.sl 1 m l2,I 0]) []) (h2:PR E gl 13 [.c (bs w2),.sl 1 m l2] [] (.tup [.sl 1 k l3,I 0]) []):PR E gl 17 [.sl 1 n l1,.fx 1 2 [.c (bs w1),.c (bs w2)]] [] (.tup [.sl 1 k l3,I 0]) []:=by
 refine fnZ H.hE (cfg:=c0) (fuel:=fuel) H.h17 (by kernel_rfl) ?_
 unfold t17
 repeat (first | refine ai ?_ | refine aA ?_)
 exact ⟨rfl,rfl⟩
theorem lO {w1:List UInt8} {n:Nat} {l1:List P} {e:Int} (he:e≠0) (h1:PR E gl 13 [.c (bs w1),.sl 1 n l1] [] (.tup [.c (.slice none 0 0),I e]) []):PR E gl 17 [.sl 1 n l1,.fx 1 1 [.c (bs w1)]] [] (.tup [.c (.slice none 0 0),I e]) []:=by
 refine fnZ H.hE (cfg:=c0) (fuel:=fuel) H.h17 (by kernel_rfl) ?_
 unfold t17
 repeat (first | refine ai ?_ | refine aA ?_)
 exact ⟨rfl,rfl⟩
theorem gE {n:Nat} {l:List P} {q r:P} (h:PR E gl 17 [.sl 1 n l,q] [] r []):PR E gl 17 [.fx 1 n l,q] [] r []:=have _:=H;h.pre (.cons _ _ _ _ (.fxsl _ _ _) (.cons _ _ _ _ (.refl _) .nil))
theorem oP {v:Val} (hs:v.small 1048576):PR E gl 18 [.sl 1 1 [v.p],.fx 4 1 v.tree.p] [] (Bo true) []:=by
 have h1:PR E gl 11 [.sl 1 1 (Val.ps [v])] [] (.ow tV 4 1 (V.ps (Val.trees [v]))) []:=s6 (gl:=gl) H.hE H.conv (l:=[v]) (show 1<=1048576 by decide) ⟨hs,trivial⟩
 have h2:PR E gl 15 [.sl 4 1 (V.ps (Val.trees [v])),.sl 4 1 (V.ps (Val.trees [v]))] [] (Bo true) []:=tp H.toCln (l:=Val.trees [v]) (show 1<=1048576 by decide) (lN [v] ⟨hs,trivial⟩)
 have h3:PR E gl 18 [.sl 1 1 (Val.ps [v]),.sl 4 1 (V.ps (Val.trees [v]))] [] (Bo true) []:=by
  refine fnZ H.hE (cfg:=c0) (fuel:=fuel) H.h18 (by kernel_rfl) ?_
  unfold t18
  repeat (first | refine ai ?_ | refine aA ?_)
  exact ⟨rfl,rfl⟩
 have h4:=h3.pre (ps:=[.sl 1 1 (Val.ps [v]),.fx 4 1 (V.ps (Val.trees [v]))]) (.cons _ _ _ _ (.refl _) (.cons _ _ _ _ (.fxsl _ _ _) .nil))
 have e:V.ps (Val.trees [v])=v.tree.p:=List.append_nil _
 rw [e] at h4
 exact h4
theorem Jv {v w r:Val} (cv:v.chk vsR nmR=0) (cw:w.chk vsR nmR=0) (sv:v.small 1048576) (sw:w.small 1048576) (hr:v.app w=some r):PR E gl 79 [v.p,w.p] [] (.tup [r.p,I 0]) []/\r.small 1048576:=by
 cases v <;> cases w <;> first
  | (simp only [Val.app] at hr;cases hr;done)
  | skip
 ·simp only [Val.app,Option.some.injEq] at hr
  subst hr
  rw [lM] at cv cw
  refine ⟨Iz H.hE H.h79 (by omega) (by omega),?_⟩
  simp only [Val.small]
  rw [Lib.size_eq,uW,List.length_append,<- Lib.size_eq,<- Lib.size_eq]
  omega
 ·simp only [Val.app,Option.some.injEq] at hr
  subst hr
  have h1:=oG cv
  have h2:=oG cw
  simp only [Val.small] at sv sw
  refine ⟨JA H.toWds H.h79 (by omega) (by omega),?_⟩
  simp only [Val.small]
  exact ⟨by rw [List.length_append];omega,lF sv.2 sw.2⟩
 ·simp only [Val.app,Option.some.injEq] at hr
  subst hr
  have h1:=oH cv
  have h2:=oH cw
  simp only [Val.small] at sv sw
  refine ⟨JC H.toWds H.h79 H.h82 H.k1 H.k2 (by omega) (by omega),?_⟩
  simp only [Val.small]
  refine ⟨by rw [List.length_append];omega,?_⟩
  have ia:∀ {l k:List Itm},Itm.smalls 1048576 l->Itm.smalls 1048576 k->Itm.smalls 1048576 (l++k):=by
   intro l
   induction l with
   | nil=>intro k _ h;exact h
   | cons x l ih=>intro k h h';simp only [Itm.smalls] at h;simp only [List.cons_append,Itm.smalls];exact ⟨h.1,ih h.2 h'⟩
  exact ia sv.2 sw.2
include W
theorem Jw {v w r:Val} (O:LstOut E gl v w r) (cv:v.chk vsR nmR=0) (cw:w.chk vsR nmR=0) (cr:r.chk vsR nmR=0) (sv:v.small 1048576) (sw:w.small 1048576) (sr:r.small 1048576) (n:Int):oO E gl n v.plen w.plen r.p v.p w.p:=by
 have hin:=HI (gl:=gl) H.hE H.h21 n
 have hlen:=O.len
 have hle:=O.le
 have fin:∀ {u:Val} {i:Int} {q:P},PR E gl 17 [.sl 1 2 (Val.ps [.int i,u]),.fx 1 1 [.c (bs a8)]] [] q []->∀ μ,PR E gl 17 [.fx 1 2 [.ifc af (.agg [I i]),u.p],.fx 1 1 [.c (bs a8)]] μ q μ:=fun h=>(gE H h).all (okd _ 2 _ rfl)
 by_cases hn:-1152921504606846976<=n/\n<=1152921504606846975
 ·rw [decide_eq_true (show n>=-1152921504606846976 from hn.1),decide_eq_true hn.2] at hin
  by_cases hr:0<=n/\n < r.plen
  ·obtain ⟨i,rfl⟩:∃ i:Nat,n=i:=⟨n.toNat,by omega⟩
   obtain ⟨x,sx,cx,x1,x2,x3⟩:=O.nth i (by omega)
   obtain ⟨t,q,e,z⟩:=bF cx
   have t1:PR E gl 11 [.sl 1 1 (Val.ps [x])] [] (.ow tV 4 1 (V.ps (Val.trees [x]))) []:=s6 (gl:=gl) H.hE H.conv (l:=[x]) (show 1<=1048576 by decide) ⟨sx,trivial⟩
   have t2:PR E gl 15 [.sl 4 1 (V.ps (Val.trees [x])),.sl 4 1 (V.ps (Val.trees [x]))] [] (Bo true) []:=tp H.toCln (l:=Val.trees [x]) (show 1<=1048576 by decide) (lN [x] ⟨sx,trivial⟩)
   have k1:=t1.all (by simp only [okm.okL,okm,bu,Bool.and_self])
   have k2:=t2.all (by simp only [okm.okL,okm,fo,Bool.and_self])
   have y1:=fin (eP H (oJ H.toLst W hn.1 hn.2 sr cr O.e.2.2 sx cx x1))
   have hx:Val.ps [x]=[.ifc t q]:=by rw [<- e];rfl
   rw [hx] at k1 y1
   refine .inr (.inr ⟨hin.all rfl,hr.1,by omega,t,q,_,y1,k1,k2,?_⟩)
   by_cases hv:i < v.plen
   ·have y2:=fin (eP H (oJ H.toLst W hn.1 hn.2 sv cv O.e.1 sx cx (x2 hv)))
    rw [hx] at y2
    exact .inl ⟨by omega,y2⟩
   ·have y2:=fin (eP H (oJ H.toLst W (by omega) (by omega) sw cw O.e.2.1 sx cx (x3 (by omega))))
    rw [hx,show ((i - v.plen:Nat):Int)=(i:Int) - v.plen by omega] at y2
    exact .inr ⟨by omega,fin (lO H (by decide) (uV H.toLst W hn.1 hn.2 sv cv O.e.1 (by omega))),y2⟩
  ·exact .inr (.inl ⟨hin.all rfl,by omega,fin (lO H (by decide) (uV H.toLst W hn.1 hn.2 sr cr O.e.2.2 (by omega)))⟩)
 ·have hb:(decide (n>=-1152921504606846976)&&decide (n<=1152921504606846975))=false:=by
   rw [Bool.and_eq_false_iff]
   by_cases h:n>=-1152921504606846976
   ·exact .inr (decide_eq_false fun e=>hn ⟨h,e⟩)
   ·exact .inl (decide_eq_false h)
  rw [hb] at hin
  have hc:¬ (Val.int n).chk vsR nmR=0:=by
   unfold Val.chk
   simp only [Val.meas,gate]
   rw [hb]
   decide
  exact .inl ⟨hin.all rfl,fin (lO H (by decide) (uB H.toCln a8 (l:=[.int n,r]) (show 2<=1048576 by decide) ⟨trivial,sr,trivial⟩ fun h=>hc (h _ (by simp))))⟩
theorem Jx {va vb:V} (n:Int) (h:va.sz+vb.sz<=1048576):PR E gl 5 [.agg va.p,.agg vb.p,I n] [] (Bo true) []:=by
 have sv:va.val.small 1048576:=lC va (by omega)
 have sw:vb.val.small 1048576:=lC vb (by omega)
 have h19a:=nP (gl:=gl) H.hE H.conv va (V.small_of va (by omega))
 have h19b:=nP (gl:=gl) H.hE H.conv vb (V.small_of vb (by omega))
 have oa:okm.okL 0 [.agg va.p]=true:=by simp only [okm.okL,okm,eI,Bool.and_self]
 have ob:okm.okL 0 [.agg vb.p]=true:=by simp only [okm.okL,okm,eI,Bool.and_self]
 generalize va.val=v at *
 generalize vb.val=w at *
 have h20a:=gv (gl:=gl) H.hE H.conv v sv
 have h20b:=gv (gl:=gl) H.hE H.conv w sw
 obtain ⟨ka,na,sa,ra⟩:=va
 obtain ⟨kb,nb,sb,rb⟩:=vb
 have bad:∀ {e:Int},e≠0->PR E gl 13 [.c (bs ae),.sl 1 2 (Val.ps [v,w])] [] (.tup [.c (.slice none 0 0),I e]) []->PR E gl 5 [.agg [I ka,I na,St sa,.sl 4 ra.length (V.ps ra)],.agg [I kb,I nb,St sb,.sl 4 rb.length (V.ps rb)],I n] [] (Bo true) []:=by
  intro e he hd
  have hd:=gE H (lO H he hd)
  have od:okm.okL 0 [.fx 1 2 [v.p,w.p],.fx 1 1 [.c (bs ae)]]=true:=okd [v,w] 2 _ rfl
  have k1:=h20a
  have k2:=h20b
  generalize v.tree=X at k1
  generalize w.tree=Y at k2
  obtain ⟨kx,nx,sx,lx⟩:=X
  obtain ⟨ky,ny,sy,ly⟩:=Y
  exact Jq H he (u0 v) (u0 w) oa ob (okv v) (okv w) od h19a h19b k1 k2 hd
 by_cases hc:v.chk vsR nmR=0/\w.chk vsR nmR=0
 rotate_left
 ·exact bad (by decide) (uB H.toCln ae (l:=[v,w]) (show 2<=1048576 by decide) ⟨sv,sw,trivial⟩ fun h=>hc ⟨h v (by simp),h w (by simp)⟩)
 obtain ⟨cv,cw⟩:=hc
 cases hr:v.app w with
 | none=>exact bad (by decide) (Jk H.toLst W sv cv sw cw hr)
 | some r =>
  obtain ⟨h79,sr⟩:=Jv H cv cw sv sw hr
  by_cases cr:r.chk vsR nmR=0
  rotate_left
  ·exact bad (by decide) (Jj H.toLst W sv cv sw cw hr sr cr h79)
  have hA:v.isA=true/\w.isA=true/\r.isA=true/\r.plen=v.plen+w.plen/\r.plen<=1048576/\(v.tree.k=5\/v.tree.k≠5/\LstOut E gl v w r):=by
   cases v <;> cases w <;> first
    | (simp only [Val.app] at hr;cases hr;done)
    | skip
   ·simp only [Val.app,Option.some.injEq] at hr
    subst hr
    have O:=Jn (gl:=gl) H.toLst cv cw cr
    exact ⟨rfl,rfl,rfl,O.len,O.le,.inr ⟨by simp [Val.tree,V.k],O⟩⟩
   ·simp only [Val.app,Option.some.injEq] at hr
    subst hr
    have O:=Jo (gl:=gl) H.toLst cr sv sw
    exact ⟨rfl,rfl,rfl,O.len,O.le,.inr ⟨by simp [Val.tree,V.k],O⟩⟩
   ·simp only [Val.app,Option.some.injEq] at hr
    subst hr
    have hq:=oH cr
    refine ⟨rfl,rfl,rfl,List.length_append,?_,.inl rfl⟩
    simp only [Val.plen]
    omega
  obtain ⟨a1,a2,a3,a4,a5,a6⟩:=hA
  have h20r:=(gv (gl:=gl) H.hE H.conv r sr).all (okv r)
  have h20i:∀ (i:Int) (μ:Mu),PR E gl 20 [.ifc af (.agg [I i])] μ (.agg [I 1,I i,St ⟨#[]⟩,.sl 4 0 []]) μ:=fun i=>(gv (gl:=gl) H.hE H.conv (.int i) trivial).all (okv (.int i))
  have d1:=(gE H (eP H (Ji H.toLst W sv cv sw cw hr sr cr h79))).all (okd [v,w] 2 _ rfl)
  have d2:=(gE H (eP H (oI H.toLst W sv cv a1 (by omega)))).all (okd [v] 1 _ rfl)
  have d3:=(gE H (eP H (oI H.toLst W sw cw a2 (by omega)))).all (okd [w] 1 _ rfl)
  have d4:=(eP H (oI H.toLst W sr cr a3 a5)).all (uZ [r] 1 _ rfl)
  rw [a4] at d4
  have hs:((v.plen+w.plen:Nat):Int)=(v.plen:Int)+w.plen:=by omega
  rw [hs] at d4
  refine Js H (X:=v.tree) (Y:=w.tree) (Z:=r.tree) (m:=v.plen) (k:=w.plen) (by omega) (by omega) (by omega) (by omega) (bF cv) (bF cw) (bF cr) oa ob (okv v) (okv w) h19a h19b h20a h20b h20r h20i d1 d2 d3 d4 ?_
  rcases a6 with a6 | ⟨a6,O⟩
  ·exact .inl a6
  have d5:=(gE H (eP H (uU H.toLst W (a:=0) (b:=v.plen) (by omega) (by omega) sr cr O.e.2.2 sv cv O.front))).all (okd [.int (0:Nat),.int v.plen,r] 3 _ rfl)
  have d6:=(gE H (eP H (uU H.toLst W (a:=v.plen) (b:=r.plen) (by omega) (by omega) sr cr O.e.2.2 sw cw O.back))).all (okd [.int v.plen,.int r.plen,r] 3 _ rfl)
  rw [a4,hs] at d6
  obtain ⟨u,su,cu,eu,u1,u2⟩:=O.rev
  have d7:=(Ju H (uT H.toLst W sr cr O.e.2.2 su cu u1) (uT H.toLst W su cu eu sr cr u2)).all (uZ [r] 1 _ rfl)
  exact .inr ⟨a6,d5,d6,d7,(oP H sv).all (by simp only [okm.okL,okm,eI,cJ,Bool.and_self]),(oP H sw).all (by simp only [okm.okL,okm,eI,cJ,Bool.and_self]),(oP H sr).all (by simp only [okm.okL,okm,eI,cJ,Bool.and_self]),Jw H W O cv cw cr sv sw sr n⟩
end
end Go.AM.PV
namespace Go.AM.PV
open Go Go.AM Go.AM.SX Go.Proofs
set_option maxRecDepth 1000000
set_option maxHeartbeats 0
def cf3:Cfg:={ inl:=[117],unr:=[] }
theorem Jy:aC E1 cf0 2000 5 3=some t5:=by kernel_rfl
theorem Jz:aC E1 cf0 2000 17 2=some t17:=by kernel_rfl
theorem KA:aC E1 cf0 2000 44 2=some t44:=by kernel_rfl
theorem KB:aC E1 cf0 2000 45 2=some t45:=by kernel_rfl
theorem KC:aC E1 cf0 2000 47 1=some (t47 bD):=by kernel_rfl
theorem KD:aC E1 cf0 2000 73 2=some t73:=by kernel_rfl
theorem KE:aC E1 cf0 2000 75 1=some t75:=by kernel_rfl
theorem KF:aC E1 cf0 2000 78 1=some t78:=by kernel_rfl
theorem KG:aC E1 cf0 2000 79 2=some t79:=by kernel_rfl
theorem KH:aC E1 cf0 2000 80 3=some t80:=by kernel_rfl
theorem KI:aC E1 cf0 2000 81 1=some t81:=by kernel_rfl
theorem KJ:aC E1 cf3 2000 82 1=some (t82 bD):=by kernel_rfl
theorem KK:aC E1 cf0 2000 111 1=some t111:=by kernel_rfl
theorem KL:aC E1 cf0 2000 113 1=some t113:=by kernel_rfl
theorem KM:aC E1 cf0 2000 114 1=some t114:=by kernel_rfl
theorem KN:aC E1 cf0 2000 115 1=some (t115 bD):=by kernel_rfl
theorem KP:aC E1 cf0 2000 116 1=some t114:=by kernel_rfl
theorem KQ:aC E1 cf0 2000 140 2=some t140:=by kernel_rfl
theorem KR:aC E1 cf0 2000 158 4=some t158:=by kernel_rfl
theorem KS:aC E1 cf0 2000 169 2=some t169:=by kernel_rfl
theorem KT:JoinE E1 where
 kn:=fun vs=>by
  unfold knw
  rw [lD (by kernel_rfl)]
  rfl
 xj:=rfl
 xr:=rfl
theorem KU (w:List UInt8×List UInt8) (h:knw E1 25 [bs w.1]=some (eR w)):PR E1 glK 25 [.c (bs w.1)] [] (.c (.tuple #[bs w.2,.bool true])) [] :=
 PR.known (k:=eR w) h (fun r hr=>by
  simp only [eR,List.mem_cons,List.not_mem_nil,or_false] at hr
  subst hr
  exact ⟨by simp [glK],by show 0 < 3;omega⟩) rfl []
theorem KV:Lsts E1 glK bD cf0 cf1 cf2 cf3 2000 :=
 { IV with
   h47:=KC,h44:=KA,h45:=KB,h73:=KD,h17:=Jz,join:=KT,h75:=KE,h78:=KF,h79:=KG,h80:=KH,h81:=KI,h82:=KJ,h111:=KK,h113:=KL,h114:=KM,h115:=KN,h116:=KP,
   h140:=KQ,h158:=KR,h169:=KS,k1:=tY,k2:=tZ,h5:=Jy }
theorem KW (va vb:V) (n:Int) (h:va.sz+vb.sz<=1048576):PR E1 glK 5 [.agg va.p,.agg vb.p,I n] [] (Bo true) [] :=
 Jx KV (fun w hw=>by
  simp only [dU,List.mem_cons,List.not_mem_nil,or_false] at hw
  rcases hw with rfl | rfl | rfl | rfl | rfl <;> exact KU _ rfl) n h
end Go.AM.PV
namespace Go.Proofs.YtilbjefgojocaaaGreatDoor
open Go Go.ChangeMaps Go.ChangeShapes Go.WideShapes Go.ChangeAt Go.RowKit Go.AM Go.AM.SX Go.AM.PV
set_option maxRecDepth 1000000
theorem KY (H:Type) (enc:TypeId×Value->H) (W:World) (base:Nat) (args:Array Value) (ds gs:List (DataW H)) (before:List MemPlace)
  (hval0:∀ (j:Nat) t v,Tryz.f5.params[j]? = some t->args[j]? = some v->Value.okWide Tryz.prog W .any base t v)
  (hW:DataW.Whole enc Tryz.prog Tryz.f5.params.toList Rows.primListsSpec.vars false W args.toList ds gs before) (hk:Rows.uptoSmall H (ds++gs)=true) (hL:laidMetH Tryz.prog laidB W) :
  Calls Tryz.prog 5 args W fun e W'=>∃ v,e=.returned v/\Rows.primListsSpec.post enc Tryz.prog Tryz.f5 false true false false W args v W':=by
 have hval:=hval0
 have hW':=hW
 obtain ⟨p,q,hA0,hV,rfl,_,_⟩:=hW
 have hA:DataW.TrodAll enc Tryz.prog W 0 (fun _=>true) true Tryz.f5.params.toList args.toList ds p:=hA0
 obtain ⟨rfl,rfl⟩:=trodVars_none hV
 simp only [List.append_nil] at hW' hk
 have hlt:∀ x,x∈p->x.block < W.heap.size:=fun x hx=>hW'.lt x hx
 have hag:∀ W':World,W.keptBut W' (fun _=>False)->DataW.TrodAll enc Tryz.prog W' 0 (fun b=>decide (b < W.heap.size)) true Tryz.f5.params.toList args.toList ds p:=fun W' hg =>
  Dl Ib Ic Ie (by kernel_rfl) hA hlt hg
 have hb:Rows.uptoBulkAll ds<=1048576:=of_decide_eq_true hk
 have hA1:=hA
 rw [Tryz.params5] at hA1 hval
 have hcalls:Calls Tryz.prog 5 args W fun e w'=>e=.returned (.bool true)/\W.keptBut w' (fun _=>False):=by
  refine Dk (ok1 ByteArray.empty) (f:=5) (gl:=glK) (ts:=tsV) (tl:=[35,35,2]) rfl IY (Nat.le_refl 3) (by decide) I0 I1 I2 (Ia hL) (by decide) hA1 (fun j t v h1 h2=>hval j t v (by simpa using h1) (by simpa using h2)) ?_
  intro ps h
  clear hag hlt hA hA0 hA1 hval hval0 hW' hk hV hL
  obtain ⟨d1,_,p1,_,rfl,rfl,h1,h⟩:=nZ h
  obtain ⟨d2,_,p2,_,rfl,rfl,h2,h⟩:=nZ h
  obtain ⟨d3,_,p3,_,rfl,rfl,h3,h⟩:=nZ h
  obtain ⟨rfl,rfl⟩:=Dq h
  obtain ⟨va,rfl,ha⟩:=th h1
  obtain ⟨vb,rfl,hb2⟩:=th h2
  obtain ⟨n,rfl⟩:=Ig h3
  simp only [Rows.uptoBulkAll] at hb
  exact ⟨_,KW va vb n (by omega)⟩
 have hds:∃ d0 d1 d2,ds=[d0,d1,d2]:=by
  clear hcalls hag hW' hk hb
  obtain ⟨v0,vs0,d0,ds0,p0,q0,hv0,rfl,rfl,h0,r0⟩:=trodAll_cons hA1
  obtain ⟨v1,vs1,d1,ds1,p1,q1,hv1,rfl,rfl,h1,r1⟩:=trodAll_cons r0
  obtain ⟨v2,vs2,d2,ds2,p2,q2,hv2,rfl,rfl,h2,r2⟩:=trodAll_cons r1
  obtain ⟨_,rfl,_⟩:=trodAll_nil r2
  exact ⟨d0,d1,d2,rfl⟩
 obtain ⟨d0,d1,d2,rfl⟩:=hds
 refine hcalls.mono fun e W' ⟨he,hg⟩=>?_
 subst he
 refine ⟨_,rfl,_,_,_,[],p,[],hW',?_,?_,?_,?_,fun h=>by cases h⟩
 ·exact trodAll_mk1 (shut_bool Tryz.underlying4 true)
 ·exact hag W' hg
 ·rfl
 ·exact World.keptBut_mono (fun _ h=>h.elim) hg
theorem KZ (os:Os) {H:Type} (enc:TypeId×Value->H):∃ places,DataW.whole enc Tryz.prog ((World.laidAll Tryz.prog os Rows.primListsUptoRow.laid).forCall (fun _ _=>0) ⟨#[],#[.agg #[.int .i64 0,.int .i64 0,.string .empty,.slice none 0 0],.agg #[.int .i64 0,.int .i64 0,.string .empty,.slice none 0 0],.int .i64 0],[]⟩).memory Tryz.f5.params.toList Rows.primListsSpec.vars false (#[.agg #[.int .i64 0,.int .i64 0,.string .empty,.slice none 0 0],.agg #[.int .i64 0,.int .i64 0,.string .empty,.slice none 0 0],.int .i64 0]:Array Value).toList 8=some ([.agg [.lit (.int .i64 0),.lit (.int .i64 0),.lit (.string []),.nil],.agg [.lit (.int .i64 0),.lit (.int .i64 0),.lit (.string []),.nil],.lit (.int .i64 0)],[],places) :=
 ⟨[],by kernel_rfl⟩
theorem K0 (os:Os):((World.laidAll Tryz.prog os Rows.primListsUptoRow.laid).forCall (fun _ _=>0) ⟨#[],#[.agg #[.int .i64 0,.int .i64 0,.string .empty,.slice none 0 0],.agg #[.int .i64 0,.int .i64 0,.string .empty,.slice none 0 0],.int .i64 0],[]⟩).Shaped Tryz.prog:=World.shaped_of_ZipB (by kernel_rfl) (by kernel_rfl)
theorem u3 (os:Os):Input.okWideB Tryz.prog ((World.laidAll Tryz.prog os Rows.primListsUptoRow.laid).forCall (fun _ _=>0) ⟨#[],#[.agg #[.int .i64 0,.int .i64 0,.string .empty,.slice none 0 0],.agg #[.int .i64 0,.int .i64 0,.string .empty,.slice none 0 0],.int .i64 0],[]⟩) 5 ⟨#[],#[.agg #[.int .i64 0,.int .i64 0,.string .empty,.slice none 0 0],.agg #[.int .i64 0,.int .i64 0,.string .empty,.slice none 0 0],.int .i64 0],[]⟩=true:=by kernel_rfl
theorem K2 (os:Os) {H:Type} (enc:TypeId×Value->H):Rows.primListsSpec.sizedB enc Tryz.prog Tryz.f5 false ((World.laidAll Tryz.prog os Rows.primListsUptoRow.laid).forCall (fun _ _=>0) ⟨#[],#[.agg #[.int .i64 0,.int .i64 0,.string .empty,.slice none 0 0],.agg #[.int .i64 0,.int .i64 0,.string .empty,.slice none 0 0],.int .i64 0],[]⟩).memory #[.agg #[.int .i64 0,.int .i64 0,.string .empty,.slice none 0 0],.agg #[.int .i64 0,.int .i64 0,.string .empty,.slice none 0 0],.int .i64 0] 8=true:=by kernel_rfl
theorem K3 (os:Os):laidMetH Tryz.prog Rows.primListsUptoRow.laid ((World.laidAll Tryz.prog os Rows.primListsUptoRow.laid).forCall (fun _ _=>0) ⟨#[],#[.agg #[.int .i64 0,.int .i64 0,.string .empty,.slice none 0 0],.agg #[.int .i64 0,.int .i64 0,.string .empty,.slice none 0 0],.int .i64 0],[]⟩).memory:=by
 rw [MakeChecks.laidMetH_plain _ _ _ (by kernel_rfl)]
 exact laidMet_laidAll _ (by kernel_rfl) (by kernel_rfl)
theorem K4 (os:Os) (started:os.Started) (H:Type) (enc:TypeId×Value->H) (F:Stop.Interp) :
  ReturnsInHanded {} Tryz.checked os 5 .any ((Rows.OpenSpec.upto Rows.primListsSpec).preRow enc Tryz.prog Tryz.f5 Rows.primListsUptoRow.domain false Rows.primListsUptoRow.laid) (((Rows.OpenSpec.upto Rows.primListsSpec).at F).post enc Tryz.prog Tryz.f5 false true false false):=by
 obtain ⟨places,hx⟩:=KZ os enc
 refine returnsInHanded_of_row (C:=Tryz.checked) (s:=Rows.OpenSpec.upto Rows.primListsSpec) If started (by kernel_rfl) Tryz.func5
  ⟨World.laidAll Tryz.prog os Rows.primListsUptoRow.laid,fun _ _=>0,⟨#[],#[.agg #[.int .i64 0,.int .i64 0,.string .empty,.slice none 0 0],.agg #[.int .i64 0,.int .i64 0,.string .empty,.slice none 0 0],.int .i64 0],[]⟩,World.laidAll_os _ _ _,K0 os,(Input.okWide_of_okWideB (base:=0) (u3 os)).1,(Input.okWide_of_okWideB (u3 os)).2,
   OpenSpec.preRow_of_cond 8 hx rfl (fun k hk=>by cases hk;kernel_rfl) (K2 os enc) (K3 os),by
    simp only [Assume.holds]
    exact ⟨by simp,by simp,fun _=>Modest.zero,by simp,by simp⟩⟩ ?_
 intro W base args ds gs before hval hW _ hcond _ hL _ _
 exact KY H enc W base args ds gs before hval hW (hcond _ rfl) hL
theorem K5:Tryz.pinned.checked.prog.funcNamed Rows.primListsUptoRow.func=some 5:=by kernel_rfl
theorem K6:(Rows.primListsUptoRow.wf (OpenSpec.ofChange Rows.primListsSpec):Bool)=true:=by kernel_rfl
theorem K7:(laidOutB Tryz.prog:Bool)=true:=by kernel_rfl
theorem K8:(mapsRowed Tryz.prog:Bool)=true:=by kernel_rfl
theorem K9:(Tryz.f5.params.all (Tryz.prog.readableRec ·):Bool)=true:=by kernel_rfl
theorem Ka:(namedTie Tryz.prog Rows.primListsUptoRow.named Rows.primListsSpec.vars:Bool)=true:=by kernel_rfl
theorem Kb:((Rows.primListsUptoRow.stops==[]):Bool)=true:=by kernel_rfl
theorem Kc:((Tryz.prog.stops==[]):Bool)=true:=by kernel_rfl
theorem Kd:((Rows.primListsUptoRow.knobs==[]):Bool)=true:=by kernel_rfl
theorem Ke:((Tryz.prog.stopKnobs==[]):Bool)=true:=by kernel_rfl
theorem Kf:((Rows.primListsUptoRow.inPlace==Tryz.prog.inPlace 5):Bool)=true:=by kernel_rfl
theorem Kg:((Rows.primListsUptoRow.unfollowed==Tryz.prog.unfollowed 5):Bool)=true:=by kernel_rfl
theorem Kh:((Rows.primListsUptoRow.recurses==Tryz.prog.recurses 5):Bool)=true:=by kernel_rfl
theorem Ki:((Rows.primListsUptoRow.named==Tryz.prog.varsNamed 5):Bool)=true:=by kernel_rfl
theorem Kj:((Rows.primListsUptoRow.maps==(Tryz.f5.params.toList++Rows.primListsSpec.plain.varTypes Tryz.prog).any (Tryz.prog.mapsRec ·)):Bool)=true:=by kernel_rfl
theorem Kk:((Rows.primListsUptoRow.ifaces==(Tryz.f5.params.toList++Rows.primListsSpec.plain.varTypes Tryz.prog).any (Tryz.prog.ifacesRec ·)):Bool)=true:=by kernel_rfl
theorem Kl:((Rows.primListsUptoRow.mapsOut==Tryz.prog.mapsAmong Tryz.f5.resultTypes.toList):Bool)=true:=by kernel_rfl
theorem Km:((Rows.primListsUptoRow.loops==(Tryz.f5.params.toList++Rows.primListsSpec.plain.varTypes Tryz.prog).any (Tryz.prog.loopsFrom ·)):Bool)=true:=by kernel_rfl
theorem Kn:((Rows.primListsUptoRow.wideKeys==(Tryz.f5.params.toList++Rows.primListsSpec.plain.varTypes Tryz.prog++Tryz.f5.resultTypes.toList).any (Tryz.prog.wideKeysFrom ·)):Bool)=true:=by kernel_rfl
theorem Ko:(Rows.primListsSpec.vars.all (Tryz.prog.varReadable ·):Bool)=true:=by kernel_rfl
theorem Kq:(Tryz.f5.resultTypes.all (fun t=>Tryz.prog.readableRec t&&decide (t < Tryz.prog.types.size)):Bool)=true:=by kernel_rfl
theorem Kr:((Rows.primListsUptoRow.ifacesOut==Tryz.f5.resultTypes.toList.any (Tryz.prog.ifacesRec ·)):Bool)=true:=by kernel_rfl
theorem Kt:((Rows.primListsUptoRow.loopsOut==Tryz.f5.resultTypes.toList.any (Tryz.prog.loopsFrom ·)):Bool)=true:=by kernel_rfl
theorem Ku:((Rows.primListsUptoRow.plainKeys==Tryz.prog.plainKeys):Bool)=true:=by kernel_rfl
theorem Kv:(Rows.primListsUptoRow.shortTexts.isNone:Bool)=true:=by kernel_rfl
theorem Kw:(Tryz.prog.stopsHeard:Bool)=true:=by kernel_rfl
theorem Kx:(Tryz.prog.mayEnter:Bool)=true:=by kernel_rfl
theorem Ky:((Rows.primListsUptoRow.lifted==Tryz.prog.liftsFinal):Bool)=true:=by kernel_rfl
theorem Kz:((Tryz.prog.make==some Rows.primListsUptoRow.make):Bool)=true:=by kernel_rfl
theorem LA:((Rows.primListsUptoRow.kinds==(if Rows.primListsUptoRow.domain.isEmpty then [] else Tryz.f5.params.toList.map fun t=>match Tryz.prog.underlying t with | some (.int k)=>some k | _=>none)):Bool)=true:=by kernel_rfl
theorem LB:((Rows.primListsUptoRow.pinned==Rows.primListsUptoRow.pinnedBy):Bool)=true:=by kernel_rfl
theorem LC:((Rows.primListsUptoRow.veiled==(Tryz.f5.params.toList++Rows.primListsSpec.plain.varTypes Tryz.prog++Tryz.f5.resultTypes.toList).any (Tryz.prog.veiledRec ·)):Bool)=true:=by kernel_rfl
theorem LD:(Rows.primListsUptoRow.veiledFits Tryz.prog Tryz.f5.params.toList (Tryz.f5.params.toList++Rows.primListsSpec.plain.varTypes Tryz.prog++Tryz.f5.resultTypes.toList):Bool)=true:=by kernel_rfl
set_option maxRecDepth 100000 in
theorem LF:joinedFacts Tryz.pinned.checked.prog 5 Tryz.f5 Rows.primListsSpec Rows.primListsUptoRow=true:=by
 unfold joinedFacts
 simp only [Bool.and_eq_true]
 exact ⟨⟨⟨⟨⟨⟨⟨⟨⟨⟨⟨⟨⟨⟨⟨⟨⟨⟨⟨⟨⟨⟨⟨⟨⟨⟨⟨⟨⟨⟨⟨K6,K7⟩,K8⟩,K9⟩,Ka⟩,Kb⟩,Kc⟩,Kd⟩,Ke⟩,Kf⟩,Kg⟩,Kh⟩,Ki⟩,Kj⟩,Kk⟩,Kl⟩,Km⟩,Kn⟩,Ko⟩,Kq⟩,Kr⟩,Kt⟩,Ku⟩,Kv⟩,Kw⟩,Kx⟩,Ky⟩,Kz⟩,LA⟩,LB⟩,LC⟩,LD⟩
theorem LG:Tryz.f5.isInstance Tryz.pinned.checked.prog Rows.primListsUptoRow.origin Rows.primListsUptoRow.targs:=of_decide_eq_true (by kernel_rfl)
theorem LH:Tryz.f5.isWrapper Tryz.pinned.checked.prog Rows.primListsUptoRow.wrapper Rows.primListsUptoRow.mainSum:=by
 unfold Func.isWrapper;first | (rw [if_pos (by decide +kernel)];kernel_rfl) | (rw [if_neg (by decide +kernel)];exact ⟨rfl,rfl⟩)
theorem LI:Rows.PrimListsUptoSaid :=
 OpenClaim.holds_of_cond 5 Tryz.f5 rfl rfl rfl rfl rfl rfl rfl ⟨rfl,rfl,rfl,rfl,rfl⟩ rfl rfl rfl rfl rfl K5 Tryz.func5 LF LG LH
  (fun os started H enc _ F=>by rw [OpenClaim.pre_eq_preRow];exact K4 os started H enc F)
theorem primLists_card : Rows.PrimListsUptoCardSaid :=
 Claim7.holds_tied_plain_at .later [] [.data, .data, .data, .data, .listed, .data, .pinned] true (true, "ea4f6b5ab0f0a490235b1b4dfac6ff680351ac7800976076e1933e8a1c5a3a5d") true LI (fun _ h => by cases h) (by kernel_rfl) (fun _ h => by cases h) primListsUpto_row_tie rfl ⟨rfl, rfl⟩ (by kernel_rfl) rfl
  (fun f fn hf hfn => by
   obtain rfl : f = 5 := Option.some.inj ((show Tryz.prog.funcNamed Rows.primListsUptoRow.func = some 5 by kernel_rfl).symm.trans hf) |>.symm
   obtain rfl : fn = Tryz.f5 := (Option.some.inj (Tryz.func5.symm.trans hfn)).symm
   exact ⟨by kernel_rfl, fun j t ht => by
    rw [Tryz.params5] at ht
    have hm : t ∈ [35, 35, 2] := by simpa using Array.mem_of_getElem? ht
    have hall : ([35, 35, 2] : List TypeId).all (fun t => !Tryz.prog.wantsStandIn t) = true := by kernel_rfl
    have h1 : Tryz.prog.wantsStandIn t = false := by simpa using List.all_eq_true.1 hall t hm
    exact h1⟩)
  (by kernel_rfl)

end Go.Proofs.YtilbjefgojocaaaGreatDoor
