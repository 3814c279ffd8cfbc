/- A reading of plain data (numbers, flags, texts, slices and structs of such), as rows of a first state and as values without memory. -/
import Derived.Test.YtilbjefgojocaaaGreatDoorPbMeas
import Derived.Lib.RuneCount
import Derived.Lib.MapLaws
import Derived.Lib.ValidLaws
import Derived.Lib.ValidAsc
import Derived.Lib.TrimAscii
import Derived.Shelf.Unicode.DecodeAny
import Derived.Test.YtilbjefgojocaaaGreatDoorProg
import Derived.Ground.NamesProg
import Derived.WalkKit
import Derived.WalkMore
import Derived.Below
import Derived.Shelf.Strings.Repeat
import Derived.Test.YtilbjefgojocaaaGreatDoorSxOk1
import Derived.Shelf.Strings.OnBuilder
import Derived.Test.YtilbjefgojocaaaGreatDoorPvZ1
import Derived.ChangeShapes
import Derived.ReadAgain
namespace Go.AM.PV
open Go Go.AM Go.AM.SX
attribute [local irreducible] pz aQ
def V.k:V->Int | .mk k _ _ _=>k
theorem V.sz_pos (v:V):1<=v.sz:=by cases v;simp only [V.sz];omega
abbrev R3:=Int×Int×Bool
section
variable (vs nm:ByteArray->Bool)
end
section
variable {E:Env} {gl:List GRow} {cfg:Cfg} {fuel:Nat} (vs nm:ByteArray->Bool)
end
end Go.AM.PV
namespace Go.AM.PV
open Go Go.AM Go.AM.SX
attribute [local irreducible] pz aQ
abbrev Chr:=Int×Int×Int×Bool
def LJ:ByteArray:=⟨[239,191,189].toArray⟩
def u4 (s:ByteArray) (pos:Nat) (r:Int) (e:Nat):Chr :=
 if r=65533 then
  if pos+e > s.size then (r,pos,pos+1,true) else
  if s.extract pos (pos+e)=LJ then (r,pos,pos+e,false) else (r,pos,pos+1,true)
 else (r,pos,pos+e,false)
def chr (s:ByteArray) (pos:Nat):Chr:=u4 s pos ((Utf8.decode s pos).1:Int) (Utf8.encode ((Utf8.decode s pos).1:Int)).size
def aI (s:ByteArray):Nat->Nat->List Chr
 | 0,_=>[]
 | n+1,pos=>if pos < s.size then chr s pos::aI s n (pos+(Utf8.decode s pos).2) else []
theorem j4 {s:ByteArray} {pos:Nat} (h:s.size<=pos):∀ n,aI s n pos=[]
 | 0=>rfl
 | n+1=>by simp only [aI];rw [if_neg (by omega)]
section
variable {E:Env} {gl:List GRow} {cfg:Cfg} {fuel:Nat}
end
theorem lP (s:ByteArray):∀ (n pos:Nat),(aI s n pos).length<=n
 | 0,_=>Nat.le_refl _
 | n+1,pos=>by
  simp only [aI]
  split
  ·have:=lP s n (pos+(Utf8.decode s pos).2)
   simp only [List.length_cons];omega
  ·exact Nat.zero_le _
def u5:List Chr->Int
 | []=>-1
 | c::l=>if c.2.2.2 then c.2.1 else u5 l
def bad (s:ByteArray):Int:=u5 (aI s s.size 0)
section
variable {E:Env} {gl:List GRow} {cfg:Cfg} {fuel:Nat}
end
end Go.AM.PV
namespace Go.AM.PV
open Go Go.AM Go.AM.SX
attribute [local irreducible] pz aQ
abbrev R32 (n:Int):P:=.c (.int .i32 n)
def fF (r:Int):Bool:=r==9||r==10||r==13||r==32||r==160||r==12288
def script (r:Int):Int:=if 48<=r/\r<=57 then 48 else if 1632<=r/\r<=1641 then 1632 else if 65296<=r/\r<=65305 then 65296 else 0
section
variable {E:Env} {gl:List GRow} {cfg:Cfg} {fuel:Nat}
end
def digit (r:Int):Int×Int×Bool:=if script r=0 then (0,0,false) else (r - script r,script r,true)
theorem u6 {n:Int} (h0:-2147483648<=n) (h1:n<=2147483647):aV .i32 n=n:=by
 unfold aV
 rw [if_pos ⟨by simp only [lo];omega,by simp only [hi];omega⟩]
def baseN:Nat->Int | 0=>48 | 1=>1632 | _=>65296
section
variable {E:Env} {gl:List GRow} {cfg:Cfg} {fuel:Nat}
theorem oQ (hE:SxEnv E) (h146:aC E cfg fuel 146 1=some t146) (r:Int):PR E gl 146 [R32 r] [] (.tup [I (digit r).1,R32 (digit r).2.1,Bo (digit r).2.2]) []:=by
 refine fnZ hE (cfg:=cfg) (fuel:=fuel) h146 (by kernel_rfl) ?_
 unfold t146
 try refine aA ?_
 refine bB (fun κ vs ν=>ν=[]/\∃ i,κ=3 - i/\i<=3/\vs=[I 0,R32 0,Bo false,I i]/\∀ j,j < i->¬ (baseN j<=r/\r<=baseN j+9)) rfl 3 _ (LeL.refl _) ⟨rfl,0,by omega,by omega,rfl,fun j hj=>by omega⟩ ?_
 rintro κ vs ν ⟨rfl,i,rfl,hi,rfl,hno⟩
 try dsimp only [go_sem]
 try refine aA ?_
 refine aP rfl (fun hlt=>?_) (fun hge=>?_)
 ·have hlt:i < 3:=by have:=of_decide_eq_true hlt;omega
  try refine nL rfl hlt ?_
  try dsimp only [go_sem]
  try refine dG rfl (p:=R32 (baseN i)) (by match i,hlt with | 0,_=>rfl | 1,_=>rfl | 2,_=>rfl) ?_
  try dsimp only [go_sem]
  try refine aA ?_
  have hb:48<=baseN i/\baseN i<=65296:=by
   match i,hlt with
   | 0,_=>exact ⟨by show (48:Int)<=48;omega,by show (48:Int)<=65296;omega⟩
   | 1,_=>exact ⟨by show (48:Int)<=1632;omega,by show (1632:Int)<=65296;omega⟩
   | 2,_=>exact ⟨by show (48:Int)<=65296;omega,by show (65296:Int)<=65296;omega⟩
  have hsc:baseN i<=r->r<=baseN i+9->script r=baseN i:=by
   intro a b
   unfold script
   match i,hlt with
   | 0,_ =>
    have a:(48:Int)<=r:=a
    have b:r<=48+9:=b
    rw [if_pos ⟨a,by omega⟩];rfl
   | 1,_ =>
    have a:(1632:Int)<=r:=a
    have b:r<=1632+9:=b
    rw [if_neg (by omega),if_pos ⟨a,by omega⟩];rfl
   | 2,_ =>
    have a:(65296:Int)<=r:=a
    have b:r<=65296+9:=b
    rw [if_neg (by omega),if_neg (by omega),if_pos ⟨a,by omega⟩];rfl
  have hno':¬ (baseN i<=r/\r<=baseN i+9)->∀ j,j < i+1->¬ (baseN j<=r/\r<=baseN j+9):=by
   intro h j hj
   by_cases e:j=i
   ·subst e;exact h
   ·exact hno j (by omega)
  generalize baseN i=b at hb hsc hno' ⊢
  refine aP rfl (fun h=>?_) (fun h=>?_)
  ·have h1:r>=b:=of_decide_eq_true h
   try refine aA ?_
   try rw [u6 (n:=b+9) (by omega) (by omega)]
   refine aP rfl (fun h=>?_) (fun h=>?_)
   ·have h2:r<=b+9:=of_decide_eq_true h
    try refine aA ?_
    try rw [u6 (n:=r - b) (by omega) (by omega),bM (n:=r - b) (by omega) (by omega)]
    refine aF rfl ?_
    try dsimp only [go_sem]
    try refine aA ?_
    unfold digit
    rw [hsc h1 h2,if_neg (by omega)]
    exact aG 0 rfl (Nat.zero_le _) rfl rfl ⟨rfl,rfl⟩
   ·have h2:¬ r<=b+9:=of_decide_eq_false h
    try refine aA ?_
    try rw [bM (n:=(i:Int)+1) (by omega) (by omega)]
    refine aF rfl ?_
    exact ⟨3 - (i+1),by omega,rfl,i+1,rfl,by omega,rfl,hno' (fun e=>h2 e.2)⟩
  ·have h1:¬ r>=b:=of_decide_eq_false h
   try refine aA ?_
   try rw [bM (n:=(i:Int)+1) (by omega) (by omega)]
   refine aF rfl ?_
   exact ⟨3 - (i+1),by omega,rfl,i+1,rfl,by omega,rfl,hno' (fun e=>h1 e.1)⟩
 ·have hge:i=3:=by have:=of_decide_eq_false hge;omega
  subst hge
  have h0:=hno 0 (by omega)
  have h1:=hno 1 (by omega)
  have h2:=hno 2 (by omega)
  simp only [baseN] at h0 h1 h2
  have hs:script r=0:=by
   unfold script
   rw [if_neg (by omega),if_neg (by omega),if_neg (by omega)]
  refine aF rfl ?_
  try dsimp only [go_sem]
  try refine aA ?_
  unfold digit
  rw [hs]
  exact aG 0 rfl (Nat.zero_le _) rfl rfl ⟨rfl,rfl⟩
end
def u7:List (List UInt8):=[[58],[59],[40],[41],[45,45],[91],[93],[123],[125],[116],[102]]
def u9 (s:ByteArray):Bool:=u7.any fun t=>s.data.toList==t
def idxS:List (List UInt8)->Nat->ByteArray->Int
 | [],_,_=>-1
 | t::l,i,s=>if s.data.toList==t then i else idxS l (i+1) s
theorem ue:∀ (l:List (List UInt8)) (i:Nat) (s:ByteArray),(decide (idxS l i s>=0))=l.any fun t=>s.data.toList==t
 | [],_,_=>rfl
 | t::l,i,s=>by
  simp only [idxS,List.any_cons]
  by_cases h:(s.data.toList==t)=true
  ·simp only [h,if_true,Bool.true_or];exact decide_eq_true (by omega)
  ·simp only [h,if_false,Bool.false_or,Bool.false_eq_true];exact ue l (i+1) s
abbrev Sb (l:List UInt8):P:=.c (.string ⟨l.toArray⟩)
section
variable {E:Env} {gl:List GRow} {cfg:Cfg} {fuel:Nat}
theorem LK (hE:SxEnv E) (h62:aC E cfg fuel 62 2=some t62) (l:List (List UInt8)) (hl:l.length<=1048576) (s:ByteArray):PR E gl 62 [.fx 1 l.length (l.map Sb),St s] [] (I (idxS l 0 s)) []:=by
 refine fnZ hE (cfg:=cfg) (fuel:=fuel) h62 (by kernel_rfl) ?_
 unfold t62
 try refine aA ?_
 refine bB (fun κ vs ν=>ν=[]/\∃ i,κ=l.length - i/\i<=l.length/\vs=[I 0,I i]/\idxS (l.drop i) i s=idxS l 0 s) rfl l.length _ (LeL.refl _) ⟨rfl,0,by omega,by omega,rfl,rfl⟩ ?_
 rintro κ vs ν ⟨rfl,i,rfl,hi,rfl,heq⟩
 try dsimp only [go_sem]
 try refine aA ?_
 refine aP rfl (fun hlt=>?_) (fun hge=>?_)
 ·have hlt:i < l.length:=by have:=of_decide_eq_true hlt;omega
  obtain ⟨c,hc⟩:∃ c,l[i]? = some c:=⟨l[i],List.getElem?_eq_getElem hlt⟩
  have hstep:l.drop i=c::l.drop (i+1):=by
   rw [List.drop_eq_getElem_cons hlt]
   rw [List.getElem?_eq_getElem hlt] at hc
   cases hc;rfl
  rw [hstep] at heq
  simp only [idxS] at heq
  try refine nL rfl hlt ?_
  try dsimp only [go_sem]
  refine dG rfl (p:=Sb c) (by rw [Nat.mul_one,List.getElem?_map,hc];rfl) ?_
  try dsimp only [go_sem]
  try refine aA ?_
  refine aP rfl (fun h=>?_) (fun h=>?_)
  ·have h:(s.data.toList==c)=true:=h
   rw [if_pos h] at heq
   try refine aA ?_
   refine aF rfl ?_
   try dsimp only [go_sem]
   try refine aA ?_
   rw [<- heq]
   exact aG 0 rfl (Nat.zero_le _) rfl rfl ⟨rfl,rfl⟩
  ·have h:(s.data.toList==c)=false:=h
   rw [if_neg (by rw [h];simp)] at heq
   try refine aA ?_
   try rw [bM (n:=(i:Int)+1) (by omega) (by omega)]
   refine aF rfl ?_
   exact ⟨l.length - (i+1),by omega,rfl,i+1,rfl,by omega,rfl,heq⟩
 ·have hge:i=l.length:=by have:=of_decide_eq_false hge;omega
  subst hge
  rw [List.drop_length] at heq
  refine aF rfl ?_
  try dsimp only [go_sem]
  try refine aA ?_
  rw [<- heq]
  exact aG 0 rfl (Nat.zero_le _) rfl rfl ⟨rfl,rfl⟩
theorem LL (hE:SxEnv E) (h37:aC E cfg fuel 37 2=some t37) (h62:aC E cfg fuel 62 2=some t62) (l:List (List UInt8)) (hl:l.length<=1048576) (s:ByteArray) :
  PR E gl 37 [.fx 1 l.length (l.map Sb),St s] [] (Bo (l.any fun t=>s.data.toList==t)) []:=by
 refine fnZ hE (cfg:=cfg) (fuel:=fuel) h37 (by kernel_rfl) ?_
 unfold t37
 try refine aM rfl (LK hE h62 l hl s) (Nat.le_refl _) ?_
 try dsimp only [go_sem]
 try refine aA ?_
 rw [<- ue l 0 s]
 exact aG 0 rfl (Nat.zero_le _) rfl rfl ⟨rfl,rfl⟩
theorem LM (hE:SxEnv E) (h134:aC E cfg fuel 134 1=some t134) (h37:aC E cfg fuel 37 2=some t37) (h62:aC E cfg fuel 62 2=some t62) (s:ByteArray):PR E gl 134 [St s] [] (Bo (u9 s)) []:=by
 refine fnZ hE (cfg:=cfg) (fuel:=fuel) h134 (by kernel_rfl) ?_
 unfold t134
 try refine aA ?_
 try refine aM rfl (LL hE h37 h62 u7 (by show 11<=1048576;omega) s) (Nat.le_refl _) ?_
 try dsimp only [go_sem]
 try refine aA ?_
 exact aG 0 rfl (Nat.zero_le _) rfl rfl ⟨rfl,rfl⟩
end
end Go.AM.PV
namespace Go.AM.PV
open Go Go.AM Go.AM.SX
attribute [local irreducible] pz aQ
def dH (r:Int):Bool:=!(fF r||decide (r < 32)||r==127||r==65533)
def quoted:List Chr->Bool | []=>false | c::_=>c.1==34
def eQ (l:List Chr) (s:ByteArray) (num:Bool):Bool :=
 !decide ((l.length:Int) < 1)&&(!decide ((l.length:Int) > 32)&&(!quoted l&&(!(s.data.toList==[33])&&((l.all fun c=>dH c.1)&&!num))))
section
variable {E:Env} {gl:List GRow} {cfg:Cfg} {fuel:Nat}
end
end Go.AM.PV
namespace Go.AM.PV
open Go Go.AM Go.AM.SX
attribute [local irreducible] pz aQ
theorem j5 (s:ByteArray) (pos:Nat):(chr s pos).1=((Utf8.decode s pos).1:Int):=by
 unfold chr u4
 split
 ·split
  ·rfl
  ·split <;> rfl
 ·rfl
section
variable {E:Env} {gl:List GRow} {cfg:Cfg} {fuel:Nat}
set_option maxHeartbeats 4000000 in
theorem LN (hE:SxEnv E) (h133:aC E cfg fuel 133 1=some t133) {s:ByteArray} (hlen:s.size<=1048576) {d:Bool}
  (h157:∀ r:Int,0<=r->r<=1114111->PR E gl 157 [R32 r] [] (Bo (fF r)) [])
  (h124:PR E gl 124 [St s] [] (.tup [.any,Bo d,.any]) []) :
  PR E gl 133 [St s] [] (Bo (eQ (aI s s.size 0) s d)) []:=by
 refine fnZ hE (cfg:=cfg) (fuel:=fuel) h133 (by kernel_rfl) ?_
 unfold t133
 have hlc:=lP s s.size 0
 have e:∀ b:Bool,eQ (aI s s.size 0) s d=b->[Bo b]=[Bo (eQ (aI s s.size 0) s d)]/\([]:Mu)=[]:=fun b hb=>by rw [hb];exact ⟨rfl,rfl⟩
 have hr:eQ (aI s s.size 0) s d=(!decide (((aI s s.size 0).length:Int) < 1)&&(!decide (((aI s s.size 0).length:Int) > 32)&&(!quoted (aI s s.size 0)&&(!(s.data.toList==[33])&&(((aI s s.size 0).all fun c=>dH c.1)&&!d))))):=rfl
 have hfail:((aI s s.size 0).all fun c=>dH c.1)=false->eQ (aI s s.size 0) s d=false:=fun h=>by rw [hr,h];simp
 have hquote:quoted (aI s s.size 0)=true->eQ (aI s s.size 0) s d=false:=fun h=>by rw [hr,h];simp
 refine gq rfl ?_
 try dsimp only [go_sem]
 refine bB (fun κ vs ν=>∃ (pos n:Nat) (a:List Chr),κ=s.size - pos/\vs=[Bo false,I a.length]/\ν=[.sit s pos]/\a.length<=pos/\s.size<=pos+n/\a++aI s n pos=aI s s.size 0 /\
   (a.all fun c=>dH c.1)=true/\(a=[]->pos=0)/\(a≠[]->quoted (aI s s.size 0)=false)) rfl s.size
  _ (LeL.refl _) ⟨0,s.size,[],by omega,rfl,rfl,Nat.le_refl _,by omega,rfl,rfl,fun _=>rfl,fun h=>absurd rfl h⟩ ?_
 rintro κ vs ν ⟨pos,n,a,rfl,rfl,rfl,ha,hn,heq,hall,hz,hqu⟩
 try dsimp only [go_sem]
 refine gr (i:=0) (s:=s) (pos:=pos) rfl rfl (fun hlt=>?_) (fun hge=>?_)
 ·obtain ⟨n,rfl⟩:∃ n',n=n'+1:=⟨n - 1,by omega⟩
  have hw:1<=(Utf8.decode s pos).2:=Lib.decode_width_pos s pos hlt
  have hch:=j5 s pos
  have hr1:((Utf8.decode s pos).1:Int)<=1114111:=by
   have:=Lib.decodeL_rune (s.data.toList.drop pos)
   rw [Lib.decodeL_drop] at this
   omega
  have hr0:0<=((Utf8.decode s pos).1:Int):=by omega
  simp only [aI] at heq
  rw [if_pos hlt] at heq
  generalize ((Utf8.decode s pos).1:Int)=r at hch hr0 hr1 ⊢
  generalize (Utf8.decode s pos).2=wd at hw heq ⊢
  have bad1:dH r=false->eQ (aI s s.size 0) s d=false:=fun h=>hfail (by rw [<- heq,List.all_append,List.all_cons,hch,h];simp)
  try dsimp only [go_sem]
  try refine aA ?_
  refine aP rfl (fun h=>?_) (fun h=>?_)
  ·have h:(r==65533)=true:=h
   try refine aA ?_
   refine aF rfl ?_
   try dsimp only [go_sem]
   try refine aA ?_
   exact aG 0 rfl (Nat.zero_le _) rfl rfl (e false (bad1 (by unfold dH;rw [h];simp)))
  have h4:(r==65533)=false:=h
  try refine aA ?_
  try refine aM rfl ((h157 r hr0 hr1).frame rfl _) (Nat.le_refl _) ?_
  try dsimp only [go_sem]
  try refine aA ?_
  refine aP rfl (fun h=>?_) (fun h=>?_)
  ·have h:fF r=true:=h
   try refine aA ?_
   refine aF rfl ?_
   try dsimp only [go_sem]
   try refine aA ?_
   exact aG 0 rfl (Nat.zero_le _) rfl rfl (e false (bad1 (by unfold dH;rw [h];simp)))
  have h1:fF r=false:=h
  try refine aA ?_
  refine aP rfl (fun h=>?_) (fun h=>?_)
  ·have h:decide (r < 32)=true:=h
   try refine aA ?_
   refine aF rfl ?_
   try dsimp only [go_sem]
   try refine aA ?_
   exact aG 0 rfl (Nat.zero_le _) rfl rfl (e false (bad1 (by unfold dH;rw [h];simp)))
  have h2:decide (r < 32)=false:=h
  try refine aA ?_
  refine aP rfl (fun h=>?_) (fun h=>?_)
  ·have h:(r==127)=true:=h
   try refine aA ?_
   refine aF rfl ?_
   try dsimp only [go_sem]
   try refine aA ?_
   exact aG 0 rfl (Nat.zero_le _) rfl rfl (e false (bad1 (by unfold dH;rw [h];simp)))
  have h3:(r==127)=false:=h
  have hok:dH r=true:=by unfold dH;rw [h1,h2,h3,h4];rfl
  have next:quoted (aI s s.size 0)=false->∃ j,j < s.size - pos/\∃ pos' n' a',j=s.size - pos'/\[Bo false,I ((a.length:Int)+1)]=[Bo false,I (List.length a')]/\[Ob.sit s (pos+wd)]=[Ob.sit s pos']/\a'.length<=pos'/\s.size<=pos'+n' /\
    a'++aI s n' pos'=aI s s.size 0/\(a'.all fun c=>dH c.1)=true/\(a'=[]->pos'=0)/\(a'≠[]->quoted (aI s s.size 0)=false):=by
   intro hq
   refine ⟨_,?_,pos+wd,n,a++[chr s pos],rfl,?_,rfl,?_,by omega,?_,?_,?_,fun _=>hq⟩
   ·omega
   ·simp only [List.length_append,List.length_cons,List.length_nil,Nat.zero_add];rfl
   ·simp only [List.length_append,List.length_cons,List.length_nil];omega
   ·rw [List.append_assoc];exact heq
   ·rw [List.all_append,hall,List.all_cons,hch,hok];rfl
   ·intro h;simp at h
  have hal:a.length<=1048576:=by omega
  try refine aA ?_
  refine aP rfl (fun h=>?_) (fun h=>?_)
  ·have h:((pos:Int)==0)=true:=h
   have hp0:pos=0:=by have:=eq_of_beq h;omega
   have ha0:a=[]:=by cases a with | nil=>rfl | cons x a=>simp only [List.length_cons] at ha;omega
   have hq:quoted (aI s s.size 0)=(r==34):=by rw [<- heq,ha0,<- hch];rfl
   try refine aA ?_
   refine aP rfl (fun h=>?_) (fun h=>?_)
   ·have h:(r==34)=true:=h
    try refine aA ?_
    refine aF rfl ?_
    try dsimp only [go_sem]
    try refine aA ?_
    exact aG 0 rfl (Nat.zero_le _) rfl rfl (e false (hquote (by rw [hq,h])))
   ·have h:(r==34)=false:=h
    try refine aA ?_
    try rw [bM (n:=(a.length:Int)+1) (by omega) (by omega)]
    refine aF rfl ?_
    exact next (by rw [hq,h])
  ·have h:((pos:Int)==0)=false:=h
   have hp0:a≠[]:=fun e=>by rw [hz e] at h;simp at h
   try refine aA ?_
   try rw [bM (n:=(a.length:Int)+1) (by omega) (by omega)]
   refine aF rfl ?_
   exact next (hqu hp0)
 ·rw [j4 hge,List.append_nil] at heq
  rw [<- heq] at hr hqu e hlc
  try dsimp only [go_sem]
  try refine aA ?_
  refine aF rfl ?_
  try dsimp only [go_sem]
  try refine aA ?_
  try refine aM rfl (h124.frame rfl _) (Nat.le_refl _) ?_
  try dsimp only [go_sem]
  try refine aA ?_
  rw [<- heq]
  refine aP rfl (fun h=>?_) (fun h=>?_)
  ·have h:decide ((a.length:Int)>=1)=true:=h
   have hp:(a.length:Int)>=1:=of_decide_eq_true h
   have hq:=hqu (fun e=>by rw [e] at hp;simp at hp)
   rw [hq,hall,decide_eq_false (p:=(a.length:Int) < 1) (by omega)] at hr
   try refine aA ?_
   refine aP rfl (fun h=>?_) (fun h=>?_)
   ·have h:decide ((a.length:Int)<=32)=true:=h
    have hp2:(a.length:Int)<=32:=of_decide_eq_true h
    rw [decide_eq_false (p:=(a.length:Int) > 32) (by omega)] at hr
    try refine aA ?_
    refine aP rfl (fun h=>?_) (fun h=>?_)
    ·have h:(!(s.data.toList==[33]))=true:=h
     rw [h] at hr
     try refine aA ?_
     exact aG 0 rfl (Nat.zero_le _) rfl rfl (e _ (by rw [hr];simp))
    ·have h:(!(s.data.toList==[33]))=false:=h
     rw [h] at hr
     try refine aA ?_
     exact aG 0 rfl (Nat.zero_le _) rfl rfl (e false (by rw [hr];simp))
   ·have h:decide ((a.length:Int)<=32)=false:=h
    have hp2:¬ (a.length:Int)<=32:=of_decide_eq_false h
    rw [decide_eq_true (p:=(a.length:Int) > 32) (by omega)] at hr
    try refine aA ?_
    exact aG 0 rfl (Nat.zero_le _) rfl rfl (e false (by rw [hr];simp))
  ·have h:decide ((a.length:Int)>=1)=false:=h
   have hp:¬ (a.length:Int)>=1:=of_decide_eq_false h
   rw [decide_eq_true (p:=(a.length:Int) < 1) (by omega)] at hr
   try refine aA ?_
   exact aG 0 rfl (Nat.zero_le _) rfl rfl (e false (by rw [hr];simp))
end
end Go.AM.PV
namespace Go.AM.PV
open Go Go.AM Go.AM.SX
attribute [local irreducible] pz aQ
section
variable {E:Env} {gl:List GRow} {cfg:Cfg} {fuel:Nat}
theorem LO (hE:SxEnv E) (h102:aC E cfg fuel 102 1=some t102) {s:ByteArray} {b c:Bool} (h133:PR E gl 133 [St s] [] (Bo b) []) (h134:PR E gl 134 [St s] [] (Bo c) []):PR E gl 102 [St s] [] (Bo (b&&!c)) []:=by
 refine fnZ hE (cfg:=cfg) (fuel:=fuel) h102 (by kernel_rfl) ?_
 unfold t102
 try refine aM rfl h133 (Nat.le_refl _) ?_
 try dsimp only [go_sem]
 cases b with
 | true =>
  try refine aA ?_
  try refine aM rfl h134 (Nat.le_refl _) ?_
  try dsimp only [go_sem]
  try refine aA ?_
  exact aG 0 rfl (Nat.zero_le _) rfl rfl ⟨rfl,rfl⟩
 | false =>
  try refine aA ?_
  exact aG 0 rfl (Nat.zero_le _) rfl rfl ⟨rfl,rfl⟩
end
end Go.AM.PV
namespace Go.AM.PV
open Go Go.AM Go.AM.SX
def LP:N:=bo .add [vi 0,vn 15] (.fin 0 [vn 7,vn 16,vv (.bool false),vn 24])
def LQ:N:=bo .mul [vi 10,vn 10] (bo .add [vn 24,vn 15] (.fin 0 [vn 7,vn 16,vn 9,vn 25]))
def LS:N:=bo .sub [vi 1152921504606846976,vn 15] (bo .quo [vn 21,vi 10] (bo .gtr [vn 10,vn 22] (.br (vn 23) LP LQ)))
def LU:N:=bo .neq [vn 16,vn 8] (.br (vn 20) (.fin 1 [vv (.bool false),vn 8,vv (.bool false),vi 0]) LS)
def LV:N:=bo .add [vi 0,vn 15] (.fin 0 [vn 7,vn 16,vv (.bool false),vn 23])
def LW:N:=bo .mul [vi 10,vn 10] (bo .add [vn 23,vn 15] (.fin 0 [vn 7,vn 16,vn 9,vn 24]))
def LX:N:=bo .sub [vi 1152921504606846976,vn 15] (bo .quo [vn 20,vi 10] (bo .gtr [vn 10,vn 21] (.br (vn 22) LV LW)))
def LY:N:=bo .geq [vn 8,vv (.int .i32 0)] (.br (vn 19) LU LX)
def LZ:N:=.op (.ext 2) [vn 11] (.call 146 [vn 13] (.op (.ext 0) [vn 14] (.op (.ext 1) [vn 14] (.op (.ext 2) [vn 14] (.op .not [vn 17] (.br (vn 18) (.fin 1 [vv (.bool false),vn 8,vv (.bool false),vi 0]) LY))))))
def L2:N:=.op (.next true) [vn 6] (.op (.ext 0) [vn 11] (.br (vn 12) LZ (.fin 2 [vn 7,vn 8,vn 9,vn 10])))
def L3:N:=.op .tup [vn 11,vn 8,vn 10] (.fin 1 [vn 12])
def L5:N:=bo .leq [vn 12,vi 1152921504606846975] (.op .tup [vn 12,vn 13,vn 14] (.fin 1 [vn 15]))
def L6:N:=.op .tup [vn 12,vn 13,vv (.bool false)] (.fin 1 [vn 14])
def L7:N:=.op .neg [vn 11] (bo .geq [vn 9,vv (.int .i32 0)] (.br (vn 10) L5 L6))
def L8:N:=.sw 7 2 L7 .bad
def L9:N:=.sw 7 1 L3 L8
def La:N:=.call 145 [vn 0] (.op (.ext 0) [vn 2] (.op (.ext 1) [vn 2] (.op (.subS true false) [vn 0,vn 4] (.op (.range true) [vn 5] (.loop [vv (.bool false),vv (.int .i32 (-1)),vv (.bool true),vi 0] L2 L9)))))
def Lb:N:=bo .add [vi 0,vn 16] (.fin 0 [vn 8,vn 17,vv (.bool false),vn 25])
def Lc:N:=bo .mul [vi 10,vn 11] (bo .add [vn 25,vn 16] (.fin 0 [vn 8,vn 17,vn 10,vn 26]))
def Ld:N:=bo .sub [vi 1152921504606846976,vn 16] (bo .quo [vn 22,vi 10] (bo .gtr [vn 11,vn 23] (.br (vn 24) Lb Lc)))
def Lf:N:=bo .neq [vn 17,vn 9] (.br (vn 21) (.fin 1 [vv (.bool false),vn 9,vv (.bool false),vi 0]) Ld)
def Lh:N:=bo .add [vi 0,vn 16] (.fin 0 [vn 8,vn 17,vv (.bool false),vn 24])
def Li:N:=bo .mul [vi 10,vn 11] (bo .add [vn 24,vn 16] (.fin 0 [vn 8,vn 17,vn 10,vn 25]))
def Lj:N:=bo .sub [vi 1152921504606846976,vn 16] (bo .quo [vn 21,vi 10] (bo .gtr [vn 11,vn 22] (.br (vn 23) Lh Li)))
def Lk:N:=bo .geq [vn 9,vv (.int .i32 0)] (.br (vn 20) Lf Lj)
def Ll:N:=.op (.ext 2) [vn 12] (.call 146 [vn 14] (.op (.ext 0) [vn 15] (.op (.ext 1) [vn 15] (.op (.ext 2) [vn 15] (.op .not [vn 18] (.br (vn 19) (.fin 1 [vv (.bool false),vn 9,vv (.bool false),vi 0]) Lk))))))
def Lm:N:=.op (.next true) [vn 7] (.op (.ext 0) [vn 12] (.br (vn 13) Ll (.fin 2 [vn 8,vn 9,vn 10,vn 11])))
def Ln:N:=.op .tup [vn 12,vn 9,vn 11] (.fin 1 [vn 13])
def Lo:N:=bo .leq [vn 13,vi 1152921504606846975] (.op .tup [vn 13,vn 14,vn 15] (.fin 1 [vn 16]))
def Lp:N:=.op .tup [vn 13,vn 14,vv (.bool false)] (.fin 1 [vn 15])
def Lq:N:=.op .neg [vn 12] (bo .geq [vn 10,vv (.int .i32 0)] (.br (vn 11) Lo Lp))
def Lr:N:=.sw 8 2 Lq .bad
def Lt:N:=.sw 8 1 Ln Lr
def Lu:N:=.call 145 [vn 0] (.op (.ext 0) [vn 3] (.op (.ext 1) [vn 3] (.op (.subS true false) [vn 0,vn 5] (.op (.range true) [vn 6] (.loop [vv (.bool false),vv (.int .i32 (-1)),vv (.bool true),vi 0] Lm Lt)))))
def Lv:N:=bo .add [vi 0,vn 12] (.fin 0 [vn 4,vn 13,vv (.bool false),vn 21])
def Lw:N:=bo .mul [vi 10,vn 7] (bo .add [vn 21,vn 12] (.fin 0 [vn 4,vn 13,vn 6,vn 22]))
def Lx:N:=bo .sub [vi 1152921504606846976,vn 12] (bo .quo [vn 18,vi 10] (bo .gtr [vn 7,vn 19] (.br (vn 20) Lv Lw)))
def Ly:N:=bo .neq [vn 13,vn 5] (.br (vn 17) (.fin 1 [vv (.bool false),vn 5,vv (.bool false),vi 0]) Lx)
def Lz:N:=bo .add [vi 0,vn 12] (.fin 0 [vn 4,vn 13,vv (.bool false),vn 20])
def MA:N:=bo .mul [vi 10,vn 7] (bo .add [vn 20,vn 12] (.fin 0 [vn 4,vn 13,vn 6,vn 21]))
def MB:N:=bo .sub [vi 1152921504606846976,vn 12] (bo .quo [vn 17,vi 10] (bo .gtr [vn 7,vn 18] (.br (vn 19) Lz MA)))
def MC:N:=bo .geq [vn 5,vv (.int .i32 0)] (.br (vn 16) Ly MB)
def MD:N:=.op (.ext 2) [vn 8] (.call 146 [vn 10] (.op (.ext 0) [vn 11] (.op (.ext 1) [vn 11] (.op (.ext 2) [vn 11] (.op .not [vn 14] (.br (vn 15) (.fin 1 [vv (.bool false),vn 5,vv (.bool false),vi 0]) MC))))))
def ME:N:=.op (.next true) [vn 3] (.op (.ext 0) [vn 8] (.br (vn 9) MD (.fin 2 [vn 4,vn 5,vn 6,vn 7])))
def MF:N:=.op .tup [vn 8,vn 5,vn 7] (.fin 1 [vn 9])
def MG:N:=bo .leq [vn 8,vi 1152921504606846975] (.op .tup [vn 8,vn 9,vn 10] (.fin 1 [vn 11]))
def MH:N:=.op .tup [vn 8,vn 9,vv (.bool false)] (.fin 1 [vn 10])
def MI:N:=bo .geq [vn 6,vv (.int .i32 0)] (.br (vn 7) MG MH)
def MJ:N:=.sw 4 2 MI .bad
def MK:N:=.sw 4 1 MF MJ
def ML:N:=.op (.range true) [vn 0] (.loop [vv (.bool false),vv (.int .i32 (-1)),vv (.bool true),vi 0] ME MK)
def MM:N:=.call 67 [vn 0,vv (bs [226,136,146])] (.br (vn 2) Lu ML)
def t124:N:=.call 67 [vn 0,vv (bs [45])] (.br (vn 1) La MM)
def MN:N:=.op .tup [vv (.int .u64 0),vv (.bool true),vv (.bool false)] (.fin 1 [vn 10])
def MO:N:=.op .tup [vv (.int .u64 0),vv (.bool true),vv (.bool false)] (.fin 1 [vn 15])
def MP:N:=.self (vn 17) (.chk 4 (.bin .mul) [vv (.int .u64 10),vn 17] (vn 32) (.chk 3 (.bin .mul) [vv (.int .u64 10),vn 17] (vn 32) (.self (vn 7) (.self (vn 7) (.self (vn 18) (.self (vn 18) (.chk 4 (.idxA 4) [vn 7,vn 18] (vn 33) (.chk 3 (.idxA 4) [vn 7,vn 18] (vn 33) (.chk 4 (.fld 0) [vn 33] (vn 34) (.chk 3 (.fld 0) [vn 33] (vn 34) (.chk 4 (.load none) [vn 34] (vn 35) (.chk 3 (.load none) [vn 34] (vn 35) (.self (vn 7) (.self (vn 18) (.chk 3 (.idxA 4) [vn 7,vn 18] (vn 36) (.chk 3 (.fld 0) [vn 36] (vn 37) (.chk 3 (.load none) [vn 37] (vn 38) (.chk 4 (.bin .sub) [vn 35,vn 39] (vn 40) (.chk 4 (.conv .u64) [vn 40] (vn 41) (.chk 4 (.bin .add) [vn 32,vn 41] (vn 42) (.chk 4 (.mm false) [vn 42,vv (.int .u64 1152921504606846977)] (vn 43) (.self (vn 43) (bo .add [vn 18,vi 1] (.fin 0 [vn 15,vn 16,vn 43,vn 44]))))))))))))))))))))))))
def MQ:N:=.bump 18 (.save (bo .mul [vv (.int .u64 10),vn 17] (.op (.idxA 4) [vn 7,vn 18] (.op (.fld 0) [vn 33] (ld 34 (.op (.idxA 4) [vn 7,vn 18] (.op (.fld 0) [vn 36] (ld 37 (.call 148 [vn 38] (.save (bo .sub [vn 35,vn 39] (.op (.conv .u64) [vn 40] (bo .add [vn 32,vn 41] (.op (.mm false) [vn 42,vv (.int .u64 1152921504606846977)] (.self (vn 17) MP)))))))))))))))
def MS:N:=ld 23 (.call 148 [vn 24] (.save (.op (.idxA 4) [vn 7,vi 0] (.op (.fld 0) [vn 26] (ld 27 (.call 148 [vn 28] (.save (bo .neq [vn 25,vn 29] (.self (vn 7) (.self (vn 18) (.chk 0 (.idxA 4) [vn 7,vn 18] (vn 22) (.chk 0 (.fld 0) [vn 22] (vn 23) (.chk 0 (.load none) [vn 23] (vn 24) (.self (vn 7) (.self (vn 7) (.chk 1 (.idxA 4) [vn 7,vi 0] (vn 26) (.chk 0 (.idxA 4) [vn 7,vi 0] (vn 26) (.chk 1 (.fld 0) [vn 26] (vn 27) (.chk 0 (.fld 0) [vn 26] (vn 27) (.chk 1 (.load none) [vn 27] (vn 28) (.chk 0 (.load none) [vn 27] (vn 28) (.chk 2 (.bin .neq) [vn 25,vn 29] (vn 30) (.br (vn 30) (.fin 1 [vn 15,vv (.bool false),vv (.int .u64 0),vn 18]) MQ)))))))))))))))))))))))
def MT:N:=.bump 12 (.save (.op (.idxA 4) [vn 7,vn 18] (.op (.fld 0) [vn 22] MS)))
def MU:N:=.op .lenL [vn 7] (bo .lss [vn 18,vn 19] (.br (vn 20) MT (.fin 2 [vn 15,vn 16,vn 17,vn 18])))
def MV:N:=.op .tup [vn 18,vn 16,vn 17] (.fin 1 [vn 20])
def MW:N:=.op .tup [vn 18,vn 16,vv (.bool true)] (.fin 1 [vn 20])
def MX:N:=.sw 15 2 MW .bad
def MY:N:=.sw 15 1 MV MX
def MZ:N:=.loop [vv (.bool true),vv (.bool false),vv (.int .u64 0),vi 0] MU MY
def M0:N:=.op (.idxA 4) [vn 7,vi 0] (.op (.fld 0) [vn 10] (ld 11 (.call 148 [vn 12] (bo .eql [vn 13,vv (.int .i32 0)] (.br (vn 14) MO MZ)))))
def M1:N:=.op (.subL 4 true false false) [vn 0,vi 1] (.op .lenL [vn 7] (bo .eql [vn 8,vi 0] (.br (vn 9) MN M0)))
def M3:N:=.op .tup [vv (.int .u64 0),vv (.bool true),vv (.bool false)] (.fin 1 [vn 14])
def M4:N:=.op .tup [vv (.int .u64 0),vv (.bool true),vv (.bool false)] (.fin 1 [vn 19])
def M5:N:=.self (vn 21) (.chk 4 (.bin .mul) [vv (.int .u64 10),vn 21] (vn 36) (.chk 3 (.bin .mul) [vv (.int .u64 10),vn 21] (vn 36) (.self (vn 11) (.self (vn 11) (.self (vn 22) (.self (vn 22) (.chk 4 (.idxA 4) [vn 11,vn 22] (vn 37) (.chk 3 (.idxA 4) [vn 11,vn 22] (vn 37) (.chk 4 (.fld 0) [vn 37] (vn 38) (.chk 3 (.fld 0) [vn 37] (vn 38) (.chk 4 (.load none) [vn 38] (vn 39) (.chk 3 (.load none) [vn 38] (vn 39) (.self (vn 11) (.self (vn 22) (.chk 3 (.idxA 4) [vn 11,vn 22] (vn 40) (.chk 3 (.fld 0) [vn 40] (vn 41) (.chk 3 (.load none) [vn 41] (vn 42) (.chk 4 (.bin .sub) [vn 39,vn 43] (vn 44) (.chk 4 (.conv .u64) [vn 44] (vn 45) (.chk 4 (.bin .add) [vn 36,vn 45] (vn 46) (.chk 4 (.mm false) [vn 46,vv (.int .u64 1152921504606846977)] (vn 47) (.self (vn 47) (bo .add [vn 22,vi 1] (.fin 0 [vn 19,vn 20,vn 47,vn 48]))))))))))))))))))))))))
def M6:N:=.bump 18 (.save (bo .mul [vv (.int .u64 10),vn 21] (.op (.idxA 4) [vn 11,vn 22] (.op (.fld 0) [vn 37] (ld 38 (.op (.idxA 4) [vn 11,vn 22] (.op (.fld 0) [vn 40] (ld 41 (.call 148 [vn 42] (.save (bo .sub [vn 39,vn 43] (.op (.conv .u64) [vn 44] (bo .add [vn 36,vn 45] (.op (.mm false) [vn 46,vv (.int .u64 1152921504606846977)] (.self (vn 21) M5)))))))))))))))
def M7:N:=ld 27 (.call 148 [vn 28] (.save (.op (.idxA 4) [vn 11,vi 0] (.op (.fld 0) [vn 30] (ld 31 (.call 148 [vn 32] (.save (bo .neq [vn 29,vn 33] (.self (vn 11) (.self (vn 22) (.chk 0 (.idxA 4) [vn 11,vn 22] (vn 26) (.chk 0 (.fld 0) [vn 26] (vn 27) (.chk 0 (.load none) [vn 27] (vn 28) (.self (vn 11) (.self (vn 11) (.chk 1 (.idxA 4) [vn 11,vi 0] (vn 30) (.chk 0 (.idxA 4) [vn 11,vi 0] (vn 30) (.chk 1 (.fld 0) [vn 30] (vn 31) (.chk 0 (.fld 0) [vn 30] (vn 31) (.chk 1 (.load none) [vn 31] (vn 32) (.chk 0 (.load none) [vn 31] (vn 32) (.chk 2 (.bin .neq) [vn 29,vn 33] (vn 34) (.br (vn 34) (.fin 1 [vn 19,vv (.bool false),vv (.int .u64 0),vn 22]) M6)))))))))))))))))))))))
def M8:N:=.bump 12 (.save (.op (.idxA 4) [vn 11,vn 22] (.op (.fld 0) [vn 26] M7)))
def M9:N:=.op .lenL [vn 11] (bo .lss [vn 22,vn 23] (.br (vn 24) M8 (.fin 2 [vn 19,vn 20,vn 21,vn 22])))
def Ma:N:=.op .tup [vn 22,vn 20,vn 21] (.fin 1 [vn 24])
def Mb:N:=.op .tup [vn 22,vn 20,vv (.bool true)] (.fin 1 [vn 24])
def Mc:N:=.sw 19 2 Mb .bad
def Md:N:=.sw 19 1 Ma Mc
def Me:N:=.loop [vv (.bool true),vv (.bool false),vv (.int .u64 0),vi 0] M9 Md
def Mf:N:=.op (.idxA 4) [vn 11,vi 0] (.op (.fld 0) [vn 14] (ld 15 (.call 148 [vn 16] (bo .eql [vn 17,vv (.int .i32 0)] (.br (vn 18) M4 Me)))))
def Mg:N:=.op (.subL 4 true false false) [vn 0,vi 1] (.op .lenL [vn 11] (bo .eql [vn 12,vi 0] (.br (vn 13) M3 Mf)))
def Mh:N:=.op .tup [vv (.int .u64 0),vv (.bool false),vv (.bool false)] (.fin 1 [vn 13])
def Mi:N:=.op .tup [vv (.int .u64 0),vv (.bool false),vv (.bool false)] (.fin 1 [vn 18])
def Mj:N:=.self (vn 20) (.chk 4 (.bin .mul) [vv (.int .u64 10),vn 20] (vn 35) (.chk 3 (.bin .mul) [vv (.int .u64 10),vn 20] (vn 35) (.self (vn 0) (.self (vn 0) (.self (vn 21) (.self (vn 21) (.chk 4 (.idxA 4) [vn 0,vn 21] (vn 36) (.chk 3 (.idxA 4) [vn 0,vn 21] (vn 36) (.chk 4 (.fld 0) [vn 36] (vn 37) (.chk 3 (.fld 0) [vn 36] (vn 37) (.chk 4 (.load none) [vn 37] (vn 38) (.chk 3 (.load none) [vn 37] (vn 38) (.self (vn 0) (.self (vn 21) (.chk 3 (.idxA 4) [vn 0,vn 21] (vn 39) (.chk 3 (.fld 0) [vn 39] (vn 40) (.chk 3 (.load none) [vn 40] (vn 41) (.chk 4 (.bin .sub) [vn 38,vn 42] (vn 43) (.chk 4 (.conv .u64) [vn 43] (vn 44) (.chk 4 (.bin .add) [vn 35,vn 44] (vn 45) (.chk 4 (.mm false) [vn 45,vv (.int .u64 1152921504606846977)] (vn 46) (.self (vn 46) (bo .add [vn 21,vi 1] (.fin 0 [vn 18,vn 19,vn 46,vn 47]))))))))))))))))))))))))
def Mk:N:=.bump 18 (.save (bo .mul [vv (.int .u64 10),vn 20] (.op (.idxA 4) [vn 0,vn 21] (.op (.fld 0) [vn 36] (ld 37 (.op (.idxA 4) [vn 0,vn 21] (.op (.fld 0) [vn 39] (ld 40 (.call 148 [vn 41] (.save (bo .sub [vn 38,vn 42] (.op (.conv .u64) [vn 43] (bo .add [vn 35,vn 44] (.op (.mm false) [vn 45,vv (.int .u64 1152921504606846977)] (.self (vn 20) Mj)))))))))))))))
def Ml:N:=ld 26 (.call 148 [vn 27] (.save (.op (.idxA 4) [vn 0,vi 0] (.op (.fld 0) [vn 29] (ld 30 (.call 148 [vn 31] (.save (bo .neq [vn 28,vn 32] (.self (vn 0) (.self (vn 21) (.chk 0 (.idxA 4) [vn 0,vn 21] (vn 25) (.chk 0 (.fld 0) [vn 25] (vn 26) (.chk 0 (.load none) [vn 26] (vn 27) (.self (vn 0) (.self (vn 0) (.chk 1 (.idxA 4) [vn 0,vi 0] (vn 29) (.chk 0 (.idxA 4) [vn 0,vi 0] (vn 29) (.chk 1 (.fld 0) [vn 29] (vn 30) (.chk 0 (.fld 0) [vn 29] (vn 30) (.chk 1 (.load none) [vn 30] (vn 31) (.chk 0 (.load none) [vn 30] (vn 31) (.chk 2 (.bin .neq) [vn 28,vn 32] (vn 33) (.br (vn 33) (.fin 1 [vn 18,vv (.bool false),vv (.int .u64 0),vn 21]) Mk)))))))))))))))))))))))
def Mm:N:=.bump 12 (.save (.op (.idxA 4) [vn 0,vn 21] (.op (.fld 0) [vn 25] Ml)))
def Mn:N:=.op .lenL [vn 0] (bo .lss [vn 21,vn 22] (.br (vn 23) Mm (.fin 2 [vn 18,vn 19,vn 20,vn 21])))
def Mo:N:=.op .tup [vn 21,vn 19,vn 20] (.fin 1 [vn 23])
def Mp:N:=.op .tup [vn 21,vn 19,vv (.bool true)] (.fin 1 [vn 23])
def Mq:N:=.sw 18 2 Mp .bad
def Mr:N:=.sw 18 1 Mo Mq
def Ms:N:=.loop [vv (.bool false),vv (.bool false),vv (.int .u64 0),vi 0] Mn Mr
def Mt:N:=.op (.idxA 4) [vn 0,vi 0] (.op (.fld 0) [vn 13] (ld 14 (.call 148 [vn 15] (bo .eql [vn 16,vv (.int .i32 0)] (.br (vn 17) Mi Ms)))))
def Mv:N:=.op .lenL [vn 0] (bo .eql [vn 11,vi 0] (.br (vn 12) Mh Mt))
def Mw:N:=.op (.idxA 4) [vn 0,vi 0] (.op (.fld 0) [vn 7] (ld 8 (bo .eql [vn 9,vv (.int .i32 8722)] (.br (vn 10) Mg Mv))))
def Mx:N:=.op (.idxA 4) [vn 0,vi 0] (.op (.fld 0) [vn 3] (ld 4 (bo .eql [vn 5,vv (.int .i32 45)] (.br (vn 6) M1 Mw))))
def My:N:=.op .tup [vv (.int .u64 0),vv (.bool false),vv (.bool false)] (.fin 1 [vn 5])
def Mz:N:=.op .tup [vv (.int .u64 0),vv (.bool false),vv (.bool false)] (.fin 1 [vn 10])
def NA:N:=.self (vn 12) (.chk 4 (.bin .mul) [vv (.int .u64 10),vn 12] (vn 27) (.chk 3 (.bin .mul) [vv (.int .u64 10),vn 12] (vn 27) (.self (vn 0) (.self (vn 0) (.self (vn 13) (.self (vn 13) (.chk 4 (.idxA 4) [vn 0,vn 13] (vn 28) (.chk 3 (.idxA 4) [vn 0,vn 13] (vn 28) (.chk 4 (.fld 0) [vn 28] (vn 29) (.chk 3 (.fld 0) [vn 28] (vn 29) (.chk 4 (.load none) [vn 29] (vn 30) (.chk 3 (.load none) [vn 29] (vn 30) (.self (vn 0) (.self (vn 13) (.chk 3 (.idxA 4) [vn 0,vn 13] (vn 31) (.chk 3 (.fld 0) [vn 31] (vn 32) (.chk 3 (.load none) [vn 32] (vn 33) (.chk 4 (.bin .sub) [vn 30,vn 34] (vn 35) (.chk 4 (.conv .u64) [vn 35] (vn 36) (.chk 4 (.bin .add) [vn 27,vn 36] (vn 37) (.chk 4 (.mm false) [vn 37,vv (.int .u64 1152921504606846977)] (vn 38) (.self (vn 38) (bo .add [vn 13,vi 1] (.fin 0 [vn 10,vn 11,vn 38,vn 39]))))))))))))))))))))))))
def NB:N:=.bump 18 (.save (bo .mul [vv (.int .u64 10),vn 12] (.op (.idxA 4) [vn 0,vn 13] (.op (.fld 0) [vn 28] (ld 29 (.op (.idxA 4) [vn 0,vn 13] (.op (.fld 0) [vn 31] (ld 32 (.call 148 [vn 33] (.save (bo .sub [vn 30,vn 34] (.op (.conv .u64) [vn 35] (bo .add [vn 27,vn 36] (.op (.mm false) [vn 37,vv (.int .u64 1152921504606846977)] (.self (vn 12) NA)))))))))))))))
def NC:N:=ld 18 (.call 148 [vn 19] (.save (.op (.idxA 4) [vn 0,vi 0] (.op (.fld 0) [vn 21] (ld 22 (.call 148 [vn 23] (.save (bo .neq [vn 20,vn 24] (.self (vn 0) (.self (vn 13) (.chk 0 (.idxA 4) [vn 0,vn 13] (vn 17) (.chk 0 (.fld 0) [vn 17] (vn 18) (.chk 0 (.load none) [vn 18] (vn 19) (.self (vn 0) (.self (vn 0) (.chk 1 (.idxA 4) [vn 0,vi 0] (vn 21) (.chk 0 (.idxA 4) [vn 0,vi 0] (vn 21) (.chk 1 (.fld 0) [vn 21] (vn 22) (.chk 0 (.fld 0) [vn 21] (vn 22) (.chk 1 (.load none) [vn 22] (vn 23) (.chk 0 (.load none) [vn 22] (vn 23) (.chk 2 (.bin .neq) [vn 20,vn 24] (vn 25) (.br (vn 25) (.fin 1 [vn 10,vv (.bool false),vv (.int .u64 0),vn 13]) NB)))))))))))))))))))))))
def ND:N:=.bump 12 (.save (.op (.idxA 4) [vn 0,vn 13] (.op (.fld 0) [vn 17] NC)))
def NF:N:=.op .lenL [vn 0] (bo .lss [vn 13,vn 14] (.br (vn 15) ND (.fin 2 [vn 10,vn 11,vn 12,vn 13])))
def NG:N:=.op .tup [vn 13,vn 11,vn 12] (.fin 1 [vn 15])
def NH:N:=.op .tup [vn 13,vn 11,vv (.bool true)] (.fin 1 [vn 15])
def NI:N:=.sw 10 2 NH .bad
def NJ:N:=.sw 10 1 NG NI
def NK:N:=.loop [vv (.bool false),vv (.bool false),vv (.int .u64 0),vi 0] NF NJ
def NL:N:=.op (.idxA 4) [vn 0,vi 0] (.op (.fld 0) [vn 5] (ld 6 (.call 148 [vn 7] (bo .eql [vn 8,vv (.int .i32 0)] (.br (vn 9) Mz NK)))))
def NM:N:=.op .lenL [vn 0] (bo .eql [vn 3,vi 0] (.br (vn 4) My NL))
def t128:N:=.op .lenL [vn 0] (bo .gtr [vn 1,vi 0] (.br (vn 2) Mx NM))
end Go.AM.PV
namespace Go.AM.PV
open Go Go.AM Go.AM.SX
attribute [local irreducible] pz aQ
def cn (s p:ByteArray):Bool:=decide ((s.size:Int)>=(p.size:Int))&&((s.extract 0 p.size).data.toList==p.data.toList)
section
variable {E:Env} {gl:List GRow} {cfg:Cfg} {fuel:Nat}
theorem NN (hE:SxEnv E) (h105:aC E cfg fuel 105 2=some t105) (s p:ByteArray):PR E gl 105 [St s,St p] [] (Bo (cn s p)) []:=by
 refine fnZ hE (cfg:=cfg) (fuel:=fuel) h105 (by kernel_rfl) ?_
 unfold t105
 have hr:cn s p=(decide ((s.size:Int)>=(p.size:Int))&&((s.extract 0 p.size).data.toList==p.data.toList)):=rfl
 try refine aA ?_
 refine aP rfl (fun h=>?_) (fun h=>?_)
 ·have h:decide ((s.size:Int)>=(p.size:Int))=true:=h
  rw [h,Bool.true_and] at hr
  try refine aA ?_
  refine rR (s:=s) (h:=p.size) rfl (by have:=of_decide_eq_true h;omega) ?_
  try dsimp only [go_sem]
  try refine aA ?_
  rw [hr]
  exact aG 0 rfl (Nat.zero_le _) rfl rfl ⟨rfl,rfl⟩
 ·have h:decide ((s.size:Int)>=(p.size:Int))=false:=h
  rw [h,Bool.false_and] at hr
  try refine aA ?_
  rw [hr]
  exact aG 0 rfl (Nat.zero_le _) rfl rfl ⟨rfl,rfl⟩
theorem uf (hE:SxEnv E) (h67:aC E cfg fuel 67 2=some t67) (h105:aC E cfg fuel 105 2=some t105) (s p:ByteArray):PR E gl 67 [St s,St p] [] (Bo (cn s p)) []:=by
 refine fnZ hE (cfg:=cfg) (fuel:=fuel) h67 (by kernel_rfl) ?_
 unfold t67
 try refine aM rfl (NN hE h105 s p) (Nat.le_refl _) ?_
 try dsimp only [go_sem]
 try refine aA ?_
 exact aG 0 rfl (Nat.zero_le _) rfl rfl ⟨rfl,rfl⟩
end
end Go.AM.PV
namespace Go.AM.PV
open Go Go.AM Go.AM.SX
def iA:List Chr->Bool
 | []=>false
 | c::l=>!(script c.1==0)&&(c::l).all fun x=>script x.1==script c.1
def fG:List Chr->Bool
 | []=>false
 | c::l=>if c.1==45||c.1==8722 then iA l else iA (c::l)
def aY:Int->List Chr->Bool
 | b,[]=>decide (b>=0)
 | b,c::l=>if script c.1=0 then false else if b>=0/\script c.1≠b then false else aY (script c.1) l
theorem NO (r:Int):script r=0\/script r=48\/script r=1632\/script r=65296:=by
 unfold script
 split
 ·exact .inr (.inl rfl)
 ·split
  ·exact .inr (.inr (.inl rfl))
  ·split
   ·exact .inr (.inr (.inr rfl))
   ·exact .inl rfl
theorem ug:∀ (l:List Chr) (b:Int),b > 0->aY b l=l.all fun x=>script x.1==b
 | [],b,h=>by simp only [aY,List.all_nil];exact decide_eq_true (by omega)
 | c::l,b,h=>by
  simp only [aY,List.all_cons]
  by_cases h0:script c.1=0
  ·rw [if_pos h0]
   have:(script c.1==b)=false:=by rw [h0];exact beq_eq_false_iff_ne.mpr (by omega)
   rw [this,Bool.false_and]
  ·rw [if_neg h0]
   by_cases h1:script c.1=b
   ·rw [if_neg (fun e=>e.2 h1),h1,ug l b h,beq_self_eq_true,Bool.true_and]
   ·rw [if_pos ⟨by omega,h1⟩,beq_eq_false_iff_ne.mpr h1,Bool.false_and]
theorem uh (l:List Chr):aY (-1) l=iA l:=by
 cases l with
 | nil=>rfl
 | cons c l =>
  simp only [aY,iA]
  by_cases h0:script c.1=0
  ·rw [if_pos h0,h0];rfl
  ·rw [if_neg h0,if_neg (fun e=>by have:=e.1;omega)]
   have hp:script c.1 > 0:=by rcases NO c.1 with h | h | h | h <;> omega
   rw [ug l _ hp,List.all_cons,beq_self_eq_true,Bool.true_and,beq_eq_false_iff_ne.mpr h0]
   rfl
end Go.AM.PV
namespace Go.AM.PV
open Go Go.AM Go.AM.SX
theorem iB {E:Env} {gl:List GRow} {k:N} {m:Nat} {rv:Rv} {d:Bool} {hs:List Nat} {ps:List P} {xs:List X} {μ:Mu} {Q:aW} {x y:Int} (h:denF ps xs=some [.c (.int .i64 x),.c (.int .i64 y)]) (hy:y≠0) (hk:pz E gl k m rv d hs (ps++[.c (.int .i64 (IntKind.wrap .i64 (x.tdiv y)))]) μ Q):pz E gl (.op (.bin .quo) xs k) m rv d hs ps μ Q:=by
 refine ⟨_,_,h,?_,hk⟩
 unfold aS bc
 simp only [iI,unc,aB,fP,cU,if_true,jk,Bool.false_eq_true,if_false,mI,hy]
attribute [local irreducible] pz aQ
section
variable {E:Env} {gl:List GRow} {cfg:Cfg} {fuel:Nat}
set_option maxHeartbeats 4000000 in
theorem NP (hE:SxEnv E) (h124:aC E cfg fuel 124 1=some t124) (h146:aC E cfg fuel 146 1=some t146) {s:ByteArray} (hlen:s.size<=1048576)
  (hp1:PR E gl 67 [St s,St ⟨[45].toArray⟩] [] (Bo false) []) (hp2:PR E gl 67 [St s,St ⟨[226,136,146].toArray⟩] [] (Bo false) []) :
  PR E gl 124 [St s] [] (.tup [.any,Bo (aY (-1) (aI s s.size 0)),.any]) []:=by
 refine fnZ hE (cfg:=cfg) (fuel:=fuel) h124 (by kernel_rfl) ?_
 unfold t124
 try refine aM rfl hp1 (Nat.le_refl _) ?_
 try dsimp only [go_sem]
 try refine aA ?_
 try refine aM rfl hp2 (Nat.le_refl _) ?_
 try dsimp only [go_sem]
 try refine aA ?_
 refine gq rfl ?_
 try dsimp only [go_sem]
 refine bB (fun κ vs ν=>∃ (pos n:Nat) (b m:Int) (fl:Bool),κ=s.size - pos/\vs=[Bo false,R32 b,Bo fl,I m]/\ν=[.sit s pos]/\s.size<=pos+n/\aY b (aI s n pos)=aY (-1) (aI s s.size 0)) rfl s.size
  _ (LeL.refl _) ⟨0,s.size,-1,0,true,by omega,rfl,rfl,by omega,rfl⟩ ?_
 rintro κ vs ν ⟨pos,n,b,m,fl,rfl,rfl,rfl,hn,heq⟩
 try dsimp only [go_sem]
 refine gr (i:=0) (s:=s) (pos:=pos) rfl rfl (fun hlt=>?_) (fun hge=>?_)
 ·obtain ⟨n,rfl⟩:∃ n',n=n'+1:=⟨n - 1,by omega⟩
  have hw:1<=(Utf8.decode s pos).2:=Lib.decode_width_pos s pos hlt
  have hch:=j5 s pos
  simp only [aI] at heq
  rw [if_pos hlt] at heq
  simp only [aY] at heq
  rw [hch] at heq
  have hd:=oQ (gl:=gl) hE h146 ((Utf8.decode s pos).1:Int)
  generalize ((Utf8.decode s pos).1:Int)=r at hch heq hd ⊢
  generalize (Utf8.decode s pos).2=wd at hw heq ⊢
  try dsimp only [go_sem]
  try refine aA ?_
  try refine aM rfl (hd.frame rfl _) (Nat.le_refl _) ?_
  try dsimp only [go_sem]
  try refine aA ?_
  unfold digit
  by_cases h0:script r=0
  ·rw [if_pos h0] at heq
   rw [if_pos h0]
   try dsimp only [go_sem]
   try refine aA ?_
   refine aF rfl ?_
   try dsimp only [go_sem]
   try refine aA ?_
   rw [<- heq]
   exact bR 0 rfl (LeL.one (.tup _ _ (.cons _ _ _ _ (.any _ rfl) (.cons _ _ _ _ (.refl _) (.cons _ _ _ _ (.any _ rfl) .nil))))) (Nat.zero_le _) rfl rfl ⟨rfl,rfl⟩
  ·rw [if_neg h0] at heq
   rw [if_neg h0]
   try dsimp only [go_sem]
   try refine aA ?_
   have next:aY (script r) (aI s n (pos+wd))=aY (-1) (aI s s.size 0)->∀ m fl,∃ j,j < s.size - pos/\∃ pos' n' b' m' fl',j=s.size - pos'/\[Bo false,R32 (script r),Bo fl,I m]=[Bo false,R32 b',Bo fl',I m'] /\
     [Ob.sit s (pos+wd)]=[Ob.sit s pos']/\s.size<=pos'+n'/\aY b' (aI s n' pos')=aY (-1) (aI s s.size 0):=fun h m fl=>⟨_,by omega,pos+wd,n,script r,m,fl,rfl,rfl,rfl,by omega,h⟩
   refine aP rfl (fun hb=>?_) (fun hb=>?_)
   ·have hb:b>=0:=of_decide_eq_true hb
    try refine aA ?_
    refine aP rfl (fun hx=>?_) (fun hx=>?_)
    ·have hx:(script r != b)=true:=hx
     rw [if_pos ⟨hb,by simpa using hx⟩] at heq
     try refine aA ?_
     refine aF rfl ?_
     try dsimp only [go_sem]
     try refine aA ?_
     rw [<- heq]
     exact bR 0 rfl (LeL.one (.tup _ _ (.cons _ _ _ _ (.any _ rfl) (.cons _ _ _ _ (.refl _) (.cons _ _ _ _ (.any _ rfl) .nil))))) (Nat.zero_le _) rfl rfl ⟨rfl,rfl⟩
    have hx:(script r != b)=false:=hx
    rw [if_neg (fun e=>by have h:=e.2;simp [bne,h] at hx)] at heq
    try refine aA ?_
    refine iB rfl (by decide) ?_
    try dsimp only [go_sem]
    try refine aA ?_
    refine aP rfl (fun h=>?_) (fun h=>?_)
    ·try refine aA ?_
     refine aF rfl ?_
     exact next heq _ _
    ·try refine aA ?_
     refine aF rfl ?_
     exact next heq _ _
   ·have hb:¬ b>=0:=of_decide_eq_false hb
    rw [if_neg (fun e=>hb e.1)] at heq
    try refine aA ?_
    refine iB rfl (by decide) ?_
    try dsimp only [go_sem]
    try refine aA ?_
    refine aP rfl (fun h=>?_) (fun h=>?_)
    ·try refine aA ?_
     refine aF rfl ?_
     exact next heq _ _
    ·try refine aA ?_
     refine aF rfl ?_
     exact next heq _ _
 ·rw [j4 hge] at heq
  simp only [aY] at heq
  try dsimp only [go_sem]
  try refine aA ?_
  refine aF rfl ?_
  try dsimp only [go_sem]
  try refine aA ?_
  cases fl with
  | true =>
   try refine aA ?_
   rw [<- heq]
   exact bR 0 rfl (LeL.one (.tup _ _ (.cons _ _ _ _ (.any _ rfl) (.cons _ _ _ _ (.refl _) (.cons _ _ _ _ (.any _ rfl) .nil))))) (Nat.zero_le _) rfl rfl ⟨rfl,rfl⟩
  | false =>
   try refine aA ?_
   rw [<- heq]
   exact bR 0 rfl (LeL.one (.tup _ _ (.cons _ _ _ _ (.any _ rfl) (.cons _ _ _ _ (.refl _) (.cons _ _ _ _ (.any _ rfl) .nil))))) (Nat.zero_le _) rfl rfl ⟨rfl,rfl⟩
set_option maxHeartbeats 4000000 in
theorem NQ (hE:SxEnv E) (h124:aC E cfg fuel 124 1=some t124) (h146:aC E cfg fuel 146 1=some t146) {s:ByteArray} (hlen:s.size<=1048576)
  (hp1:PR E gl 67 [St s,St ⟨[45].toArray⟩] [] (Bo true) []) {r0:Int} {k:Nat} (hk:k<=s.size) (hde:PR E gl 145 [St s] [] (.c (.tuple #[.int .i32 r0,.int .i64 (k:Int)])) []) :
  PR E gl 124 [St s] [] (.tup [.any,Bo (aY (-1) (aI (s.extract k s.size) (s.extract k s.size).size 0)),.any]) []:=by
 refine fnZ hE (cfg:=cfg) (fuel:=fuel) h124 (by kernel_rfl) ?_
 unfold t124
 try refine aM rfl hp1 (Nat.le_refl _) ?_
 try dsimp only [go_sem]
 try refine aA ?_
 try refine aM rfl hde (Nat.le_refl _) ?_
 try dsimp only [go_sem]
 try refine aA ?_
 refine nM (s:=s) (l:=k) rfl hk ?_
 try dsimp only [go_sem]
 try refine aA ?_
 have hul:(s.extract k s.size).size<=1048576:=by rw [Lib.ext_size];omega
 generalize s.extract k s.size=u at hul ⊢
 refine gq rfl ?_
 try dsimp only [go_sem]
 refine bB (fun κ vs ν=>∃ (pos n:Nat) (b m:Int) (fl:Bool),κ=u.size - pos/\vs=[Bo false,R32 b,Bo fl,I m]/\ν=[.sit u pos]/\u.size<=pos+n/\aY b (aI u n pos)=aY (-1) (aI u u.size 0)) rfl u.size
  _ (LeL.refl _) ⟨0,u.size,-1,0,true,by omega,rfl,rfl,by omega,rfl⟩ ?_
 rintro κ vs ν ⟨pos,n,b,m,fl,rfl,rfl,rfl,hn,heq⟩
 try dsimp only [go_sem]
 refine gr (i:=0) (s:=u) (pos:=pos) rfl rfl (fun hlt=>?_) (fun hge=>?_)
 ·obtain ⟨n,rfl⟩:∃ n',n=n'+1:=⟨n - 1,by omega⟩
  have hw:1<=(Utf8.decode u pos).2:=Lib.decode_width_pos u pos hlt
  have hch:=j5 u pos
  simp only [aI] at heq
  rw [if_pos hlt] at heq
  simp only [aY] at heq
  rw [hch] at heq
  have hd:=oQ (gl:=gl) hE h146 ((Utf8.decode u pos).1:Int)
  generalize ((Utf8.decode u pos).1:Int)=r at hch heq hd ⊢
  generalize (Utf8.decode u pos).2=wd at hw heq ⊢
  try dsimp only [go_sem]
  try refine aA ?_
  try refine aM rfl (hd.frame rfl _) (Nat.le_refl _) ?_
  try dsimp only [go_sem]
  try refine aA ?_
  unfold digit
  by_cases h0:script r=0
  ·rw [if_pos h0] at heq
   rw [if_pos h0]
   try dsimp only [go_sem]
   try refine aA ?_
   refine aF rfl ?_
   try dsimp only [go_sem]
   try refine aA ?_
   rw [<- heq]
   exact bR 0 rfl (LeL.one (.tup _ _ (.cons _ _ _ _ (.any _ rfl) (.cons _ _ _ _ (.refl _) (.cons _ _ _ _ (.any _ rfl) .nil))))) (Nat.zero_le _) rfl rfl ⟨rfl,rfl⟩
  ·rw [if_neg h0] at heq
   rw [if_neg h0]
   try dsimp only [go_sem]
   try refine aA ?_
   have next:aY (script r) (aI u n (pos+wd))=aY (-1) (aI u u.size 0)->∀ m fl,∃ j,j < u.size - pos/\∃ pos' n' b' m' fl',j=u.size - pos'/\[Bo false,R32 (script r),Bo fl,I m]=[Bo false,R32 b',Bo fl',I m'] /\
     [Ob.sit u (pos+wd)]=[Ob.sit u pos']/\u.size<=pos'+n'/\aY b' (aI u n' pos')=aY (-1) (aI u u.size 0):=fun h m fl=>⟨_,by omega,pos+wd,n,script r,m,fl,rfl,rfl,rfl,by omega,h⟩
   refine aP rfl (fun hb=>?_) (fun hb=>?_)
   ·have hb:b>=0:=of_decide_eq_true hb
    try refine aA ?_
    refine aP rfl (fun hx=>?_) (fun hx=>?_)
    ·have hx:(script r != b)=true:=hx
     rw [if_pos ⟨hb,by simpa using hx⟩] at heq
     try refine aA ?_
     refine aF rfl ?_
     try dsimp only [go_sem]
     try refine aA ?_
     rw [<- heq]
     exact bR 0 rfl (LeL.one (.tup _ _ (.cons _ _ _ _ (.any _ rfl) (.cons _ _ _ _ (.refl _) (.cons _ _ _ _ (.any _ rfl) .nil))))) (Nat.zero_le _) rfl rfl ⟨rfl,rfl⟩
    have hx:(script r != b)=false:=hx
    rw [if_neg (fun e=>by have h:=e.2;simp [bne,h] at hx)] at heq
    try refine aA ?_
    refine iB rfl (by decide) ?_
    try dsimp only [go_sem]
    try refine aA ?_
    refine aP rfl (fun h=>?_) (fun h=>?_)
    ·try refine aA ?_
     refine aF rfl ?_
     exact next heq _ _
    ·try refine aA ?_
     refine aF rfl ?_
     exact next heq _ _
   ·have hb:¬ b>=0:=of_decide_eq_false hb
    rw [if_neg (fun e=>hb e.1)] at heq
    try refine aA ?_
    refine iB rfl (by decide) ?_
    try dsimp only [go_sem]
    try refine aA ?_
    refine aP rfl (fun h=>?_) (fun h=>?_)
    ·try refine aA ?_
     refine aF rfl ?_
     exact next heq _ _
    ·try refine aA ?_
     refine aF rfl ?_
     exact next heq _ _
 ·rw [j4 hge] at heq
  simp only [aY] at heq
  try dsimp only [go_sem]
  try refine aA ?_
  refine aF rfl ?_
  try dsimp only [go_sem]
  try refine aA ?_
  cases fl with
  | true =>
   try refine aA ?_
   rw [<- heq]
   exact bR 0 rfl (LeL.one (.tup _ _ (.cons _ _ _ _ (.any _ rfl) (.cons _ _ _ _ (.refl _) (.cons _ _ _ _ (.any _ rfl) .nil))))) (Nat.zero_le _) rfl rfl ⟨rfl,rfl⟩
  | false =>
   try refine aA ?_
   rw [<- heq]
   exact bR 0 rfl (LeL.one (.tup _ _ (.cons _ _ _ _ (.any _ rfl) (.cons _ _ _ _ (.refl _) (.cons _ _ _ _ (.any _ rfl) .nil))))) (Nat.zero_le _) rfl rfl ⟨rfl,rfl⟩
set_option maxHeartbeats 4000000 in
theorem NR (hE:SxEnv E) (h124:aC E cfg fuel 124 1=some t124) (h146:aC E cfg fuel 146 1=some t146) {s:ByteArray} (hlen:s.size<=1048576)
  (hp1:PR E gl 67 [St s,St ⟨[45].toArray⟩] [] (Bo false) []) (hp2:PR E gl 67 [St s,St ⟨[226,136,146].toArray⟩] [] (Bo true) []) {r0:Int} {k:Nat} (hk:k<=s.size) (hde:PR E gl 145 [St s] [] (.c (.tuple #[.int .i32 r0,.int .i64 (k:Int)])) []) :
  PR E gl 124 [St s] [] (.tup [.any,Bo (aY (-1) (aI (s.extract k s.size) (s.extract k s.size).size 0)),.any]) []:=by
 refine fnZ hE (cfg:=cfg) (fuel:=fuel) h124 (by kernel_rfl) ?_
 unfold t124
 try refine aM rfl hp1 (Nat.le_refl _) ?_
 try dsimp only [go_sem]
 try refine aA ?_
 try refine aM rfl hp2 (Nat.le_refl _) ?_
 try dsimp only [go_sem]
 try refine aA ?_
 try refine aM rfl hde (Nat.le_refl _) ?_
 try dsimp only [go_sem]
 try refine aA ?_
 refine nM (s:=s) (l:=k) rfl hk ?_
 try dsimp only [go_sem]
 try refine aA ?_
 have hul:(s.extract k s.size).size<=1048576:=by rw [Lib.ext_size];omega
 generalize s.extract k s.size=u at hul ⊢
 refine gq rfl ?_
 try dsimp only [go_sem]
 refine bB (fun κ vs ν=>∃ (pos n:Nat) (b m:Int) (fl:Bool),κ=u.size - pos/\vs=[Bo false,R32 b,Bo fl,I m]/\ν=[.sit u pos]/\u.size<=pos+n/\aY b (aI u n pos)=aY (-1) (aI u u.size 0)) rfl u.size
  _ (LeL.refl _) ⟨0,u.size,-1,0,true,by omega,rfl,rfl,by omega,rfl⟩ ?_
 rintro κ vs ν ⟨pos,n,b,m,fl,rfl,rfl,rfl,hn,heq⟩
 try dsimp only [go_sem]
 refine gr (i:=0) (s:=u) (pos:=pos) rfl rfl (fun hlt=>?_) (fun hge=>?_)
 ·obtain ⟨n,rfl⟩:∃ n',n=n'+1:=⟨n - 1,by omega⟩
  have hw:1<=(Utf8.decode u pos).2:=Lib.decode_width_pos u pos hlt
  have hch:=j5 u pos
  simp only [aI] at heq
  rw [if_pos hlt] at heq
  simp only [aY] at heq
  rw [hch] at heq
  have hd:=oQ (gl:=gl) hE h146 ((Utf8.decode u pos).1:Int)
  generalize ((Utf8.decode u pos).1:Int)=r at hch heq hd ⊢
  generalize (Utf8.decode u pos).2=wd at hw heq ⊢
  try dsimp only [go_sem]
  try refine aA ?_
  try refine aM rfl (hd.frame rfl _) (Nat.le_refl _) ?_
  try dsimp only [go_sem]
  try refine aA ?_
  unfold digit
  by_cases h0:script r=0
  ·rw [if_pos h0] at heq
   rw [if_pos h0]
   try dsimp only [go_sem]
   try refine aA ?_
   refine aF rfl ?_
   try dsimp only [go_sem]
   try refine aA ?_
   rw [<- heq]
   exact bR 0 rfl (LeL.one (.tup _ _ (.cons _ _ _ _ (.any _ rfl) (.cons _ _ _ _ (.refl _) (.cons _ _ _ _ (.any _ rfl) .nil))))) (Nat.zero_le _) rfl rfl ⟨rfl,rfl⟩
  ·rw [if_neg h0] at heq
   rw [if_neg h0]
   try dsimp only [go_sem]
   try refine aA ?_
   have next:aY (script r) (aI u n (pos+wd))=aY (-1) (aI u u.size 0)->∀ m fl,∃ j,j < u.size - pos/\∃ pos' n' b' m' fl',j=u.size - pos'/\[Bo false,R32 (script r),Bo fl,I m]=[Bo false,R32 b',Bo fl',I m'] /\
     [Ob.sit u (pos+wd)]=[Ob.sit u pos']/\u.size<=pos'+n'/\aY b' (aI u n' pos')=aY (-1) (aI u u.size 0):=fun h m fl=>⟨_,by omega,pos+wd,n,script r,m,fl,rfl,rfl,rfl,by omega,h⟩
   refine aP rfl (fun hb=>?_) (fun hb=>?_)
   ·have hb:b>=0:=of_decide_eq_true hb
    try refine aA ?_
    refine aP rfl (fun hx=>?_) (fun hx=>?_)
    ·have hx:(script r != b)=true:=hx
     rw [if_pos ⟨hb,by simpa using hx⟩] at heq
     try refine aA ?_
     refine aF rfl ?_
     try dsimp only [go_sem]
     try refine aA ?_
     rw [<- heq]
     exact bR 0 rfl (LeL.one (.tup _ _ (.cons _ _ _ _ (.any _ rfl) (.cons _ _ _ _ (.refl _) (.cons _ _ _ _ (.any _ rfl) .nil))))) (Nat.zero_le _) rfl rfl ⟨rfl,rfl⟩
    have hx:(script r != b)=false:=hx
    rw [if_neg (fun e=>by have h:=e.2;simp [bne,h] at hx)] at heq
    try refine aA ?_
    refine iB rfl (by decide) ?_
    try dsimp only [go_sem]
    try refine aA ?_
    refine aP rfl (fun h=>?_) (fun h=>?_)
    ·try refine aA ?_
     refine aF rfl ?_
     exact next heq _ _
    ·try refine aA ?_
     refine aF rfl ?_
     exact next heq _ _
   ·have hb:¬ b>=0:=of_decide_eq_false hb
    rw [if_neg (fun e=>hb e.1)] at heq
    try refine aA ?_
    refine iB rfl (by decide) ?_
    try dsimp only [go_sem]
    try refine aA ?_
    refine aP rfl (fun h=>?_) (fun h=>?_)
    ·try refine aA ?_
     refine aF rfl ?_
     exact next heq _ _
    ·try refine aA ?_
     refine aF rfl ?_
     exact next heq _ _
 ·rw [j4 hge] at heq
  simp only [aY] at heq
  try dsimp only [go_sem]
  try refine aA ?_
  refine aF rfl ?_
  try dsimp only [go_sem]
  try refine aA ?_
  cases fl with
  | true =>
   try refine aA ?_
   rw [<- heq]
   exact bR 0 rfl (LeL.one (.tup _ _ (.cons _ _ _ _ (.any _ rfl) (.cons _ _ _ _ (.refl _) (.cons _ _ _ _ (.any _ rfl) .nil))))) (Nat.zero_le _) rfl rfl ⟨rfl,rfl⟩
  | false =>
   try refine aA ?_
   rw [<- heq]
   exact bR 0 rfl (LeL.one (.tup _ _ (.cons _ _ _ _ (.any _ rfl) (.cons _ _ _ _ (.refl _) (.cons _ _ _ _ (.any _ rfl) .nil))))) (Nat.zero_le _) rfl rfl ⟨rfl,rfl⟩
end
end Go.AM.PV
namespace Go.AM.PV
open Go Go.AM Go.AM.SX
def runesF:Nat->List UInt8->List Int
 | 0,_=>[]
 | n+1,l=>if l=[] then [] else ((Lib.decodeL l).1:Int)::runesF n (l.drop (Lib.decodeL l).2)
theorem ui (s:ByteArray) (pos:Nat):s.data.toList.drop pos=[]<->s.size<=pos:=by
 rw [List.drop_eq_nil_iff,<- Lib.size_eq]
theorem oR (s:ByteArray):∀ (n pos:Nat),(aI s n pos).map (·.1)=runesF n (s.data.toList.drop pos)
 | 0,_=>rfl
 | n+1,pos=>by
  simp only [aI,runesF]
  by_cases h:pos < s.size
  ·rw [if_pos h,if_neg (fun e=>by have:=(ui s pos).1 e;omega),List.map_cons,oR s n _,Lib.decodeL_drop,List.drop_drop,j5]
  ·rw [if_neg h,if_pos ((ui s pos).2 (by omega))];rfl
theorem uj:∀ (n m:Nat) (l:List UInt8),l.length<=n->l.length<=m->runesF n l=runesF m l
 | 0,m,l,h,_=>by
  obtain rfl:=List.length_eq_zero_iff.1 (Nat.le_zero.1 h)
  cases m <;> rfl
 | n+1,0,l,_,h=>by
  obtain rfl:=List.length_eq_zero_iff.1 (Nat.le_zero.1 h)
  rfl
 | n+1,m+1,l,h1,h2=>by
  simp only [runesF]
  by_cases e:l=[]
  ·rw [if_pos e,if_pos e]
  ·have hl:0 < l.length:=List.length_pos_iff.2 e
   have hw:=Lib.decodeL_width l
   rw [if_neg e,if_neg e,uj n m _ (by rw [List.length_drop];omega) (by rw [List.length_drop];omega)]
def j6:List Int->Bool
 | []=>false
 | c::l=>!(script c==0)&&(c::l).all fun x=>script x==script c
theorem oS (l:List Chr):iA l=j6 (l.map (·.1)):=by
 cases l with
 | nil=>rfl
 | cons c l=>simp only [iA,j6,List.map_cons,List.all_cons,List.all_map,Function.comp_def]
def oT:List Int->Bool
 | []=>false
 | c::l=>if c==45||c==8722 then j6 l else j6 (c::l)
theorem oU (l:List Chr):fG l=oT (l.map (·.1)):=by
 cases l with
 | nil=>rfl
 | cons c l=>simp only [fG,oT,List.map_cons,oS]
theorem lQ (s:ByteArray):(aI s s.size 0).map (·.1)=runesF s.data.toList.length s.data.toList:=by
 rw [oR,List.drop_zero,Lib.size_eq]
theorem oV (s:ByteArray) (k:Nat):(s.extract k s.size).data.toList=s.data.toList.drop k:=by
 rw [Lib.extract_data,List.take_of_length_le (by rw [List.length_drop,<- Lib.size_eq];omega)]
theorem lR (s p:ByteArray):cn s p=true<->s.data.toList.take p.data.toList.length=p.data.toList:=by
 unfold cn
 rw [Bool.and_eq_true,decide_eq_true_iff,Lib.extract_data,List.drop_zero,Nat.sub_zero,beq_iff_eq,Lib.size_eq,Lib.size_eq]
 constructor
 ·exact fun h=>h.2
 ·intro h
  refine ⟨?_,h⟩
  have:=congrArg List.length h
  rw [List.length_take] at this
  omega
theorem uk (s:ByteArray) (k:Nat):aY (-1) (aI (s.extract k s.size) (s.extract k s.size).size 0)=j6 (runesF (s.data.toList.drop k).length (s.data.toList.drop k)):=by
 rw [uh,oS,lQ,oV]
theorem oW {l:List UInt8} (h:l≠[]) {r w:Nat} (hd:Lib.decodeL l=(r,w)) (hw:1<=w):runesF l.length l=(r:Int)::runesF (l.drop w).length (l.drop w):=by
 obtain ⟨n,hn⟩:∃ n,l.length=n+1:=⟨l.length - 1,by have:=List.length_pos_iff.2 h;omega⟩
 rw [hn]
 simp only [runesF]
 rw [if_neg h,hd]
 dsimp only
 rw [uj n (l.drop w).length _ (by rw [List.length_drop];omega) (Nat.le_refl _)]
theorem NS (l:List UInt8):Lib.decodeL (226::136::146::l)=(8722,3):=by
 rw [Lib.decodeL_N]
 have h:(226::136::146::l).length=l.length+3:=rfl
 rw [h]
 simp [Lib.decodeN]
theorem NT {s:ByteArray} (h:cn s ⟨[45].toArray⟩=true):Lib.decodeL s.data.toList=(45,1)/\s.data.toList≠[]:=by
 have h1:=(lR s _).1 h
 have h1:s.data.toList.take 1=[45]:=h1
 generalize s.data.toList=l at h1
 cases l with
 | nil=>cases h1
 | cons b t =>
  have hb:b=45:=by simpa using h1
  subst hb
  exact ⟨Lib.decodeL_ascii 45 t (by decide),List.cons_ne_nil _ _⟩
theorem NU {s:ByteArray} (h:cn s ⟨[226,136,146].toArray⟩=true):Lib.decodeL s.data.toList=(8722,3)/\s.data.toList≠[]:=by
 have h1:=(lR s _).1 h
 have h1:s.data.toList.take 3=[226,136,146]:=h1
 have h2:=List.take_append_drop 3 s.data.toList
 rw [h1] at h2
 rw [<- h2]
 exact ⟨NS _,List.cons_ne_nil _ _⟩
theorem um {s:ByteArray} (h:s.data.toList≠[]):Lib.decodeGo s=Lib.decodeL s.data.toList:=by
 have h0:s.size≠0:=by
  rw [Lib.size_eq]
  exact fun e=>h (List.length_eq_zero_iff.1 e)
 unfold Lib.decodeGo
 rw [if_neg h0,<- Lib.decodeL_drop,List.drop_zero]
theorem NV {s:ByteArray} (h:cn s ⟨[45].toArray⟩=true):Lib.decodeGo s=(45,1)/\1<=s.size/\aY (-1) (aI (s.extract 1 s.size) (s.extract 1 s.size).size 0)=fG (aI s s.size 0):=by
 obtain ⟨hd,hne⟩:=NT h
 refine ⟨(um hne).trans hd,?_,?_⟩
 ·rw [Lib.size_eq];exact List.length_pos_iff.2 hne
 ·rw [uk,oU,lQ,oW hne hd (by omega)]
  rfl
theorem NW {s:ByteArray} (h:cn s ⟨[226,136,146].toArray⟩=true):Lib.decodeGo s=(8722,3)/\3<=s.size/\aY (-1) (aI (s.extract 3 s.size) (s.extract 3 s.size).size 0)=fG (aI s s.size 0):=by
 obtain ⟨hd,hne⟩:=NU h
 refine ⟨(um hne).trans hd,?_,?_⟩
 ·have:=Lib.decodeL_le _ hne
  rw [hd] at this
  rw [Lib.size_eq];exact this
 ·rw [uk,oU,lQ,oW hne hd (by omega)]
  rfl
theorem NX:Lib.encodeRune 45=[45]:=by decide
theorem NY:Lib.encodeRune 8722=[226,136,146]:=by decide
theorem NZ {s:ByteArray} (h1:cn s ⟨[45].toArray⟩=false) (h2:cn s ⟨[226,136,146].toArray⟩=false):aY (-1) (aI s s.size 0)=fG (aI s s.size 0):=by
 rw [uh,oU,oS,lQ]
 have n1:¬ (s.data.toList.take 1=[45]):=fun e=>by rw [(lR s ⟨[45].toArray⟩).2 e] at h1;cases h1
 have n2:¬ (s.data.toList.take 3=[226,136,146]):=fun e=>by rw [(lR s ⟨[226,136,146].toArray⟩).2 e] at h2;cases h2
 generalize s.data.toList=l at n1 n2
 by_cases hne:l=[]
 ·subst hne;rfl
 rw [oW hne (r:=(Lib.decodeL l).1) (w:=(Lib.decodeL l).2) rfl (Lib.decodeL_width l)]
 generalize runesF (l.drop (Lib.decodeL l).2).length (l.drop (Lib.decodeL l).2)=t
 simp only [oT]
 have he:=Lib.encode_decode l hne
 have g1:(Lib.decodeL l).1≠45:=by
  intro e
  rw [e] at he
  have he:=he (by omega)
  rw [show ((45:Nat):Int)=45 from rfl,NX] at he
  apply n1
  have:=congrArg (List.take 1) he
  rw [List.take_take,Nat.min_eq_left (Lib.decodeL_width l)] at this
  exact this.symm
 have g2:(Lib.decodeL l).1≠8722:=by
  intro e
  rw [e] at he
  have he:=he (by omega)
  rw [show ((8722:Nat):Int)=8722 from rfl,NY] at he
  have hl:=congrArg List.length he
  rw [List.length_take] at hl
  have hl:3=min (Lib.decodeL l).2 l.length:=hl
  apply n2
  have:=congrArg (List.take 3) he
  rw [List.take_take,Nat.min_eq_left (by omega)] at this
  exact this.symm
 generalize (Lib.decodeL l).1=r at g1 g2
 have f1:((r:Int)==45)=false:=beq_eq_false_iff_ne.2 (by omega)
 have f2:((r:Int)==8722)=false:=beq_eq_false_iff_ne.2 (by omega)
 rw [f1,f2]
 rfl
end Go.AM.PV
namespace Go.AM.PV
open Go Go.AM Go.AM.SX
def N0:N:=.op (.conv .u8) [vn 0] (.call 153 [vv (bs [9,10,13,32,194,160,227,128,128]),vn 3] (bo .geq [vn 4,vi 0] (.fin 1 [vn 5])))
def N1:N:=.op (.ext 1) [vn 6] (.op (.ext 2) [vn 6] (bo .eql [vn 9,vv (.int .i32 65533)] (.br (vn 10) (.fin 1 [vn 8]) (.fin 0 [vn 5]))))
def N2:N:=.op (.next true) [vn 4] (.op (.ext 0) [vn 6] (.br (vn 7) N1 (.fin 11 [vn 5])))
def N3:N:=bo .geq [vn 6,vi 0] (.fin 1 [vn 7])
def N4:N:=.sw 5 11 (.fin 1 [vv (.bool false)]) .bad
def N5:N:=.sw 5 1 N3 N4
def N6:N:=.op (.range true) [vv (bs [9,10,13,32,194,160,227,128,128])] (.loop [vi 0] N2 N5)
def N7:N:=bo .add [vn 25,vi 1] (.fin 0 [vn 34])
def N8:N:=.bump 11 (.save (bo .sub [vn 24,vn 25] (.op .idxS [vv (bs [9,10,13,32,194,160,227,128,128]),vn 29] (bo .sub [vn 8,vn 25] (.op .idxS [vn 6,vn 31] (bo .neq [vn 30,vn 32] (.self (vv (bs [9,10,13,32,194,160,227,128,128])) (.self (vn 24) (.self (vn 25) (.self (vn 29) (.self (vn 30) (.self (vn 6) (.self (vn 8) (.self (vn 25) (.self (vn 31) (.self (vn 32) (.self (vn 33) (.br (vn 33) (.fin 1000000002 [vn 25]) N7))))))))))))))))))
def N9:N:=.op .lenS [vn 6] (bo .lss [vn 25,vn 26] (.br (vn 27) N8 (.fin 5 [vn 25])))
def Na:N:=bo .lss [vn 28,vi 9] (.br (vn 32) (.fin 1000000003 [vn 9,vn 27,vn 28]) (.fin 0 [vn 9,vn 27,vn 28]))
def Nb:N:=bo .add [vn 10,vi 1] (bo .add [vn 24,vi 1] (bo .add [vn 28,vi 16] (bo .quo [vn 29,vi 8] (bo .gtr [vn 27,vn 30] (.br (vn 31) Na (.fin 0 [vn 9,vn 27,vn 28]))))))
def Nc:N:=bo .sub [vn 24,vn 8] (.fin 1 [vn 27,vn 10,vn 24])
def Nd:N:=.sw 25 5 Nc .bad
def Nf:N:=.sw 25 1000000002 Nb Nd
def Ng:N:=bo .add [vn 21,vi 1] (bo .add [vn 11,vn 23] (.loop [vi 1] N9 Nf))
def Nh:N:=.bump 9 (.save (bo .add [vn 11,vi 1] (.op (.subS true false) [vv (bs [9,10,13,32,194,160,227,128,128]),vn 18] (.op .idxS [vn 6,vn 8] (.call 153 [vn 19,vn 20] (.save (.self (vv (bs [9,10,13,32,194,160,227,128,128])) (.self (vn 11) (.chk 1 (.bin .add) [vn 11,vi 1] (vn 18) (.chk 1 (.subS true false) [vv (bs [9,10,13,32,194,160,227,128,128]),vn 18] (vn 19) (.self (vn 6) (.self (vn 8) (.chk 1 .idxS [vn 6,vn 8] (vn 20) (.self (vn 21) (bo .lss [vn 21,vi 0] (.br (vn 22) (.fin 1 [vv (.int .i64 (-1)),vn 10,vn 11]) Ng))))))))))))))))
def Ni:N:=bo .add [vn 17,vi 1] (.fin 0 [vn 26])
def Nj:N:=.bump 11 (.save (bo .sub [vn 11,vn 17] (.op .idxS [vv (bs [9,10,13,32,194,160,227,128,128]),vn 21] (bo .sub [vn 8,vn 17] (.op .idxS [vn 6,vn 23] (bo .neq [vn 22,vn 24] (.self (vv (bs [9,10,13,32,194,160,227,128,128])) (.self (vn 11) (.self (vn 17) (.self (vn 21) (.self (vn 22) (.self (vn 6) (.self (vn 8) (.self (vn 17) (.self (vn 23) (.self (vn 24) (.self (vn 25) (.br (vn 25) (.fin 1000000002 [vn 17]) Ni))))))))))))))))))
def Nk:N:=.op .lenS [vn 6] (bo .lss [vn 17,vn 18] (.br (vn 19) Nj (.fin 5 [vn 17])))
def Nl:N:=bo .lss [vn 20,vi 9] (.br (vn 24) (.fin 1000000003 [vn 9,vn 19,vn 20]) (.fin 0 [vn 9,vn 19,vn 20]))
def Nn:N:=bo .add [vn 10,vi 1] (bo .add [vn 11,vi 1] (bo .add [vn 20,vi 16] (bo .quo [vn 21,vi 8] (bo .gtr [vn 19,vn 22] (.br (vn 23) Nl (.fin 0 [vn 9,vn 19,vn 20]))))))
def Np:N:=bo .sub [vn 11,vn 8] (.fin 1 [vn 19,vn 10,vn 11])
def Nq:N:=.sw 17 5 Np .bad
def Nr:N:=.sw 17 1000000002 Nn Nq
def Ns:N:=.loop [vi 1] Nk Nr
def Nt:N:=.bump 7 (.save (.op .idxS [vv (bs [9,10,13,32,194,160,227,128,128]),vn 11] (.op .idxS [vn 6,vn 8] (bo .neq [vn 14,vn 15] (.self (vv (bs [9,10,13,32,194,160,227,128,128])) (.self (vn 11) (.self (vn 14) (.self (vn 6) (.self (vn 8) (.self (vn 15) (.self (vn 16) (.br (vn 16) Nh Ns))))))))))))
def Nu:N:=bo .lss [vn 11,vi 9] (.br (vn 12) Nt (.fin 3 [vn 9,vn 10,vn 11]))
def Nv:N:=bo .add [vn 12,vn 16] (bo .sub [vn 18,vn 8] (bo .geq [vn 19,vi 0] (.fin 1 [vn 20])))
def Nw:N:=bo .sub [vn 12,vn 8] (.op (.subS true false) [vv (bs [9,10,13,32,194,160,227,128,128]),vn 13] (.op .runeStr [vn 0] (.op (.extern "internal/bytealg.IndexString") [vn 14,vn 15] (bo .geq [vn 16,vi 0] (.br (vn 17) Nv (.fin 1 [vv (.bool false)]))))))
def Ny:N:=bo .geq [vn 10,vi 0] (.fin 1 [vn 13])
def Nz:N:=.sw 9 3 (.fin 1 [vv (.bool false)]) .bad
def OA:N:=.sw 9 1 Ny Nz
def OB:N:=.sw 9 1000000003 Nw OA
def OC:N:=.op .runeStr [vn 0] (.op .lenS [vn 6] (bo .sub [vn 7,vi 1] (.loop [vi 0,vi 0,vn 8] Nu OB)))
def OD:N:=.call 191 [vn 0] (.op .not [vn 4] (.br (vn 5) (.fin 1 [vv (.bool false)]) OC))
def OE:N:=bo .eql [vn 0,vv (.int .i32 65533)] (.br (vn 3) N6 OD)
def OF:N:=bo .lss [vn 0,vv (.int .i32 128)] (.br (vn 2) N0 OE)
def OG:N:=.op (.ext 1) [vn 5] (.op (.ext 2) [vn 5] (bo .eql [vn 8,vv (.int .i32 65533)] (.br (vn 9) (.fin 1 [vn 7]) (.fin 0 [vn 4]))))
def OH:N:=.op (.next true) [vn 3] (.op (.ext 0) [vn 5] (.br (vn 6) OG (.fin 11 [vn 4])))
def OI:N:=bo .geq [vn 5,vi 0] (.fin 1 [vn 6])
def OJ:N:=.sw 4 11 (.fin 1 [vv (.bool false)]) .bad
def OK:N:=.sw 4 1 OI OJ
def OL:N:=.op (.range true) [vv (bs [9,10,13,32,194,160,227,128,128])] (.loop [vi 0] OH OK)
def OM:N:=bo .add [vn 24,vi 1] (.fin 0 [vn 33])
def ON:N:=.bump 11 (.save (bo .sub [vn 23,vn 24] (.op .idxS [vv (bs [9,10,13,32,194,160,227,128,128]),vn 28] (bo .sub [vn 7,vn 24] (.op .idxS [vn 5,vn 30] (bo .neq [vn 29,vn 31] (.self (vv (bs [9,10,13,32,194,160,227,128,128])) (.self (vn 23) (.self (vn 24) (.self (vn 28) (.self (vn 29) (.self (vn 5) (.self (vn 7) (.self (vn 24) (.self (vn 30) (.self (vn 31) (.self (vn 32) (.br (vn 32) (.fin 1000000002 [vn 24]) OM))))))))))))))))))
def OO:N:=.op .lenS [vn 5] (bo .lss [vn 24,vn 25] (.br (vn 26) ON (.fin 5 [vn 24])))
def OP:N:=bo .lss [vn 27,vi 9] (.br (vn 31) (.fin 1000000003 [vn 8,vn 26,vn 27]) (.fin 0 [vn 8,vn 26,vn 27]))
def OQ:N:=bo .add [vn 9,vi 1] (bo .add [vn 23,vi 1] (bo .add [vn 27,vi 16] (bo .quo [vn 28,vi 8] (bo .gtr [vn 26,vn 29] (.br (vn 30) OP (.fin 0 [vn 8,vn 26,vn 27]))))))
def OS:N:=bo .sub [vn 23,vn 7] (.fin 1 [vn 26,vn 9,vn 23])
def OT:N:=.sw 24 5 OS .bad
def OU:N:=.sw 24 1000000002 OQ OT
def OV:N:=bo .add [vn 20,vi 1] (bo .add [vn 10,vn 22] (.loop [vi 1] OO OU))
def OW:N:=.bump 9 (.save (bo .add [vn 10,vi 1] (.op (.subS true false) [vv (bs [9,10,13,32,194,160,227,128,128]),vn 17] (.op .idxS [vn 5,vn 7] (.call 153 [vn 18,vn 19] (.save (.self (vv (bs [9,10,13,32,194,160,227,128,128])) (.self (vn 10) (.chk 1 (.bin .add) [vn 10,vi 1] (vn 17) (.chk 1 (.subS true false) [vv (bs [9,10,13,32,194,160,227,128,128]),vn 17] (vn 18) (.self (vn 5) (.self (vn 7) (.chk 1 .idxS [vn 5,vn 7] (vn 19) (.self (vn 20) (bo .lss [vn 20,vi 0] (.br (vn 21) (.fin 1 [vv (.int .i64 (-1)),vn 9,vn 10]) OV))))))))))))))))
def OX:N:=bo .add [vn 16,vi 1] (.fin 0 [vn 25])
def OY:N:=.bump 11 (.save (bo .sub [vn 10,vn 16] (.op .idxS [vv (bs [9,10,13,32,194,160,227,128,128]),vn 20] (bo .sub [vn 7,vn 16] (.op .idxS [vn 5,vn 22] (bo .neq [vn 21,vn 23] (.self (vv (bs [9,10,13,32,194,160,227,128,128])) (.self (vn 10) (.self (vn 16) (.self (vn 20) (.self (vn 21) (.self (vn 5) (.self (vn 7) (.self (vn 16) (.self (vn 22) (.self (vn 23) (.self (vn 24) (.br (vn 24) (.fin 1000000002 [vn 16]) OX))))))))))))))))))
def OZ:N:=.op .lenS [vn 5] (bo .lss [vn 16,vn 17] (.br (vn 18) OY (.fin 5 [vn 16])))
def O0:N:=bo .lss [vn 19,vi 9] (.br (vn 23) (.fin 1000000003 [vn 8,vn 18,vn 19]) (.fin 0 [vn 8,vn 18,vn 19]))
def O1:N:=bo .add [vn 9,vi 1] (bo .add [vn 10,vi 1] (bo .add [vn 19,vi 16] (bo .quo [vn 20,vi 8] (bo .gtr [vn 18,vn 21] (.br (vn 22) O0 (.fin 0 [vn 8,vn 18,vn 19]))))))
def O2:N:=bo .sub [vn 10,vn 7] (.fin 1 [vn 18,vn 9,vn 10])
def O3:N:=.sw 16 5 O2 .bad
def O4:N:=.sw 16 1000000002 O1 O3
def O5:N:=.loop [vi 1] OZ O4
def O6:N:=.bump 7 (.save (.op .idxS [vv (bs [9,10,13,32,194,160,227,128,128]),vn 10] (.op .idxS [vn 5,vn 7] (bo .neq [vn 13,vn 14] (.self (vv (bs [9,10,13,32,194,160,227,128,128])) (.self (vn 10) (.self (vn 13) (.self (vn 5) (.self (vn 7) (.self (vn 14) (.self (vn 15) (.br (vn 15) OW O5))))))))))))
def O7:N:=bo .lss [vn 10,vi 9] (.br (vn 11) O6 (.fin 3 [vn 8,vn 9,vn 10]))
def O8:N:=bo .add [vn 11,vn 15] (bo .sub [vn 17,vn 7] (bo .geq [vn 18,vi 0] (.fin 1 [vn 19])))
def O9:N:=bo .sub [vn 11,vn 7] (.op (.subS true false) [vv (bs [9,10,13,32,194,160,227,128,128]),vn 12] (.op .runeStr [vn 0] (.op (.extern "internal/bytealg.IndexString") [vn 13,vn 14] (bo .geq [vn 15,vi 0] (.br (vn 16) O8 (.fin 1 [vv (.bool false)]))))))
def Oa:N:=bo .geq [vn 9,vi 0] (.fin 1 [vn 12])
def Oc:N:=.sw 8 3 (.fin 1 [vv (.bool false)]) .bad
def Od:N:=.sw 8 1 Oa Oc
def Oe:N:=.sw 8 1000000003 O9 Od
def Of:N:=.op .runeStr [vn 0] (.op .lenS [vn 5] (bo .sub [vn 6,vi 1] (.loop [vi 0,vi 0,vn 7] O7 Oe)))
def Og:N:=.call 191 [vn 0] (.op .not [vn 3] (.br (vn 4) (.fin 1 [vv (.bool false)]) Of))
def Oh:N:=bo .eql [vn 0,vv (.int .i32 65533)] (.br (vn 2) OL Og)
def t157:N:=bo .leq [vv (.int .i32 0),vn 0] (.br (vn 1) OF Oh)
def Oi:N:=bo .leq [vn 0,vv (.int .i32 1114111)] (.br (vn 4) (.fin 1 [vv (.bool true)]) (.fin 1 [vv (.bool false)]))
def Oj:N:=bo .lss [vv (.int .i32 57343),vn 0] (.br (vn 3) Oi (.fin 1 [vv (.bool false)]))
def Ok:N:=bo .lss [vn 0,vv (.int .i32 55296)] (.br (vn 2) (.fin 1 [vv (.bool true)]) Oj)
def Ol:N:=bo .leq [vn 0,vv (.int .i32 1114111)] (.br (vn 3) (.fin 1 [vv (.bool true)]) (.fin 1 [vv (.bool false)]))
def Om:N:=bo .lss [vv (.int .i32 57343),vn 0] (.br (vn 2) Ol (.fin 1 [vv (.bool false)]))
def t191:N:=bo .leq [vv (.int .i32 0),vn 0] (.br (vn 1) Ok Om)
def t153:N:=.op (.extern "internal/bytealg.IndexByteString") [vn 0,vn 1] (.fin 1 [vn 2])
end Go.AM.PV
namespace Go.AM.PV
open Go Go.AM Go.AM.SX
structure OpB (A B:Go.AM.St) (e:TypeId) (cs:List Value) (r:Row):Prop where
 nx:B.next=A.next+1
 g:B.g=A.g
 oth:∀ c,c≠A.next->B.h.get c=A.h.get c
 at_:B.h.get A.next=some (.row r)
 own:r.own=true
 opn:r.opn=true
 elem:r.elem=e
 esz:r.esz=1
 grp:r.grp=A.next
 frz:r.frz=0
 size:r.size=cs.length
 ones:cs.all one=true
 cells:∀ i,i < cs.length->r.cells.get i=cs[i]?
theorem OpB.new (A:Go.AM.St) (e:TypeId) (cs:List Value) (n:Nat) (ho:cs.all one=true):∃ r,OpB A (ay A e 1 n cs).2 e cs r:=by
 refine ⟨_,rfl,rfl,fun c hc=>T.get_set_other _ _ hc,T.get_set_same _ _ _,rfl,rfl,rfl,rfl,rfl,rfl,rfl,ho,fun i _=>?_⟩
 exact T.get_ofList _ _
theorem OpB.store {A B:Go.AM.St} {e:TypeId} {cs:List Value} {r:Row} (h:OpB A B e cs r) (hg:A.g.get A.next=none) {off:Nat} {new:List Value} (hl:off+new.length<=cs.length) (ho:new.all one=true) :
  ∃ B' r',B.storeN ⟨A.next,off,none⟩ new=some B'/\OpB A B' e (setFrom cs off new) r':=by
 have hal:B.alone A.next r=B:=by
  unfold Go.AM.St.alone
  rw [h.grp,h.g,hg]
 refine ⟨B.setObj A.next (.row { r with cells:=r.cells.setL off new }),_,?_,h.nx,h.g,fun c hc=>(T.get_set_other _ _ hc).trans (h.oth c hc),T.get_set_same _ _ _,h.own,h.opn,h.elem,h.esz,h.grp,h.frz,by rw [fK];exact h.size,pP _ _ _ h.ones ho,fun i hi=>?_⟩
 ·unfold Go.AM.St.storeN Go.AM.St.row?
  simp only [h.at_]
  rw [if_pos]
  ·simp only [hal]
  ·simp only [h.own,h.frz,Bool.and_eq_true,decide_eq_true_eq,h.size]
   exact ⟨⟨⟨trivial,hl⟩,Nat.zero_le _⟩,ho⟩
 ·rw [fK] at hi
  rw [jd _ _ _ _ hl,T.get_setL]
  split
  ·rfl
  ·exact h.cells i hi
theorem dI (z:Value) (hz:one z=true):∀ n,(zeros [z] n).length=n/\(zeros [z] n).all one=true
 | 0=>⟨rfl,rfl⟩
 | n+1=>⟨by show ((zeros [z] n).length+1)=_;rw [(dI z hz n).1],by show (one z&&(zeros [z] n).all one)=true;rw [hz,(dI z hz n).2];rfl⟩
theorem uo {zs vs ws:List Value} (h:zs.length=vs.length+ws.length):setFrom (setFrom zs 0 vs) vs.length ws=vs++ws:=by
 apply List.ext_getElem?
 intro k
 rw [jd _ _ _ _ (by rw [fK];omega),jd _ _ _ _ (by omega)]
 rcases Nat.lt_or_ge k vs.length with hk | hk
 ·rw [if_neg (by omega),if_pos (by omega),Nat.sub_zero,List.getElem?_append_left hk]
 ·rw [List.getElem?_append_right hk]
  rcases Nat.lt_or_ge k (vs.length+ws.length) with hk2 | hk2
  ·rw [if_pos (by omega)]
  ·rw [if_neg (by omega),if_neg (by omega),List.getElem?_eq_none (by omega),List.getElem?_eq_none (by omega)]
end Go.AM.PV
namespace Go.AM.PV
open Go Go.AM Go.AM.SX
variable (inf:Nat->TypeInfo)
def On:N:=bo .add [vn 5,vi 1] (.fin 0 [vn 3,vn 4,vn 11])
def Oo:N:=.op (.idxA 1) [vn 1,vn 5] (ld 7 (.call 24 [vn 8] (bo .neq [vn 9,vi 0] (.br (vn 10) (.fin 1 [vv (.slice none 0 0),vn 9,vn 5]) On))))
def Oq:N:=bo .lss [vn 5,vn 2] (.br (vn 6) Oo (.fin 2 [vn 3,vn 4,vn 5]))
def Ot:N:=.op .tup [vn 4,vn 5] (.fin 1 [vn 7])
def Ou:N:=.op .tup [vv (.slice none 0 0),vi 10] (.fin 1 [vn 11])
def Ov:N:=.op .tup [vv (.slice none 0 0),vi 16] (.fin 1 [vn 14])
def Ow:N:=.op .tup [vv (.slice none 0 0),vn 20] (.fin 1 [vn 22])
def Ox:N:=.op (.idxA 1) [vn 24,vn 27] (ld 29 (.call 28 [vn 30] (.op (.newSl 41 [.nilIface] [(0,1)]) [vn 31] (.op (.app 41 (inf 41) .nilIface) [vn 26,.sl (.n 32) 1] (bo .add [vn 27,vi 1] (.fin 0 [vn 33,vn 34]))))))
def Oy:N:=bo .lss [vn 27,vn 25] (.br (vn 28) (Ox inf) (.fin 5 [vn 26,vn 27]))
def Oz:N:=.op .tup [vn 27,vi 0] (.fin 1 [vn 29])
def PA:N:=.sw 26 5 Oz .bad
def PB:N:=.op (.subL 1 false true false) [vn 1,vn 16] (.op (.newSl 25 [(.slice none 0 0),(.slice none 0 0)] [(0,1),(1,1)]) [vn 22,vn 19] (.call 27 [.sl (.n 23) 2] (.op .lenL [vn 24] (.loop [vv (.slice none 0 0),vi 0] (Oy inf) PA))))
def PC:N:=.op .lenL [vn 1] (.op .lenS [vn 8] (bo .sub [vn 14,vn 15] (.op (.subL 1 true false false) [vn 1,vn 16] (.call 26 [vn 0,vn 17] (.op (.ext 0) [vn 18] (.op (.ext 1) [vn 18] (bo .neq [vn 20,vi 0] (.br (vn 21) Ow (PB inf)))))))))
def PD:N:=.op .lenL [vn 1] (.op .lenS [vn 8] (bo .lss [vn 11,vn 12] (.br (vn 13) Ov (PC inf))))
def uq:N:=.call 25 [vn 0] (.op (.ext 0) [vn 7] (.op (.ext 1) [vn 7] (.op .not [vn 9] (.br (vn 10) Ou (PD inf)))))
def PF:N:=.sw 3 2 (uq inf) .bad
def PG:N:=.sw 3 1 Ot (PF inf)
def t13:N:=.op .lenL [vn 1] (.loop [vv (.slice none 0 0),vi 0,vi 0] Oq (PG inf))
def t18:N:=.call 11 [vn 0] (.call 15 [vn 2,vn 1] (.fin 1 [vn 3]))
def PH:N:=bo .add [vn 9,vi 1] (.fin 0 [vn 7,vn 8,vn 21])
def PI:N:=bo .neq [vn 16,vi 1] (.br (vn 20) (.fin 1 [vv (.bool false),vn 8,vn 9]) PH)
def PJ:N:=bo .add [vn 8,vi 1] (bo .add [vn 9,vi 1] (.fin 0 [vn 7,vn 26,vn 27]))
def PK:N:=bo .add [vn 9,vi 1] (.fin 0 [vn 7,vn 8,vn 26])
def PL:N:=.op (.build [(.int .i64 0),(.int .i64 0),(bs []),(.slice none 0 0)] [(0,1),(1,1)]) [vi 3,vi 1] (.op (.newSl 35 [(.int .i64 0),(.int .i64 0),(bs []),(.slice none 0 0)] [(0,4)]) [vn 23] (.call 18 [vn 15,.sl (.n 24) 1] (.br (vn 25) PJ PK)))
def PM:N:=.op .lenL [vn 15] (bo .neq [vn 21,vi 1] (.br (vn 22) (.fin 1 [vv (.bool false),vn 8,vn 9]) PL))
def PN:N:=bo .neq [vn 16,vi 0] (.br (vn 20) (.fin 1 [vv (.bool false),vn 8,vn 9]) PM)
def PO:N:=.op (.idxA 1) [.sl (.n 6) 6,vn 9] (ld 11 (.op (.newSl 41 [.nilIface] [(0,1)]) [vn 5] (.call 13 [vn 12,.sl (.n 13) 1] (.op (.ext 0) [vn 14] (.op (.ext 1) [vn 14] (.call 20 [vn 5] (.call 16 [vn 17] (.op .not [vn 18] (.br (vn 19) PI PN)))))))))
def PP:N:=bo .lss [vn 9,vi 6] (.br (vn 10) PO (.fin 2 [vn 7,vn 8,vn 9]))
def PQ:N:=.call 20 [vn 5] (.call 16 [vn 12] (.op .not [vn 13] (.fin 1 [vn 14])))
def PS:N:=bo .eql [vn 9,vi 1] (.br (vn 11) (.fin 1 [vv (.bool true)]) PQ)
def PT:N:=.sw 7 2 PS .bad
def PU:N:=.sw 7 1 (.fin 1 [vn 8]) PT
def PW:N:=.op (.load (some 4)) [vn 1] (.call 19 [vn 4] (.op (.newSl 9 [(bs []),(bs []),(bs []),(bs []),(bs []),(bs [])] [(0,1),(1,1),(2,1),(3,1),(4,1),(5,1)]) [vv (bs [105,110,116,63]),vv (bs [115,116,114,63]),vv (bs [98,111,111,108,63]),vv (bs [108,105,115,116,63]),vv (bs [113,117,111,116,63]),vv (bs [98,111,120,63])] (.loop [vv (.bool false),vi 0,vi 0] PP PU)))
def t8:N:=.op (.box 35) [vn 0] (.call 10 [] (.op .not [vn 2] (.br (vn 3) (.fin 1 [vv (.bool false)]) PW)))
def PX:N:=.self (vn 3) (.self (vn 9) (.chk 0 .idxS [vn 3,vn 9] (vn 12) (.self (vn 1) (.self (vn 9) (.chk 0 (.idxA 1) [vn 1,vn 9] (vn 13) (.chk 0 (.load none) [vn 13] (vn 14) (.chk 1 .not [vn 15] (vn 16) (.self (vn 16) (.self (vv (.bool true)) (.fin 1 [vv (.slice none 0 0),vi 17,vn 9]))))))))))
def PY:N:=bo .sub [vn 9,vi 1] (.fin 0 [vn 7,vn 8,vn 26])
def PZ:N:=.chk 0 (.idxA 1) [vn 1,vn 9] (vn 13) (.chk 0 (.load none) [vn 13] (vn 14) (.chk 1 .not [vn 15] (vn 16) (.self (vn 16) (.self (vn 9) (.chk 1 (.bin .eql) [vn 9,vi 0] (vn 17) (.self (vn 17) (.self (vn 0) (.chk 1 (.bin .eql) [vn 0,vv (bs [97,112,112,101,110,100])] (vn 18) (.self (vn 18) (.self (vn 18) (.self (vn 1) (.chk 1 (.idxA 1) [vn 1,vi 0] (vn 19) (.chk 1 (.load none) [vn 19] (vn 20) (.self (vn 1) (.self (vn 1) (.chk 2 (.idxA 1) [vn 1,vi 1] (vn 22) (.chk 1 (.idxA 1) [vn 1,vi 1] (vn 22) (.chk 2 (.load none) [vn 22] (vn 23) (.chk 1 (.load none) [vn 22] (vn 23) (.chk 3 (.bin .neq) [vn 21,vn 24] (vn 25) (.self (vn 25) (.self (vn 25) (.br (vn 25) (.fin 1 [vv (.slice none 0 0),vi 17,vn 9]) PY)))))))))))))))))))))))
def P0:N:=.op (.idxA 1) [vn 1,vi 0] (ld 19 (.call 42 [vn 20] (.save (.op (.idxA 1) [vn 1,vi 1] (ld 22 (.call 42 [vn 23] (.save (bo .neq [vn 21,vn 24] (.self (vn 3) (.self (vn 9) (.chk 0 .idxS [vn 3,vn 9] (vn 12) (.self (vn 1) (.self (vn 9) PZ)))))))))))))
def P1:N:=.self (vn 3) (.self (vn 9) (.chk 0 .idxS [vn 3,vn 9] (vn 12) (.self (vn 1) (.self (vn 9) (.chk 0 (.idxA 1) [vn 1,vn 9] (vn 13) (.chk 0 (.load none) [vn 13] (vn 14) (.chk 1 .not [vn 15] (vn 16) (.self (vn 16) (.self (vn 9) (.chk 1 (.bin .eql) [vn 9,vi 0] (vn 17) (.self (vn 17) (.self (vn 0) (.chk 1 (.bin .eql) [vn 0,vv (bs [97,112,112,101,110,100])] (vn 18) (.self (vn 18) (.self (vn 18) (.self (vv (.bool false)) (.self (vv (.bool false)) (bo .sub [vn 9,vi 1] (.fin 0 [vn 7,vn 8,vn 19])))))))))))))))))))
def P2:N:=bo .eql [vn 0,vv (bs [97,112,112,101,110,100])] (.br (vn 18) P0 P1)
def P3:N:=.self (vn 3) (.self (vn 9) (.chk 0 .idxS [vn 3,vn 9] (vn 12) (.self (vn 1) (.self (vn 9) (.chk 0 (.idxA 1) [vn 1,vn 9] (vn 13) (.chk 0 (.load none) [vn 13] (vn 14) (.chk 1 .not [vn 15] (vn 16) (.self (vn 16) (.self (vn 9) (.chk 1 (.bin .eql) [vn 9,vi 0] (vn 17) (.self (vn 17) (.self (vv (.bool false)) (.self (vv (.bool false)) (.self (vv (.bool false)) (.self (vv (.bool false)) (bo .sub [vn 9,vi 1] (.fin 0 [vn 7,vn 8,vn 18])))))))))))))))))
def P4:N:=bo .eql [vn 9,vi 0] (.br (vn 17) P2 P3)
def P5:N:=.bump 28 (.save (.op .idxS [vn 3,vn 9] (.op (.idxA 1) [vn 1,vn 9] (ld 13 (.call 41 [vn 12,vn 14] (.save (.op .not [vn 15] (.br (vn 16) PX P4))))))))
def P6:N:=bo .geq [vn 9,vi 0] (.br (vn 10) P5 (.fin 2 [vn 7,vn 8,vn 9]))
def P7:N:=.op .tup [vn 8,vn 9] (.fin 1 [vn 11])
def P8:N:=.op .tup [vv (.slice none 0 0),vn 20] (.fin 1 [vn 22])
def P9:N:=bo .add [vn 25,vi 1] (.fin 0 [vn 23,vn 24,vn 31])
def Pa:N:=.op (.idxA 1) [vn 19,vn 25] (ld 27 (.call 24 [vn 28] (bo .neq [vn 29,vi 0] (.br (vn 30) (.fin 1 [vv (.slice none 0 0),vi 11,vn 25]) P9))))
def Pb:N:=bo .lss [vn 25,vn 22] (.br (vn 26) Pa (.fin 4 [vn 23,vn 24,vn 25]))
def Pc:N:=.op .tup [vn 24,vn 25] (.fin 1 [vn 27])
def Pd:N:=.op .tup [vn 19,vi 0] (.fin 1 [vn 27])
def Pe:N:=.sw 23 4 Pd .bad
def Pf:N:=.sw 23 1 Pc Pe
def Ph:N:=.op .lenL [vn 19] (.loop [vn 8,vn 9,vi 0] Pb Pf)
def Pi:N:=.call 45 [vn 0,vn 1] (.op (.ext 0) [vn 18] (.op (.ext 1) [vn 18] (bo .neq [vn 20,vi 0] (.br (vn 21) P8 Ph))))
def Pj:N:=.op .tup [vv (.slice none 0 0),vn 15] (.fin 1 [vn 19])
def Pk:N:=bo .add [vn 22,vi 1] (.fin 0 [vn 20,vn 21,vn 28])
def Pm:N:=.op (.idxA 1) [vn 14,vn 22] (ld 24 (.call 24 [vn 25] (bo .neq [vn 26,vi 0] (.br (vn 27) (.fin 1 [vv (.slice none 0 0),vi 11,vn 22]) Pk))))
def Pn:N:=bo .lss [vn 22,vn 19] (.br (vn 23) Pm (.fin 4 [vn 20,vn 21,vn 22]))
def Po:N:=.op .tup [vn 21,vn 22] (.fin 1 [vn 24])
def Pp:N:=.op .tup [vn 14,vi 0] (.fin 1 [vn 24])
def Pq:N:=.sw 20 4 Pp .bad
def Pr:N:=.sw 20 1 Po Pq
def Ps:N:=.op .lenL [vn 14] (.loop [vn 8,vn 9,vi 0] Pn Pr)
def Pt:N:=bo .neq [vn 15,vi 0] (.br (vn 18) Pj Ps)
def Pu:N:=bo .eql [vn 15,vi 0] (.br (vn 17) Pi Pt)
def Pv:N:=.op .tup [vv (.slice none 0 0),vn 15] (.fin 1 [vn 18])
def Pw:N:=bo .add [vn 21,vi 1] (.fin 0 [vn 19,vn 20,vn 27])
def Px:N:=.op (.idxA 1) [vn 14,vn 21] (ld 23 (.call 24 [vn 24] (bo .neq [vn 25,vi 0] (.br (vn 26) (.fin 1 [vv (.slice none 0 0),vi 11,vn 21]) Pw))))
def Py:N:=bo .lss [vn 21,vn 18] (.br (vn 22) Px (.fin 4 [vn 19,vn 20,vn 21]))
def Pz:N:=.op .tup [vn 20,vn 21] (.fin 1 [vn 23])
def QA:N:=.op .tup [vn 14,vi 0] (.fin 1 [vn 23])
def QB:N:=.sw 19 4 QA .bad
def QC:N:=.sw 19 1 Pz QB
def QD:N:=.op .lenL [vn 14] (.loop [vn 8,vn 9,vi 0] Py QC)
def QE:N:=bo .neq [vn 15,vi 0] (.br (vn 17) Pv QD)
def QF:N:=.call 44 [vn 0,vn 1] (.op (.ext 0) [vn 13] (.op (.ext 1) [vn 13] (.op (.eqn (.slice 41) false) [vn 14,vv (.slice none 0 0)] (.br (vn 16) Pu QE))))
def QG:N:=.op .tup [vv (.slice none 0 0),vn 16] (.fin 1 [vn 18])
def QH:N:=bo .add [vn 21,vi 1] (.fin 0 [vn 19,vn 20,vn 27])
def QI:N:=.op (.idxA 1) [vn 15,vn 21] (ld 23 (.call 24 [vn 24] (bo .neq [vn 25,vi 0] (.br (vn 26) (.fin 1 [vv (.slice none 0 0),vi 11,vn 21]) QH))))
def QJ:N:=bo .lss [vn 21,vn 18] (.br (vn 22) QI (.fin 4 [vn 19,vn 20,vn 21]))
def QK:N:=.op .tup [vn 20,vn 21] (.fin 1 [vn 23])
def QL:N:=.op .tup [vn 15,vi 0] (.fin 1 [vn 23])
def QM:N:=.sw 19 4 QL .bad
def QN:N:=.sw 19 1 QK QM
def QO:N:=.op .lenL [vn 15] (.loop [vn 8,vn 9,vi 0] QJ QN)
def QP:N:=.call 45 [vn 0,vn 1] (.op (.ext 0) [vn 14] (.op (.ext 1) [vn 14] (bo .neq [vn 16,vi 0] (.br (vn 17) QG QO))))
def QQ:N:=bo .add [vn 17,vi 1] (.fin 0 [vn 15,vn 16,vn 23])
def QR:N:=.op (.idxA 1) [vn 11,vn 17] (ld 19 (.call 24 [vn 20] (bo .neq [vn 21,vi 0] (.br (vn 22) (.fin 1 [vv (.slice none 0 0),vi 11,vn 17]) QQ))))
def QS:N:=bo .lss [vn 17,vn 14] (.br (vn 18) QR (.fin 4 [vn 15,vn 16,vn 17]))
def QT:N:=.op .tup [vn 16,vn 17] (.fin 1 [vn 19])
def QU:N:=.op .tup [vn 11,vi 0] (.fin 1 [vn 19])
def QV:N:=.sw 15 4 QU .bad
def QW:N:=.sw 15 1 QT QV
def QX:N:=.op .lenL [vn 11] (.loop [vn 8,vn 9,vi 0] QS QW)
def QY:N:=.op (.eqn (.slice 41) false) [vn 11,vv (.slice none 0 0)] (.br (vn 13) QP QX)
def QZ:N:=.call 43 [vn 0,vn 1] (.op (.eqn (.slice 41) false) [vn 11,vv (.slice none 0 0)] (.br (vn 12) QF QY))
def Q0:N:=.sw 7 2 QZ .bad
def Q1:N:=.sw 7 1 P7 Q0
def t26:N:=.call 25 [vn 0] (.op (.ext 0) [vn 2] (.op (.ext 1) [vn 2] (.op .lenS [vn 3] (bo .sub [vn 5,vi 1] (.loop [vv (.slice none 0 0),vi 0,vn 6] P6 Q1)))))
def Q2:N:=bo .eql [vn 2,vv (.int .u8 108)] (.fin 1 [vn 6])
def Q3:N:=bo .eql [vn 2,vv (.int .u8 115)] (.br (vn 5) (.fin 1 [vv (.bool true)]) Q2)
def Q4:N:=bo .eql [vn 2,vv (.int .u8 113)] (.fin 1 [vn 8])
def Q5:N:=bo .eql [vn 2,vv (.int .u8 108)] (.br (vn 7) (.fin 1 [vv (.bool true)]) Q4)
def Q6:N:=bo .eql [vn 2,vv (.int .u8 115)] (.br (vn 6) (.fin 1 [vv (.bool true)]) Q5)
def Q7:N:=bo .eql [vn 2,vn 0] (.fin 1 [vn 6])
def Q8:N:=bo .eql [vn 0,vv (.int .u8 97)] (.br (vn 5) Q6 Q7)
def Q9:N:=bo .eql [vn 0,vv (.int .u8 101)] (.br (vn 4) Q3 Q8)
def t41:N:=.call 42 [vn 1] (bo .eql [vn 0,vv (.int .u8 120)] (.br (vn 3) (.fin 1 [vv (.bool true)]) Q9))
def Qa:N:=.op (.ta 76 (.agg #[(.slice none 0 0)]) true) [vn 0] (.op (.ext 1) [vn 13] (.op (.ext 0) [vn 13] (.br (vn 14) (.fin 1 [vv (.int .u8 113)]) (.fin 1 [vv (.int .u8 111)]))))
def Qb:N:=.op (.ta 52 (.agg #[(.slice none 0 0)]) true) [vn 0] (.op (.ext 1) [vn 10] (.op (.ext 0) [vn 10] (.br (vn 11) (.fin 1 [vv (.int .u8 108)]) Qa)))
def Qc:N:=.op (.ta 49 (.agg #[(.bool false)]) true) [vn 0] (.op (.ext 1) [vn 7] (.op (.ext 0) [vn 7] (.br (vn 8) (.fin 1 [vv (.int .u8 98)]) Qb)))
def Qd:N:=.op (.ta 72 (.agg #[(bs [])]) true) [vn 0] (.op (.ext 1) [vn 4] (.op (.ext 0) [vn 4] (.br (vn 5) (.fin 1 [vv (.int .u8 115)]) Qc)))
def t42:N:=.op (.ta 45 (.agg #[(.int .i64 0)]) true) [vn 0] (.op (.ext 1) [vn 1] (.op (.ext 0) [vn 1] (.br (vn 2) (.fin 1 [vv (.int .u8 110)]) Qd)))
def t72:N:=.op (.build [(.bool false)] [(0,1)]) [vn 0] (.op (.newSl 41 [.nilIface] [(0,1)]) [.ifc 49 (.n 1)] (.fin 1 [.sl (.n 2) 1]))
def Qe:N:=bo .add [vn 3,vi 1] (.fin 0 [vn 8,vn 10])
def Qf:N:=.op (.idxA 1) [vn 0,vn 3] (ld 5 (.op .lenL [vn 6] (bo .add [vn 2,vn 7] (bo .lss [vn 8,vi 0] (.br (vn 9) .bad Qe)))))
def Qg:N:=bo .lss [vn 3,vn 1] (.br (vn 4) Qf (.fin 2 [vn 2,vn 3]))
def Qh:N:=.op (.idxA 1) [vn 0,vn 16] (ld 18 (.op (.app 41 (inf 41) .nilIface) [vn 15,vn 19] (bo .add [vn 16,vi 1] (.fin 0 [vn 20,vn 21]))))
def Qi:N:=bo .lss [vn 16,vn 14] (.br (vn 17) (Qh inf) (.fin 4 [vn 15,vn 16]))
def Qj:N:=.sw 15 4 (.fin 1 [vn 16]) .bad
def Qk:N:=.op .capL [vv (.slice none 0 0)] (.op (.subL 1 false true false) [vv (.slice none 0 0),vn 10] (.op (.appZ 41 (inf 41) .nilIface) [vn 11,vn 8] (.op (.subL 1 false true false) [vn 12,vi 0] (.op .lenL [vn 0] (.loop [vn 13,vi 0] (Qi inf) Qj)))))
def Ql:N:=.op (.idxA 1) [vn 0,vn 12] (ld 14 (.op (.app 41 (inf 41) .nilIface) [vn 11,vn 15] (bo .add [vn 12,vi 1] (.fin 0 [vn 16,vn 17]))))
def Qm:N:=bo .lss [vn 12,vn 10] (.br (vn 13) (Ql inf) (.fin 4 [vn 11,vn 12]))
def Qn:N:=.sw 11 4 (.fin 1 [vn 12]) .bad
def Qo:N:=.op .lenL [vn 0] (.loop [vv (.slice none 0 0),vi 0] (Qm inf) Qn)
def Qp:N:=.op .capL [vv (.slice none 0 0)] (bo .sub [vn 6,vi 0] (bo .sub [vn 3,vn 7] (bo .gtr [vn 8,vi 0] (.br (vn 9) (Qk inf) (Qo inf)))))
def Qq:N:=bo .lss [vn 3,vi 0] (.br (vn 5) .bad (Qp inf))
def Qr:N:=.sw 2 2 (Qq inf) .bad
def t27:N:=.op .lenL [vn 0] (.loop [vi 0,vi 0] Qg (Qr inf))
def Qs:N:=.bump 8 (.save (.op (.idxA 1) [vn 1,vi 0] (ld 4 (.op (.idxA 1) [vn 1,vi 0] (ld 6 (.opAt 3 6 (.newSl 41 [.nilIface,.nilIface] [(0,1),(1,1)]) [vn 5,vn 7] (.self (vn 1) (.chk 0 (.idxA 1) [vn 1,vi 0] (vn 4) (.chk 0 (.load none) [vn 4] (vn 5) (.self (vn 1) (.chk 0 (.idxA 1) [vn 1,vi 0] (vn 6) (.chk 0 (.load none) [vn 6] (vn 7) (.self (.sl (.n 8) 2) (.fin 1 [.sl (.n 8) 2]))))))))))))))
def Qt:N:=.op (.newSl 41 [] []) [] (.fin 1 [.sl (.n 4) 0])
def Qu:N:=.bump 8 (.save (.op (.idxA 1) [vn 1,vi 1] (ld 6 (.op (.idxA 1) [vn 1,vi 0] (ld 8 (.opAt 5 6 (.newSl 41 [.nilIface,.nilIface] [(0,1),(1,1)]) [vn 7,vn 9] (.self (vn 1) (.chk 0 (.idxA 1) [vn 1,vi 1] (vn 6) (.chk 0 (.load none) [vn 6] (vn 7) (.self (vn 1) (.chk 0 (.idxA 1) [vn 1,vi 0] (vn 8) (.chk 0 (.load none) [vn 8] (vn 9) (.self (.sl (.n 10) 2) (.fin 1 [.sl (.n 10) 2]))))))))))))))
def Qv:N:=.bump 11 (.save (.op (.idxA 1) [vn 1,vi 0] (ld 7 (.op (.idxA 1) [vn 1,vi 1] (ld 9 (.op (.idxA 1) [vn 1,vi 0] (ld 11 (.opAt 6 9 (.newSl 41 [.nilIface,.nilIface,.nilIface] [(0,1),(1,1),(2,1)]) [vn 8,vn 10,vn 12] (.self (vn 1) (.chk 0 (.idxA 1) [vn 1,vi 0] (vn 7) (.chk 0 (.load none) [vn 7] (vn 8) (.self (vn 1) (.chk 0 (.idxA 1) [vn 1,vi 1] (vn 9) (.chk 0 (.load none) [vn 9] (vn 10) (.self (vn 1) (.chk 0 (.idxA 1) [vn 1,vi 0] (vn 11) (.chk 0 (.load none) [vn 11] (vn 12) (.self (.sl (.n 13) 3) (.fin 1 [.sl (.n 13) 3])))))))))))))))))))
def Qw:N:=.bump 11 (.save (.op (.idxA 1) [vn 1,vi 1] (ld 8 (.op (.idxA 1) [vn 1,vi 2] (ld 10 (.op (.idxA 1) [vn 1,vi 0] (ld 12 (.opAt 7 9 (.newSl 41 [.nilIface,.nilIface,.nilIface] [(0,1),(1,1),(2,1)]) [vn 9,vn 11,vn 13] (.self (vn 1) (.chk 0 (.idxA 1) [vn 1,vi 1] (vn 8) (.chk 0 (.load none) [vn 8] (vn 9) (.self (vn 1) (.chk 0 (.idxA 1) [vn 1,vi 2] (vn 10) (.chk 0 (.load none) [vn 10] (vn 11) (.self (vn 1) (.chk 0 (.idxA 1) [vn 1,vi 0] (vn 12) (.chk 0 (.load none) [vn 12] (vn 13) (.self (.sl (.n 14) 3) (.fin 1 [.sl (.n 14) 3])))))))))))))))))))
def Qx:N:=.op (.idxA 1) [vn 1,vi 1] (ld 8 (.op (.newSl 41 [.nilIface] [(0,1)]) [vn 9] (.fin 1 [.sl (.n 10) 1])))
def Qy:N:=.bump 11 (.save (.op (.idxA 1) [vn 1,vi 1] (ld 10 (.op (.idxA 1) [vn 1,vi 0] (ld 12 (.op (.idxA 1) [vn 1,vi 1] (ld 14 (.opAt 9 9 (.newSl 41 [.nilIface,.nilIface,.nilIface] [(0,1),(1,1),(2,1)]) [vn 11,vn 13,vn 15] (.self (vn 1) (.chk 0 (.idxA 1) [vn 1,vi 1] (vn 10) (.chk 0 (.load none) [vn 10] (vn 11) (.self (vn 1) (.chk 0 (.idxA 1) [vn 1,vi 0] (vn 12) (.chk 0 (.load none) [vn 12] (vn 13) (.self (vn 1) (.chk 0 (.idxA 1) [vn 1,vi 1] (vn 14) (.chk 0 (.load none) [vn 14] (vn 15) (.self (.sl (.n 16) 3) (.fin 1 [.sl (.n 16) 3])))))))))))))))))))
def Qz:N:=.op (.idxA 1) [vn 1,vi 0] (ld 10 (.call 42 [vn 11] (bo .eql [vn 12,vv (.int .u8 110)] (.call 72 [vn 13] (.fin 1 [vn 14])))))
def RA:N:=.op (.idxA 1) [vn 1,vi 0] (ld 11 (.call 42 [vn 12] (bo .eql [vn 13,vv (.int .u8 115)] (.call 72 [vn 14] (.fin 1 [vn 15])))))
def RD:N:=.op (.idxA 1) [vn 1,vi 0] (ld 12 (.call 42 [vn 13] (bo .eql [vn 14,vv (.int .u8 98)] (.call 72 [vn 15] (.fin 1 [vn 16])))))
def RE:N:=.op (.idxA 1) [vn 1,vi 0] (ld 13 (.call 42 [vn 14] (bo .eql [vn 15,vv (.int .u8 108)] (.call 72 [vn 16] (.fin 1 [vn 17])))))
def RF:N:=.op (.idxA 1) [vn 1,vi 0] (ld 14 (.call 42 [vn 15] (bo .eql [vn 16,vv (.int .u8 113)] (.call 72 [vn 17] (.fin 1 [vn 18])))))
def RG:N:=.op (.idxA 1) [vn 1,vi 0] (ld 15 (.call 42 [vn 16] (bo .eql [vn 17,vv (.int .u8 111)] (.call 72 [vn 18] (.fin 1 [vn 19])))))
def RH:N:=bo .eql [vn 0,vv (bs [98,111,120,63])] (.br (vn 14) RG (.fin 1 [vv (.slice none 0 0)]))
def RI:N:=bo .eql [vn 0,vv (bs [113,117,111,116,63])] (.br (vn 13) RF RH)
def RJ:N:=bo .eql [vn 0,vv (bs [108,105,115,116,63])] (.br (vn 12) RE RI)
def RK:N:=bo .eql [vn 0,vv (bs [98,111,111,108,63])] (.br (vn 11) RD RJ)
def RL:N:=bo .eql [vn 0,vv (bs [115,116,114,63])] (.br (vn 10) RA RK)
def RM:N:=bo .eql [vn 0,vv (bs [105,110,116,63])] (.br (vn 9) Qz RL)
def RN:N:=bo .eql [vn 0,vv (bs [116,117,99,107])] (.br (vn 8) Qy RM)
def RO:N:=bo .eql [vn 0,vv (bs [110,105,112])] (.br (vn 7) Qx RN)
def RP:N:=bo .eql [vn 0,vv (bs [114,111,116])] (.br (vn 6) Qw RO)
def RQ:N:=bo .eql [vn 0,vv (bs [111,118,101,114])] (.br (vn 5) Qv RP)
def RR:N:=bo .eql [vn 0,vv (bs [115,119,97,112])] (.br (vn 4) Qu RQ)
def RT:N:=bo .eql [vn 0,vv (bs [100,114,111,112])] (.br (vn 3) Qt RR)
def t43:N:=bo .eql [vn 0,vv (bs [100,117,112])] (.br (vn 2) Qs RT)
end Go.AM.PV
namespace Go.AM.PV
open Go Go.AM Go.AM.SX
theorem dJ {A:Go.AM.St} {p:Addr} {v:Value} (h:A.loadN p 1=some [v]):aB (.load none) [.pointer (some p)] A=some (v,A):=by
 show (match A.loadN p 1 with
  | some [v]=>some (v,A)
  | _=>none)=_
 rw [h]
theorem bw {a b:Nat} {A:Go.AM.St} (h:a+b < 4611686018427387904):aB (.bin .add) [goInt a,goInt b] A=some (goInt ((a+b:Nat):Int),A):=by
 show some (Value.int .i64 (aV .i64 ((a:Int)+b)),A)=_
 rw [pH (by omega) (by omega)]
 rfl
theorem iC {a:Nat} {A:Go.AM.St}:aB (.bin .lss) [goInt a,.int .i64 0] A=some (.bool false,A):=by
 show some (Value.bool (decide ((a:Int) < 0)),A)=_
 rw [decide_eq_false (by omega)]
theorem sub_zero {n:Nat} {A:Go.AM.St} (h:n < 4611686018427387904):aB (.bin .sub) [goInt n,goInt ((0:Nat):Int)] A=some (goInt (n:Int),A):=by
 show some (Value.int .i64 (aV .i64 ((n:Int) - ((0:Nat):Int))),A)=_
 rw [show (n:Int) - ((0:Nat):Int)=n by omega,pH (by omega) (by omega)]
 rfl
theorem RU {i:TypeInfo} {n:Nat} {A:Go.AM.St} (h1:i.size=1) (h2:i.bytes=16) (h0:0 < n) (hn:n<=4194304) :
  aB (.appZ 41 i .nilIface) [.slice none 0 0,goInt n] A=some (ay A 41 1 n (zeros [.nilIface] n)):=by
 have hz:=dI .nilIface rfl n
 show (if 0<=(n:Int)/\(n:Int)<=4294967296/\(Value.cells .nilIface).size=i.size then (if i.size≠0/\(zeros [Value.nilIface] ((n:Int).toNat)).length=(n:Int).toNat * i.size/\(0+(n:Int).toNat) * i.bytes<=140737488355328/\0+(n:Int).toNat<=4611686018427387904/\(Value.cells .nilIface).size=i.size/\(zeros [Value.nilIface] ((n:Int).toNat)).all one=true then
   if 0+(n:Int).toNat<=0 then b8 A none i.size 0 (n:Int).toNat 0 (zeros [Value.nilIface] ((n:Int).toNat)) else bI A 41 i none 0 (n:Int).toNat (zeros [Value.nilIface] ((n:Int).toNat))
  else none) else none)=_
 rw [if_pos ⟨by omega,by omega,by rw [h1];rfl⟩]
 rw [Int.toNat_natCast,if_pos ⟨by omega,by rw [h1,hz.1];omega,by rw [h2];omega,by omega,by rw [h1];rfl,hz.2⟩,if_neg (by omega)]
 show some (ay A 41 i.size n _)=_
 rw [h1]
theorem ur {A B:Go.AM.St} {e:TypeId} {cs:List Value} {r:Row} {n:Nat} (h:OpB A B e cs r):aB (.subL 1 false true false) [.slice (some ⟨A.next,0,none⟩) n n,.int .i64 0] B=some (.slice (some ⟨A.next,0,none⟩) 0 n,B):=by
 have hr:B.row? A.next=some r:=by
  unfold Go.AM.St.row?
  rw [h.at_]
 have hb:bound (.int .i64 0) n=some 0:=by
  unfold bound
  simp
 simp only [aB,hr,aL,List.head?,List.tail,Bool.false_eq_true,if_false,if_true,hb,h.opn,h.esz]
 rfl
theorem uu {A B:Go.AM.St} {e:TypeId} {cs:List Value} {r:Row} {i:TypeInfo} {z w:Value} {n off m:Nat} {new:List Value} (h1:i.size=1) (h2:i.bytes=16) (h:OpB A B e cs r) (hg:A.g.get A.next=none) (hcs:cs.length=n) (hn:n<=4194304) (hm:off+m<=n)
  (hw:cz B 1 w=some (m,new)) (hl:new.length=m) (ho:new.all one=true) (hz:z.cells.size=1) :
  ∃ B' r',aB (.app e i z) [.slice (some ⟨A.next,0,none⟩) off n,w] B=some (.slice (some ⟨A.next,0,none⟩) (off+m) n,B')/\OpB A B' e (setFrom cs off new) r':=by
 have hs:∀ x,b8 B (some ⟨A.next,0,none⟩) i.size off m n new=some x->aB (.app e i z) [.slice (some ⟨A.next,0,none⟩) off n,w] B=some x:=by
  intro x hx
  simp only [aB]
  rw [h1,hw]
  show (if (1:Nat)≠0/\new.length=m * 1/\(off+m) * i.bytes<=140737488355328/\off+m<=4611686018427387904/\z.cells.size=1/\new.all one=true then if off+m<=n then b8 B _ 1 off m n new else bI B e i _ off m new else none)=_
  rw [if_pos ⟨by omega,by omega,by rw [h2];omega,by omega,hz,ho⟩,if_pos hm,<- h1]
  exact hx
 cases m with
 | zero =>
  have hnil:new=[]:=List.length_eq_zero_iff.1 hl
  subst hnil
  exact ⟨B,r,hs _ rfl,h⟩
 | succ m =>
  obtain ⟨B',r',k1,k2⟩:=h.store hg (off:=off) (new:=new) (by omega) ho
  refine ⟨B',r',hs _ ?_,k2⟩
  unfold b8
  simp only [aJ,h1,Nat.zero_add,Nat.mul_one]
  rw [k1]
theorem uv {A:Go.AM.St} {i:TypeInfo} {w:Value} {new:List Value} (h1:i.size=1) (_h2:i.bytes=16) (hw:cz A 1 w=some (0,new)) (hl:new.length=0) (ho:new.all one=true) :
  aB (.app 41 i .nilIface) [.slice none 0 0,w] A=some (.slice none 0 0,A):=by
 simp only [aB]
 rw [h1,hw]
 show (if (1:Nat)≠0/\new.length=0 * 1/\(0+0) * i.bytes<=140737488355328/\0+0<=4611686018427387904/\_/\new.all one=true then if 0+0<=0 then b8 A none 1 0 0 0 new else bI A 41 i none 0 0 new else none)=_
 rw [if_pos ⟨by omega,by omega,by omega,by omega,rfl,ho⟩]
 rfl
structure SlP (q:P) (n:Nat) (l:List P):Prop where
 new:iK 1 q=some (n,l)
 val:∀ {β:List Nat} {S:Nat->Prop} {h:T AObj} {w:Value},Rep β S h w q->∃ b c,w=.slice b n c
theorem SlP.sl (n:Nat) (l:List P):SlP (.sl 1 n l) n l:=⟨rfl,fun r=>by
 cases r with
 | nil=>exact ⟨none,0,rfl⟩
 | sl a _ _ c vs _ _ h3 h4 h5=>exact ⟨some a,c,rfl⟩⟩
theorem SlP.fx (n:Nat) (l:List P):SlP (.fx 1 n l) n l:=⟨rfl,fun r=>by
 cases r with
 | fx a _ _ vs _ _ h3 h4 h5=>exact ⟨some a,n,rfl⟩⟩
section
variable {E:Env} {gl:List GRow} {cfg:Cfg} {fuel:Nat}
theorem oX (hE:SxEnv E) {inf:Nat->TypeInfo} (h27:aC E cfg fuel 27 1=some (t27 inf)) (hi1:(inf 41).size=1) (hi2:(inf 41).bytes=16) {q1 q2:P} {n1 n2:Nat} {l1 l2:List P} (hs1:SlP q1 n1 l1) (hs2:SlP q2 n2 l2) (hn1:n1<=2097152) (hn2:n2<=2097152) (μ:Mu) :
  PR E gl 27 [.fx 1 2 [q1,q2]] μ (.ow 41 1 (n1+n2) (l1++l2)) μ:=by
 intro A β S vs gs gm R
 obtain ⟨v,rfl,hr,rfl⟩:∃ v,vs=[v]/\Rep β S A.h v (.fx 1 2 [q1,q2])/\gs=[]:=by
  have r:=R.vars
  cases r with
  | cons v p g vs ps gs hr hn =>
   cases hn
   obtain ⟨h1,rfl⟩:=hr
   exact ⟨v,rfl,h1,rfl⟩
 obtain ⟨a,w1,w2,rfl,haS,hRd,hr1,hr2⟩:∃ a w1 w2,v=.slice (some a) 2 2/\S a.block/\Rdc A.h 1 a [w1,w2]/\Rep β S A.h w1 q1/\Rep β S A.h w2 q2:=by
  cases hr with
  | fx a _ _ vs _ h1 h2 _ h5 =>
   cases h5 with
   | cons w1 _ vs _ k1 h5=>cases h5 with
    | cons w2 _ vs _ k2 h5 =>
     cases h5
     exact ⟨a,w1,w2,rfl,h1,h2.rdc 1,k1,k2⟩
 have R0:RS gl A β S noF [] [] [] μ gm:=R.setVars .nil ⟨[],List.Perm.refl _⟩
 obtain ⟨b1,c1,rfl⟩:=hs1.val hr1
 obtain ⟨b2,c2,rfl⟩:=hs2.val hr2
 have hq1:=hs1.new
 have hq2:=hs2.new
 have hg0:A.g.get A.next=none:=R.ginv _ (Nat.le_refl _)
 have hSA:∀ {r:Row} {cs:List Value} (B:Go.AM.St),OpB A B 41 cs r->∀ b,S b->B.h.get b=A.h.get b:=fun B o b hb=>o.oth b fun e=>absurd (R.S_lt b hb) (by omega)
 suffices h:∃ v B,cP E 27 [.slice (some a) 2 2] A v B/\∃ S' gs',Ext μ.length A β S noF [] gm B β S' gs' gm/\RS gl B β S' noF [v] [.ow 41 1 (n1+n2) (l1++l2)] gs' μ gm by
  obtain ⟨v,B,h1,S',gs',h2,h3⟩:=h
  exact ⟨v,B,β,S',gs',gm,h1,h2,h3⟩
 refine gH hE (vs:=[.slice (some a) 2 2]) h27 (A:=A) (Q:=fun v B=>∃ S' gs',Ext μ.length A β S noF [] gm B β S' gs' gm/\RS gl B β S' noF [v] [.ow 41 1 (n1+n2) (l1++l2)] gs' μ gm) ?_
 unfold t27
 refine aE (v:=goInt 2) (A':=A) (rfl) ?_
 try dsimp only [List.cons_append,List.nil_append]
 refine ⟨3,?_⟩
 try dsimp only [denL,List.map,X.den,At.den,vv,vi,vn,SX.look,List.cons_append,List.nil_append]
 rw [b6]
 try dsimp only [List.cons_append,List.nil_append]
 refine aE (v:=.bool true) (A':=A) (rfl) ?_
 try dsimp only [List.cons_append,List.nil_append]
 refine cN rfl ?_
 refine aE (v:=.pointer (some (aJ a 0))) (A':=A) (rfl) ?_
 try dsimp only [List.cons_append,List.nil_append]
 refine aE (v:=.slice b1 n1 c1) (A':=A) (dJ (hRd.at rfl (i:=0) rfl)) ?_
 try dsimp only [List.cons_append,List.nil_append]
 refine aE (v:=goInt (n1:Nat)) (A':=A) (rfl) ?_
 try dsimp only [List.cons_append,List.nil_append]
 refine aE (v:=goInt ((0+n1:Nat):Int)) (A':=A) (bw (a:=0) (b:=n1) (by omega)) ?_
 try dsimp only [List.cons_append,List.nil_append]
 refine aE (v:=.bool false) (A':=A) (iC) ?_
 try dsimp only [List.cons_append,List.nil_append]
 refine bx rfl ?_
 refine aE (v:=goInt ((0+1:Nat):Int)) (A':=A) (bw (a:=0) (b:=1) (by omega)) ?_
 try dsimp only [List.cons_append,List.nil_append]
 refine aj ?_
 try dsimp only [denL,List.map,X.den,At.den,vv,vi,vn,SX.look,List.cons_append,List.nil_append]
 rw [b6]
 try dsimp only [List.cons_append,List.nil_append]
 refine aE (v:=.bool true) (A':=A) (rfl) ?_
 try dsimp only [List.cons_append,List.nil_append]
 refine cN rfl ?_
 refine aE (v:=.pointer (some (aJ a 1))) (A':=A) (rfl) ?_
 try dsimp only [List.cons_append,List.nil_append]
 refine aE (v:=.slice b2 n2 c2) (A':=A) (dJ (hRd.at rfl (i:=1) rfl)) ?_
 try dsimp only [List.cons_append,List.nil_append]
 refine aE (v:=goInt (n2:Nat)) (A':=A) (rfl) ?_
 try dsimp only [List.cons_append,List.nil_append]
 refine aE (v:=goInt ((0+n1+n2:Nat):Int)) (A':=A) (bw (a:=0+n1) (b:=n2) (by omega)) ?_
 try dsimp only [List.cons_append,List.nil_append]
 refine aE (v:=.bool false) (A':=A) (iC) ?_
 try dsimp only [List.cons_append,List.nil_append]
 refine bx rfl ?_
 refine aE (v:=goInt ((1+1:Nat):Int)) (A':=A) (bw (a:=1) (b:=1) (by omega)) ?_
 try dsimp only [List.cons_append,List.nil_append]
 refine aj ?_
 try dsimp only [denL,List.map,X.den,At.den,vv,vi,vn,SX.look,List.cons_append,List.nil_append]
 rw [b6]
 try dsimp only [List.cons_append,List.nil_append]
 refine aE (v:=.bool false) (A':=A) (rfl) ?_
 try dsimp only [List.cons_append,List.nil_append]
 refine bx rfl ?_
 refine aj ?_
 try dsimp only [denL,List.map,X.den,At.den,vv,vi,vn,SX.look,List.cons_append,List.nil_append]
 refine ⟨fun _=>?_,fun h=>absurd rfl h⟩
 refine aE (v:=.bool false) (A':=A) (iC) ?_
 try dsimp only [List.cons_append,List.nil_append]
 refine bx rfl ?_
 refine aE (v:=goInt ((0:Nat):Int)) (A':=A) (rfl) ?_
 try dsimp only [List.cons_append,List.nil_append]
 refine aE (v:=goInt ((0:Nat):Int)) (A':=A) (rfl) ?_
 try dsimp only [List.cons_append,List.nil_append]
 refine aE (v:=goInt ((0+n1+n2:Nat):Int)) (A':=A) (sub_zero (by omega)) ?_
 try dsimp only [List.cons_append,List.nil_append]
 refine aE (v:=.bool (decide ((0:Int) < ((0+n1+n2:Nat):Int)))) (A':=A) (rfl) ?_
 try dsimp only [List.cons_append,List.nil_append]
 by_cases hz:0 < n1+n2
 ·refine cN (congrArg Value.bool (decide_eq_true (by omega))) ?_
  refine aE (v:=goInt ((0:Nat):Int)) (A':=A) (rfl) ?_
  try dsimp only [List.cons_append,List.nil_append]
  refine aE (v:=.slice none 0 0) (A':=A) (rfl) ?_
  try dsimp only [List.cons_append,List.nil_append]
  refine aE (v:=.slice (some ⟨A.next,0,none⟩) (0+n1+n2) (0+n1+n2)) (A':=(ay A 41 1 (0+n1+n2) (zeros [.nilIface] (0+n1+n2))).2) (RU hi1 hi2 (by omega) (by omega)) ?_
  try dsimp only [List.cons_append,List.nil_append]
  obtain ⟨r0,o0⟩:=OpB.new A 41 (zeros [.nilIface] (0+n1+n2)) (0+n1+n2) (dI _ rfl _).2
  generalize (ay A 41 1 (0+n1+n2) (zeros [.nilIface] (0+n1+n2))).2=B0 at o0 ⊢
  refine aE (v:=.slice (some ⟨A.next,0,none⟩) 0 (0+n1+n2)) (A':=B0) (ur o0) ?_
  try dsimp only [List.cons_append,List.nil_append]
  refine aE (v:=goInt 2) (A':=B0) (rfl) ?_
  try dsimp only [List.cons_append,List.nil_append]
  refine ⟨3,?_⟩
  try dsimp only [denL,List.map,X.den,At.den,vv,vi,vn,SX.look,List.cons_append,List.nil_append]
  rw [b6]
  try dsimp only [List.cons_append,List.nil_append]
  refine aE (v:=.bool true) (A':=B0) (rfl) ?_
  try dsimp only [List.cons_append,List.nil_append]
  refine cN rfl ?_
  refine aE (v:=.pointer (some (aJ a 0))) (A':=B0) (rfl) ?_
  try dsimp only [List.cons_append,List.nil_append]
  refine aE (v:=.slice b1 n1 c1) (A':=B0) (dJ (hRd.at (hSA B0 o0 a.block haS) (i:=0) rfl)) ?_
  try dsimp only [List.cons_append,List.nil_append]
  obtain ⟨m1,e1,k1,s1,a1⟩:=dX (A:=B0) rfl (hr1.mono (S':=S) (β':=β) (fun _ h=>h) (hSA B0 o0) (fun _ _ h=>h)) hq1
  obtain ⟨B1,r1,x1,o1⟩:=uu (w:=.slice b1 n1 c1) (z:=.nilIface) hi1 hi2 o0 hg0 (n:=0+n1+n2) (by exact (dI _ rfl _).1) (by omega) (off:=0) (m:=n1) (by omega) e1 (by omega) a1 rfl
  refine aE (v:=.slice (some ⟨A.next,0,none⟩) (0+n1) (0+n1+n2)) (A':=B1) (x1) ?_
  try dsimp only [List.cons_append,List.nil_append]
  refine aE (v:=goInt ((0+1:Nat):Int)) (A':=B1) (bw (a:=0) (b:=1) (by omega)) ?_
  try dsimp only [List.cons_append,List.nil_append]
  refine aj ?_
  try dsimp only [denL,List.map,X.den,At.den,vv,vi,vn,SX.look,List.cons_append,List.nil_append]
  rw [b6]
  try dsimp only [List.cons_append,List.nil_append]
  refine aE (v:=.bool true) (A':=B1) (rfl) ?_
  try dsimp only [List.cons_append,List.nil_append]
  refine cN rfl ?_
  refine aE (v:=.pointer (some (aJ a 1))) (A':=B1) (rfl) ?_
  try dsimp only [List.cons_append,List.nil_append]
  refine aE (v:=.slice b2 n2 c2) (A':=B1) (dJ (hRd.at (hSA B1 o1 a.block haS) (i:=1) rfl)) ?_
  try dsimp only [List.cons_append,List.nil_append]
  obtain ⟨m2,e2,k2,s2,a2⟩:=dX (A:=B1) rfl (hr2.mono (S':=S) (β':=β) (fun _ h=>h) (hSA B1 o1) (fun _ _ h=>h)) hq2
  obtain ⟨B2,r2,x2,o2⟩:=uu (w:=.slice b2 n2 c2) (z:=.nilIface) hi1 hi2 o1 hg0 (n:=0+n1+n2) (by rw [fK];exact (dI _ rfl _).1) (by omega) (off:=0+n1) (m:=n2) (by omega) e2 (by omega) a2 rfl
  refine aE (v:=.slice (some ⟨A.next,0,none⟩) (0+n1+n2) (0+n1+n2)) (A':=B2) (x2) ?_
  try dsimp only [List.cons_append,List.nil_append]
  refine aE (v:=goInt ((1+1:Nat):Int)) (A':=B2) (bw (a:=1) (b:=1) (by omega)) ?_
  try dsimp only [List.cons_append,List.nil_append]
  refine aj ?_
  try dsimp only [denL,List.map,X.den,At.den,vv,vi,vn,SX.look,List.cons_append,List.nil_append]
  rw [b6]
  try dsimp only [List.cons_append,List.nil_append]
  refine aE (v:=.bool false) (A':=B2) (rfl) ?_
  try dsimp only [List.cons_append,List.nil_append]
  refine bx rfl ?_
  refine aj ?_
  try dsimp only [denL,List.map,X.den,At.den,vv,vi,vn,SX.look,List.cons_append,List.nil_append]
  refine ⟨fun _=>?_,fun h=>absurd rfl h⟩
  refine aj ?_
  intro v hv
  cases hv
  have hcs:setFrom (setFrom (zeros [.nilIface] (0+n1+n2)) 0 m1) (0+n1) m2=m1++m2:=by
   have h1:m1.length=n1:=by omega
   have h0:(zeros [Value.nilIface] (0+n1+n2)).length=0+n1+n2:=(dI _ rfl _).1
   have:=uo (zs:=zeros [.nilIface] (0+n1+n2)) (vs:=m1) (ws:=m2) (by omega)
   rw [h1] at this
   rw [Nat.zero_add]
   rw [Nat.zero_add] at this
   exact this
  rw [hcs] at o2
  have kk:RepL β (orB S A.next) B2.h (m1++m2) (l1++l2):=by
   exact RepL.append (k1.mono (S':=orB S A.next) (β':=β) (fun _ h=>.inl h) (fun b hb=>(hSA B2 o2 b hb).trans (hSA B0 o0 b hb).symm) (fun _ _ h=>h)) (k2.mono (S':=orB S A.next) (β':=β) (fun _ h=>.inl h) (fun b hb=>(hSA B2 o2 b hb).trans (hSA B1 o1 b hb).symm) (fun _ _ h=>h))
  have hfin:=RS.newOwH (B:=B2) (m:=μ.length) (k:=r2.grp) (v:=.slice (some ⟨A.next,0,none⟩) (n1+n2) (n1+n2)) (e:=41) (sz:=1) (n:=n1+n2) (l:=l1++l2) (d:=[]) R0 .nil (List.Perm.refl _) o2.oth o2.nx (fun j _=>by rw [o2.g]) (.inr o2.grp)
   (.ow _ r2 41 1 (n1+n2) (m1++m2) _ o2.elem o2.esz (.inr rfl) o2.at_ o2.own o2.opn o2.size (by rw [o2.frz];exact Nat.zero_le _) o2.ones o2.cells (by rw [List.length_append];omega) kk (by rw [o2.grp,o2.nx];omega) (.inl (by rw [o2.grp,o2.g];exact hg0)))
  refine ⟨_,_,hfin.2,?_⟩
  show RS gl B2 β (orB S A.next) noF [.slice (some ⟨A.next,0,none⟩) (0+n1+n2) (0+n1+n2)] [.ow 41 1 (n1+n2) (l1++l2)] ([]++[r2.grp]) μ gm
  rw [Nat.zero_add]
  exact hfin.1
 ·have hz1:n1=0:=by omega
  have hz2:n2=0:=by omega
  subst hz1
  subst hz2
  refine bx (congrArg Value.bool (decide_eq_false (by omega))) ?_
  refine aE (v:=goInt 2) (A':=A) (rfl) ?_
  try dsimp only [List.cons_append,List.nil_append]
  refine ⟨3,?_⟩
  try dsimp only [denL,List.map,X.den,At.den,vv,vi,vn,SX.look,List.cons_append,List.nil_append]
  obtain ⟨m1,e1,k1,s1,a1⟩:=dX (A:=A) rfl hr1 hq1
  obtain ⟨m2,e2,k2,s2,a2⟩:=dX (A:=A) rfl hr2 hq2
  rw [b6]
  try dsimp only [List.cons_append,List.nil_append]
  refine aE (v:=.bool true) (A':=A) (rfl) ?_
  try dsimp only [List.cons_append,List.nil_append]
  refine cN rfl ?_
  refine aE (v:=.pointer (some (aJ a 0))) (A':=A) (rfl) ?_
  try dsimp only [List.cons_append,List.nil_append]
  refine aE (v:=.slice b1 0 c1) (A':=A) (dJ (hRd.at rfl (i:=0) rfl)) ?_
  try dsimp only [List.cons_append,List.nil_append]
  refine aE (v:=.slice none 0 0) (A':=A) (uv hi1 hi2 e1 (by omega) a1) ?_
  try dsimp only [List.cons_append,List.nil_append]
  refine aE (v:=goInt ((0+1:Nat):Int)) (A':=A) (bw (a:=0) (b:=1) (by omega)) ?_
  try dsimp only [List.cons_append,List.nil_append]
  refine aj ?_
  try dsimp only [denL,List.map,X.den,At.den,vv,vi,vn,SX.look,List.cons_append,List.nil_append]
  rw [b6]
  try dsimp only [List.cons_append,List.nil_append]
  refine aE (v:=.bool true) (A':=A) (rfl) ?_
  try dsimp only [List.cons_append,List.nil_append]
  refine cN rfl ?_
  refine aE (v:=.pointer (some (aJ a 1))) (A':=A) (rfl) ?_
  try dsimp only [List.cons_append,List.nil_append]
  refine aE (v:=.slice b2 0 c2) (A':=A) (dJ (hRd.at rfl (i:=1) rfl)) ?_
  try dsimp only [List.cons_append,List.nil_append]
  refine aE (v:=.slice none 0 0) (A':=A) (uv hi1 hi2 e2 (by omega) a2) ?_
  try dsimp only [List.cons_append,List.nil_append]
  refine aE (v:=goInt ((1+1:Nat):Int)) (A':=A) (bw (a:=1) (b:=1) (by omega)) ?_
  try dsimp only [List.cons_append,List.nil_append]
  refine aj ?_
  try dsimp only [denL,List.map,X.den,At.den,vv,vi,vn,SX.look,List.cons_append,List.nil_append]
  rw [b6]
  try dsimp only [List.cons_append,List.nil_append]
  refine aE (v:=.bool false) (A':=A) (rfl) ?_
  try dsimp only [List.cons_append,List.nil_append]
  refine bx rfl ?_
  refine aj ?_
  try dsimp only [denL,List.map,X.den,At.den,vv,vi,vn,SX.look,List.cons_append,List.nil_append]
  refine ⟨fun _=>?_,fun h=>absurd rfl h⟩
  refine aj ?_
  intro v hv
  cases hv
  have hn1':l1=[]:=List.length_eq_zero_iff.1 (by have:=k1.length;omega)
  have hn2':l2=[]:=List.length_eq_zero_iff.1 (by have:=k2.length;omega)
  subst hn1'
  subst hn2'
  refine ⟨S,[],Ext.refl _ _ _ _ _ _ _ (fun _ h=>h),R.setVars (RepO.one (.nil 41 1)) ⟨[],List.Perm.refl _⟩⟩
end
end Go.AM.PV
namespace Go.Proofs
open Go.Shelf
def Tryz.lays105_ren:Go.Shelf.Ren:=⟨fun | 105=>40 | 212=>66 | 99=>67 | 165=>68 | 166=>69 | 170=>70 | 169=>71 | 263=>103 | 264=>104 | 206=>105 | 240=>106 | 241=>107 | 276=>135 | 277=>136 | n=>n,fun | 9=>9 | 3=>3 | 4=>4 | 20=>20 | 0=>0 | 46=>107 | 109=>108 | 5=>5 | 72=>114 | 76=>118 | 51=>162 | 146=>163 | 53=>165 | 148=>166 | 70=>111 | 37=>112 | 75=>117 | 127=>168 | 164=>198 | 80=>121 | n=>n,fun | n=>n⟩
theorem Tryz.lays105:Go.Proofs.Lays.n105 Tryz.prog Tryz.lays105_ren:={
 mixed:=by kernel_rfl
 f99:=Tryz.func67.trans (congrArg some (by kernel_rfl))
 f105:=Tryz.func40.trans (congrArg some (by kernel_rfl))
 f165:=Tryz.func68.trans (congrArg some (by kernel_rfl))
 f166:=Tryz.func69.trans (congrArg some (by kernel_rfl))
 f169:=Tryz.func71.trans (congrArg some (by kernel_rfl))
 f170:=Tryz.func70.trans (congrArg some (by kernel_rfl))
 f206:=Tryz.func105.trans (congrArg some (by kernel_rfl))
 f212:=Tryz.func66.trans (congrArg some (by kernel_rfl))
 f240:=Tryz.func106.trans (congrArg some (by kernel_rfl))
 f241:=Tryz.func107.trans (congrArg some (by kernel_rfl))
 f263:=Tryz.func103.trans (congrArg some (by kernel_rfl))
 f264:=Tryz.func104.trans (congrArg some (by kernel_rfl))
 f276:=Tryz.func135.trans (congrArg some (by kernel_rfl))
 f277:=Tryz.func136.trans (congrArg some (by kernel_rfl))
 t0:=Tryz.underlying0
 a0:=Tryz.isAgg0
 z0:=Tryz.sizeOf0
 v0:=Tryz.zeroValue0
 t3:=Tryz.underlying3
 a3:=Tryz.isAgg3
 z3:=Tryz.sizeOf3
 v3:=Tryz.zeroValue3
 t4:=Tryz.underlying4
 a4:=Tryz.isAgg4
 z4:=Tryz.sizeOf4
 v4:=Tryz.zeroValue4
 t5:=Tryz.underlying5
 a5:=Tryz.isAgg5
 z5:=Tryz.sizeOf5
 v5:=Tryz.zeroValue5
 t9:=Tryz.underlying9
 a9:=Tryz.isAgg9
 z9:=Tryz.sizeOf9
 v9:=Tryz.zeroValue9
 t20:=Tryz.underlying20
 a20:=Tryz.isAgg20
 z20:=Tryz.sizeOf20
 v20:=Tryz.zeroValue20
 t37:=Tryz.underlying112
 a37:=Tryz.isAgg112
 z37:=Tryz.sizeOf112
 v37:=Tryz.zeroValue112
 t46:=Tryz.underlying107
 a46:=Tryz.isAgg107
 z46:=Tryz.sizeOf107
 v46:=Tryz.zeroValue107
 t51:=Tryz.underlying162
 a51:=Tryz.isAgg162
 z51:=Tryz.sizeOf162
 v51:=Tryz.zeroValue162
 t53:=Tryz.underlying165
 a53:=Tryz.isAgg165
 z53:=Tryz.sizeOf165
 v53:=Tryz.zeroValue165
 t70:=Tryz.underlying111
 a70:=Tryz.isAgg111
 z70:=Tryz.sizeOf111
 v70:=Tryz.zeroValue111
 t72:=Tryz.underlying114
 a72:=Tryz.isAgg114
 z72:=Tryz.sizeOf114
 v72:=Tryz.zeroValue114
 t75:=Tryz.underlying117
 a75:=Tryz.isAgg117
 z75:=Tryz.sizeOf117
 v75:=Tryz.zeroValue117
 t76:=Tryz.underlying118
 a76:=Tryz.isAgg118
 z76:=Tryz.sizeOf118
 v76:=Tryz.zeroValue118
 t109:=Tryz.underlying108
 a109:=Tryz.isAgg108
 z109:=Tryz.sizeOf108
 v109:=Tryz.zeroValue108
 t127:=Tryz.underlying168
 a127:=Tryz.isAgg168
 z127:=Tryz.sizeOf168
 v127:=Tryz.zeroValue168
 t146:=Tryz.underlying163
 a146:=Tryz.isAgg163
 z146:=Tryz.sizeOf163
 v146:=Tryz.zeroValue163
 t148:=Tryz.underlying166
 a148:=Tryz.isAgg166
 z148:=Tryz.sizeOf166
 v148:=Tryz.zeroValue166
 t164:=Tryz.underlying198
 a164:=Tryz.isAgg198
 z164:=Tryz.sizeOf198
 v164:=Tryz.zeroValue198 }
theorem Tryz.Builder_Extra_105:Builder.Extra Tryz.prog Tryz.lays105_ren:={
 sizeBuilder:=by kernel_rfl
 liesBuilder:=by kernel_rfl
 t5:=Tryz.underlying5
 a5:=Tryz.isAgg5
 z5:=Tryz.sizeOf5
 v5:=Tryz.zeroValue5
 infoByte:=by kernel_rfl
 cellsByte:=by kernel_rfl
 sizeByte:=by kernel_rfl
 neB5:=by decide }
end Go.Proofs
namespace Go.AM.PV
open Go Go.AM Go.Proofs
def bsE (l:List UInt8):Value:=.string ⟨l.toArray⟩
def RV (i:Nat):Bool:=Nat.beq i 9||Nat.beq i 10||Nat.beq i 11||Nat.beq i 12||Nat.beq i 13||Nat.beq i 32
def asc:GRow:={ g:=0,elem:=0,cells:=(List.range 256).map fun i=>.int .u8 (if RV i then 1 else 0) }
noncomputable def E0:Env:={ jy Tryz.prog with ng:=1 }
noncomputable def E00:Env:={ jy Tryz.prog with ng:=0 }
def fH (E:Env) (f:Nat->TypeId) (k:Known):Bool:=p8 k ((big E 100000).call k.f k.args (fO (cC k.looks) (jj f k.looks)))
def words:List Value:=[bsE [49,50,58,100,117,112],bsE [49,48,58,100,114,111,112],bsE [50,50,58,115,119,97,112],bsE [50,51,58,111,118,101,114],bsE [51,51,58,114,111,116],bsE [50,49,58,110,105,112],bsE [50,51,58,116,117,99,107],bsE [50,49,58,43],bsE [50,49,58,45],bsE [50,49,58,42],bsE [50,49,58,47],bsE [50,49,58,109,111,100],bsE [49,49,58,110,101,103],bsE [49,49,58,97,98,115],bsE [50,49,58,109,105,110],bsE [50,49,58,109,97,120],bsE [50,49,58,60],bsE [50,49,58,62],bsE [50,49,58,61],bsE [50,49,58,97,110,100],bsE [50,49,58,111,114],bsE [49,49,58,110,111,116],bsE [49,49,58,105,110,116,63],bsE [49,49,58,115,116,114,63],bsE [49,49,58,98,111,111,108,63],bsE [49,49,58,108,105,115,116,63],bsE [49,49,58,113,117,111,116,63],bsE [49,49,58,98,111,120,63],bsE [49,49,58,108,101,110,103,116,104],bsE [50,49,58,97,112,112,101,110,100],bsE [50,49,58,110,116,104],bsE [51,49,58,115,108,105,99,101],bsE [49,49,58,119,114,97,112],bsE [50,49,58,112,97,105,114],bsE [49,50,58,117,110,112,97,105,114],bsE [49,49,58,114,101,118,101,114,115,101],bsE [50,49,58,99,117,114,114,121],bsE [50,49,58,99,111,109,112,111,115,101],bsE [49,49,58,62,115,116,114],bsE [49,49,58,62,105,110,116],bsE [99,97,108,108],bsE [100,105,112],bsE [107,101,101,112],bsE [105,102],bsE [119,104,101,110],bsE [116,105,109,101,115],bsE [101,97,99,104],bsE [108,111,111,112],bsE [49,49,58,98,111,120],bsE [49,49,58,103,101,116],bsE [50,48,58,112,117,116],bsE [49,48,58,46]]
def kF:Known:={ f:=60,args:=[bsE [49,50,58,100,117,112,32,49,48,58,100,114,111,112,32,50,50,58,115,119,97,112,32,50,51,58,111,118,101,114,32,51,51,58,114,111,116,32,50,49,58,110,105,112,32,50,51,58,116,117,99,107,32,50,49,58,43,32,50,49,58,45,32,50,49,58,42,32,50,49,58,47,32,50,49,58,109,111,100,32,49,49,58,110,101,103,32,49,49,58,97,98,115,32,50,49,58,109,105,110,32,50,49,58,109,97,120,32,50,49,58,60,32,50,49,58,62,32,50,49,58,61,32,50,49,58,97,110,100,32,50,49,58,111,114,32,49,49,58,110,111,116,32,49,49,58,105,110,116,63,32,49,49,58,115,116,114,63,32,49,49,58,98,111,111,108,63,32,49,49,58,108,105,115,116,63,32,49,49,58,113,117,111,116,63,32,49,49,58,98,111,120,63,32,49,49,58,108,101,110,103,116,104,32,50,49,58,97,112,112,101,110,100,32,50,49,58,110,116,104,32,51,49,58,115,108,105,99,101,32,49,49,58,119,114,97,112,32,50,49,58,112,97,105,114,32,49,50,58,117,110,112,97,105,114,32,49,49,58,114,101,118,101,114,115,101,32,50,49,58,99,117,114,114,121,32,50,49,58,99,111,109,112,111,115,101,32,49,49,58,62,115,116,114,32,49,49,58,62,105,110,116,32,99,97,108,108,32,100,105,112,32,107,101,101,112,32,105,102,32,119,104,101,110,32,116,105,109,101,115,32,101,97,99,104,32,108,111,111,112,32,49,49,58,98,111,120,32,49,49,58,103,101,116,32,50,48,58,112,117,116,32,49,48,58,46]],looks:=[asc],v:=.slice (some ⟨1,0,none⟩) 52 52,cnt:=2,objs:=[{ b:=1,cells:=words,elem:=9,esz:=0,opn:=false,frz:=0,sb:=false }] }
def aO (w a c:List UInt8) (ok:Bool):Known:={ f:=61,args:=[bsE w,bsE [58]],looks:=[],v:=.tuple #[bsE a,bsE c,.bool ok],cnt:=20,objs:=[] }
def oY:List Known:=[aO [49,50,58,100,117,112] [49,50] [100,117,112] true,aO [49,48,58,100,114,111,112] [49,48] [100,114,111,112] true,aO [50,50,58,115,119,97,112] [50,50] [115,119,97,112] true,aO [50,51,58,111,118,101,114] [50,51] [111,118,101,114] true,aO [51,51,58,114,111,116] [51,51] [114,111,116] true,aO [50,49,58,110,105,112] [50,49] [110,105,112] true,aO [50,51,58,116,117,99,107] [50,51] [116,117,99,107] true,aO [50,49,58,43] [50,49] [43] true,aO [50,49,58,45] [50,49] [45] true,aO [50,49,58,42] [50,49] [42] true,aO [50,49,58,47] [50,49] [47] true,aO [50,49,58,109,111,100] [50,49] [109,111,100] true,aO [49,49,58,110,101,103] [49,49] [110,101,103] true,aO [49,49,58,97,98,115] [49,49] [97,98,115] true,aO [50,49,58,109,105,110] [50,49] [109,105,110] true,aO [50,49,58,109,97,120] [50,49] [109,97,120] true,aO [50,49,58,60] [50,49] [60] true,aO [50,49,58,62] [50,49] [62] true,aO [50,49,58,61] [50,49] [61] true,aO [50,49,58,97,110,100] [50,49] [97,110,100] true,aO [50,49,58,111,114] [50,49] [111,114] true,aO [49,49,58,110,111,116] [49,49] [110,111,116] true,aO [49,49,58,105,110,116,63] [49,49] [105,110,116,63] true,aO [49,49,58,115,116,114,63] [49,49] [115,116,114,63] true,aO [49,49,58,98,111,111,108,63] [49,49] [98,111,111,108,63] true,aO [49,49,58,108,105,115,116,63] [49,49] [108,105,115,116,63] true,aO [49,49,58,113,117,111,116,63] [49,49] [113,117,111,116,63] true,aO [49,49,58,98,111,120,63] [49,49] [98,111,120,63] true,aO [49,49,58,108,101,110,103,116,104] [49,49] [108,101,110,103,116,104] true,aO [50,49,58,97,112,112,101,110,100] [50,49] [97,112,112,101,110,100] true,aO [50,49,58,110,116,104] [50,49] [110,116,104] true,aO [51,49,58,115,108,105,99,101] [51,49] [115,108,105,99,101] true,aO [49,49,58,119,114,97,112] [49,49] [119,114,97,112] true,aO [50,49,58,112,97,105,114] [50,49] [112,97,105,114] true,aO [49,50,58,117,110,112,97,105,114] [49,50] [117,110,112,97,105,114] true,aO [49,49,58,114,101,118,101,114,115,101] [49,49] [114,101,118,101,114,115,101] true,aO [50,49,58,99,117,114,114,121] [50,49] [99,117,114,114,121] true,aO [50,49,58,99,111,109,112,111,115,101] [50,49] [99,111,109,112,111,115,101] true,aO [49,49,58,62,115,116,114] [49,49] [62,115,116,114] true,aO [49,49,58,62,105,110,116] [49,49] [62,105,110,116] true,aO [99,97,108,108] [99,97,108,108] [] false,aO [100,105,112] [100,105,112] [] false,aO [107,101,101,112] [107,101,101,112] [] false,aO [105,102] [105,102] [] false,aO [119,104,101,110] [119,104,101,110] [] false,aO [116,105,109,101,115] [116,105,109,101,115] [] false,aO [101,97,99,104] [101,97,99,104] [] false,aO [108,111,111,112] [108,111,111,112] [] false,aO [49,49,58,98,111,120] [49,49] [98,111,120] true,aO [49,49,58,103,101,116] [49,49] [103,101,116] true,aO [50,48,58,112,117,116] [50,48] [112,117,116] true,aO [49,48,58,46] [49,48] [46] true]
set_option maxRecDepth 1000000
set_option maxHeartbeats 0
theorem RW (f:Nat->TypeId):fH E0 f kF=true:=by kernel_rfl
theorem uw (f:Nat->TypeId):oY.all (fH E00 f)=true:=by kernel_rfl
noncomputable def EK:Env:={ E0 with known:=kF::oY }
def k25 (l:List UInt8):Known:={ f:=25,args:=[bsE l],looks:=[asc],v:=.tuple #[bsE [120],.bool true],cnt:=5000,objs:=[] }
def k10:Known:={ f:=10,args:=[],looks:=[asc],v:=.bool true,cnt:=9000,objs:=[] }
def oZ:List (List UInt8):=[[105,110,116,63],[115,116,114,63],[98,111,111,108,63],[108,105,115,116,63],[113,117,111,116,63],[98,111,120,63]]
theorem RX (f:Nat->TypeId):fH EK f k10=true:=by kernel_rfl
theorem RY (f:Nat->TypeId):(oZ.map k25).all (fH EK f)=true:=by kernel_rfl
end Go.AM.PV
namespace Go.AM.PV
open Go Go.AM Go.Proofs
def o5 (n:Nat) (l:List UInt8):Known:={ f:=40,args:=[bsE [120],.int .i64 n],looks:=[],v:=bsE l,cnt:=0,objs:=[] }
theorem ux (nm:Nm) {n:Nat} {l:List UInt8} (hn:n<=1000) (hl:Lib.repeatL [120] n=l):KnownOk Tryz.prog nm (o5 n l) where
 calls:=by
  intro w _
  have hc:Calls Tryz.prog 40 #[.string ⟨#[120]⟩,.int .i64 n] w _:=Any.strings_Repeat Tryz.lays105 Tryz.Builder_Extra_105 ⟨#[120]⟩ n w (by omega) (by show 1 * n<=_;omega)
  refine hc.mono ?_
  rintro e w' ⟨he,hb⟩
  have he2:e=.returned (.string ⟨l.toArray⟩):=by rw [he,<- hl]
  refine ⟨fun _=>none,.string ⟨l.toArray⟩,fun _ _ h=>(by cases h),fun _ _=>rfl,fun _ h=>(by cases h),fun _ _ _ _ h=>(by cases h),hb.block,hb.size,⟨hb.tape,hb.os,hb.output⟩,.str _,he2⟩
 shal:=rfl
 shalR:=rfl
 plain:=rfl
end Go.AM.PV
namespace Go.AM.PV
open Go Go.AM Go.Proofs
set_option maxRecDepth 1000000
set_option maxHeartbeats 0
noncomputable def EKs:Env:={ E0 with known:=o5 2 [120,120]::o5 3 [120,120,120]::kF::oY }
def eR (w:List UInt8×List UInt8):Known:={ f:=25,args:=[bsE w.1],looks:=[asc],v:=.tuple #[bsE w.2,.bool true],cnt:=5000,objs:=[] }
def uy:List (List UInt8×List UInt8):=[([115,119,97,112],[120,120]),([114,111,116],[120,120,120]),([100,117,112],[120]),([100,114,111,112],[120])]
def uz:List (List UInt8×List UInt8):=[([111,118,101,114],[120,120]),([110,105,112],[120,120]),([112,97,105,114],[120,120]),([62,115,116,114],[120])]
def vA:List (List UInt8×List UInt8):=[([117,110,112,97,105,114],[108]),([62,105,110,116],[115]),([97,110,100],[98,98]),([111,114],[98,98]),([110,111,116],[98]),([97,112,112,101,110,100],[97,97]),([108,101,110,103,116,104],[97]),([115,108,105,99,101],[110,110,101]),([114,101,118,101,114,115,101],[101]),([110,116,104],[110,101])]
theorem RZ (f:Nat->TypeId):(uy.map eR).all (fH EKs f)=true:=by kernel_rfl
theorem R4 (f:Nat->TypeId):(uz.map eR).all (fH EKs f)=true:=by kernel_rfl
theorem R5 (f:Nat->TypeId):(vA.map eR).all (fH EKs f)=true:=by kernel_rfl
def wds:List (List UInt8×List UInt8):=uy++(uz++vA)
end Go.AM.PV
namespace Go.Proofs
open Go.Shelf
def Tryz.lays156_ren:Go.Shelf.Ren:=⟨fun | 156=>112 | 165=>68 | 166=>69 | 169=>71 | 240=>106 | 241=>107 | 276=>135 | 277=>136 | n=>n,fun | 31=>54 | 9=>9 | 3=>3 | 4=>4 | 0=>0 | 20=>20 | 72=>114 | 76=>118 | 70=>111 | 37=>112 | 75=>117 | 127=>168 | 164=>198 | 5=>5 | 80=>121 | n=>n,fun | n=>n⟩
theorem Tryz.lays156:Go.Proofs.Lays.n156 Tryz.prog Tryz.lays156_ren:={
 mixed:=by kernel_rfl
 f156:=Tryz.func112.trans (congrArg some (by kernel_rfl))
 f165:=Tryz.func68.trans (congrArg some (by kernel_rfl))
 f166:=Tryz.func69.trans (congrArg some (by kernel_rfl))
 f169:=Tryz.func71.trans (congrArg some (by kernel_rfl))
 f240:=Tryz.func106.trans (congrArg some (by kernel_rfl))
 f241:=Tryz.func107.trans (congrArg some (by kernel_rfl))
 f276:=Tryz.func135.trans (congrArg some (by kernel_rfl))
 f277:=Tryz.func136.trans (congrArg some (by kernel_rfl))
 t0:=Tryz.underlying0
 a0:=Tryz.isAgg0
 z0:=Tryz.sizeOf0
 v0:=Tryz.zeroValue0
 t3:=Tryz.underlying3
 a3:=Tryz.isAgg3
 z3:=Tryz.sizeOf3
 v3:=Tryz.zeroValue3
 t4:=Tryz.underlying4
 a4:=Tryz.isAgg4
 z4:=Tryz.sizeOf4
 v4:=Tryz.zeroValue4
 t9:=Tryz.underlying9
 a9:=Tryz.isAgg9
 z9:=Tryz.sizeOf9
 v9:=Tryz.zeroValue9
 t20:=Tryz.underlying20
 a20:=Tryz.isAgg20
 z20:=Tryz.sizeOf20
 v20:=Tryz.zeroValue20
 t31:=Tryz.underlying54
 a31:=Tryz.isAgg54
 z31:=Tryz.sizeOf54
 v31:=Tryz.zeroValue54
 t37:=Tryz.underlying112
 a37:=Tryz.isAgg112
 z37:=Tryz.sizeOf112
 v37:=Tryz.zeroValue112
 t70:=Tryz.underlying111
 a70:=Tryz.isAgg111
 z70:=Tryz.sizeOf111
 v70:=Tryz.zeroValue111
 t72:=Tryz.underlying114
 a72:=Tryz.isAgg114
 z72:=Tryz.sizeOf114
 v72:=Tryz.zeroValue114
 t75:=Tryz.underlying117
 a75:=Tryz.isAgg117
 z75:=Tryz.sizeOf117
 v75:=Tryz.zeroValue117
 t76:=Tryz.underlying118
 a76:=Tryz.isAgg118
 z76:=Tryz.sizeOf118
 v76:=Tryz.zeroValue118
 t127:=Tryz.underlying168
 a127:=Tryz.isAgg168
 z127:=Tryz.sizeOf168
 v127:=Tryz.zeroValue168
 t164:=Tryz.underlying198
 a164:=Tryz.isAgg198
 z164:=Tryz.sizeOf198
 v164:=Tryz.zeroValue198 }
theorem Tryz.Builder_Extra_156:Builder.Extra Tryz.prog Tryz.lays156_ren:={
 sizeBuilder:=by kernel_rfl
 liesBuilder:=by kernel_rfl
 t5:=Tryz.underlying5
 a5:=Tryz.isAgg5
 z5:=Tryz.sizeOf5
 v5:=Tryz.zeroValue5
 infoByte:=by kernel_rfl
 cellsByte:=by kernel_rfl
 sizeByte:=by kernel_rfl
 neB5:=by decide }
end Go.Proofs
namespace Go.AM.PV
open Go Go.AM Go.AM.SX
theorem RepO.plain {β:List Nat} {S:Nat->Prop} {A:Go.AM.St} {vs:List Value} {ps:List P} {g:List Nat} (h:RepO β S A vs ps g) (hno:∀ p,p∈ps->PV.fz p=p):RepL β S A.h vs ps:=by
 have h1:=h.fz
 rw [List.map_congr_left (g:=id) hno,List.map_id] at h1
 exact h1
theorem RepL.takeL {β:List Nat} {S:Nat->Prop} {h:T AObj}:∀ {vs:List Value} {ps:List P},RepL β S h vs ps->∀ m,RepL β S h (vs.take m) (ps.take m)
 | _,_,_,0=>by simp only [List.take_zero];exact .nil
 | _,_,.nil,m+1=>by simp only [List.take_nil];exact .nil
 | _,_,.cons v p vs ps h1 h2,m+1=>by simp only [List.take_succ_cons];exact .cons _ _ _ _ h1 (RepL.takeL h2 m)
theorem RepL.len {β:List Nat} {S:Nat->Prop} {h:T AObj}:∀ {vs:List Value} {ps:List P},RepL β S h vs ps->vs.length=ps.length
 | _,_,.nil=>rfl
 | _,_,.cons _ _ _ _ _ h2=>by simp only [List.length_cons,RepL.len h2]
section
variable {E:Env} {gl:List GRow}
theorem PR.frz {f:FuncId} {ps l:List P} {n c:Nat} (h:PR E gl f ps [] (.ms 0 0 n c) [.cells l]) (hn:n<=c) (hl:n * 1<=l.length) (hk:okm.okL 0 l=true) (hno:∀ p,p∈l->PV.fz p=p):PR E gl f ps [] (.sl 1 n (l.take (n * 1))) []:=by
 intro A β S vs gs gm R
 obtain ⟨v,B,β',S',gs',gm',h1,h2,h3⟩:=h _ _ _ _ _ _ R
 have hβ:β=[]:=by have:=R.objs;cases this;rfl
 subst hβ
 have ho:=h3.objs
 have hlen:=ho.length
 have hvs:=h3.vars
 cases hvs with
 | cons _ _ g0 _ _ gs0 hr hnil =>
  cases hnil
  obtain ⟨hrep,hg0⟩:=hr
  subst hg0
  cases hrep with
  | ms _ b _ _ _ hb =>
   generalize hβ2:β'=bs at ho
   cases ho with
   | cons b0 r vs0 _ g bs0 ls gs1 hc hro hm =>
    cases hm
    have hbb:b0=b:=by
     rw [hβ2] at hb
     simpa using hb
    subst hbb
    subst hβ2
    have hbm:b0∈[b0]:=List.mem_cons_self
    have h5:RepL [] (fun x=>S' x\/x=b0) B.h vs0 l:=((hro.trunc hk).mono (fun _ h=>.inl h) (fun _ _=>rfl) (fun i b hi=>by simp at hi) (Nat.le_refl _) fun _ _=>rfl).plain hno
    have h6:=h5.len
    have hnew:∀ x,x=b0->A.next<=x:=by
     rintro x rfl
     rcases h2.newβ x hbm with e | e | e
     ·cases e
     ·exact e
     ·exact e.elim
    refine ⟨_,B,[],fun x=>S' x\/x=b0,[],[],h1,⟨h2.keep,fun _ h=>absurd h (Nat.not_lt_zero _),fun _ h=>(by cases h),fun x hx=>.inl (h2.oldS x hx),fun x hx=>?_,fun k hk=>by cases hk⟩,?_⟩
    ·rcases hx with hx | hx
     ·exact h2.newS x hx
     ·exact .inr (.inl (hnew x hx))
    ·refine ⟨fun x hx=>?_,fun _ h=>(by cases h),fun _ h=>h.elim,fun _ h=>(by cases h),fun _ h=>h.elim,fun _ h=>h.elim,fun _ h=>h.elim,List.nodup_nil,h3.ginv,fun r hr=>⟨.inl (h3.glob r hr).1,(h3.glob r hr).2⟩,?_,.nil,List.nodup_nil⟩
     ·rcases hx with hx | hx
      ·exact h3.S_lt x hx
      ·subst hx;exact h3.β_lt x hbm
     ·refine .cons _ _ [] _ _ [] ⟨.sl ⟨b0,0,none⟩ 1 n c (vs0.take (n * 1)) (l.take (n * 1)) (.inr rfl) ⟨rfl,r,hc.at_,fun e=>?_,?_,?_,fun i hi=>?_⟩ ?_ hn (h5.takeL _),rfl⟩ .nil
      ·exact hc.opn e
      ·rw [hc.size,List.length_take];show 0+_<=_;omega
      ·rw [List.all_eq_true]
       intro x hx
       exact List.all_eq_true.1 hc.ones x (List.mem_of_mem_take hx)
      ·rw [List.length_take] at hi
       show r.cells.get (0+i)=_
       rw [Nat.zero_add,hc.cells i (by omega),List.getElem?_take,if_pos (by omega)]
      ·rw [List.length_take];omega
end
end Go.AM.PV
namespace Go.AM.PV
open Go Go.AM Go.AM.SX
theorem lS {β:List Nat} {S:Nat->Prop} {h:T AObj}:∀ {us vs:List Value},RepL β S h vs (us.map .c)->vs=us
 | [],_,h=>by cases h;rfl
 | a::us,_,h=>by
  cases h with
  | cons v _ vs _ h1 h2=>cases h1;rw [lS h2]
section
variable {E:Env} {gl:List GRow} {f:FuncId} {xs ys:List Value} {v:Value} {n:Nat}
theorem PR.xj_core {ps:List P} {μ:Mu} (hk:∀ us,knw E f us=none) (hx:E.xj.any (Nat.beq f)=true) (hr:E.xr f xs ys=some v) (hp:xs.all aH=true) (hq:ys.all aH=true) (hv:aH v=true)
  (hs:∀ (A:Go.AM.St) (β:List Nat) (S:Nat->Prop) (vs:List Value) (gs gm:List Nat),RS gl A β S noF vs (ps++ys.map .c) gs μ gm->∃ a n c,vs=.slice a n c::ys/\cS A 1 n (.slice a n c)=some xs):PR E gl f (ps++ys.map .c) μ (.c v) μ:=by
 intro A β S vs gs gm R
 obtain ⟨a,n,c,rfl,h1⟩:=hs A β S vs gs gm R
 have hj:xjv E A f (.slice a n c::ys)=some v:=by
  unfold xjv
  rw [if_pos hx]
  simp only [h1,hp,hq,hr,hv,Bool.and_self,if_true]
 exact ⟨v,A,β,S,[],gm,TK (hk _) hj,Ext.refl _ A β S noF gs gm (fun k hk=>List.mem_append_right _ (by simpa using hk)),R.setVars (RepO.one (Rep.toT (.c v))) ⟨gs,by simp⟩⟩
theorem vB {β:List Nat} {S:Nat->Prop} {A:Go.AM.St} {vs:List Value} {p:P} {gs:List Nat} (h:RepO β S A vs ([p]++ys.map .c) gs) (hp:PV.fz p=p):∃ x,vs=x::ys/\Rep β S A.h x p:=by
 have h1:=h.fz
 rw [List.map_append,List.map_map,show (PV.fz ∘ P.c)=P.c from rfl,List.map_cons,hp,List.map_nil] at h1
 cases h1 with
 | cons x _ vs _ hx hrest=>exact ⟨x,by rw [lS hrest],hx⟩
theorem PR.xj_sl (hk:∀ us,knw E f us=none) (hx:E.xj.any (Nat.beq f)=true) (hr:E.xr f xs ys=some v) (hp:xs.all aH=true) (hq:ys.all aH=true) (hv:aH v=true) (μ:Mu):PR E gl f (.sl 1 n (xs.map .c)::ys.map .c) μ (.c v) μ :=
 PR.xj_core (ps:=[.sl 1 n (xs.map .c)]) hk hx hr hp hq hv fun A β S vs gs gm R=>by
  obtain ⟨x,rfl,hrep⟩:=vB R.vars rfl
  generalize hl:xs.map P.c=l at hrep
  cases hrep with
  | nil =>
   obtain rfl:xs=[]:=by simpa using hl
   exact ⟨none,0,0,rfl,rfl⟩
  | sl a _ _ c vs0 _ _ h2 h3 _ hr0 =>
   subst hl
   obtain rfl:=lS hr0
   refine ⟨some a,n,c,rfl,?_⟩
   have hrange:=h2.range (A:=A) rfl (i:=0) (n:=n) (by omega)
   rw [List.drop_zero,List.take_of_length_le (by omega)] at hrange
   have ha:aJ a 0=a:=by
    have h0:=h2.1
    cases a
    simp only at h0
    subst h0
    rfl
   rw [ha] at hrange
   show A.loadN a (n * 1)=_
   rw [Nat.mul_one]
   exact hrange
theorem PR.xj_ms (hk:∀ us,knw E f us=none) (hx:E.xj.any (Nat.beq f)=true) (hr:E.xr f xs ys=some v) (hp:xs.all aH=true) (hq:ys.all aH=true) (hv:aH v=true) (hn:xs.length=n):PR E gl f (.ms 0 0 n n::ys.map .c) [.cells (xs.map .c)] (.c v) [.cells (xs.map .c)] :=
 PR.xj_core (ps:=[.ms 0 0 n n]) hk hx hr hp hq hv fun A β S vs gs gm R=>by
  obtain ⟨x,rfl,hrep⟩:=vB R.vars rfl
  have ho:=R.objs
  cases hrep with
  | ms _ b _ _ _ hb =>
   generalize hβ2:β=bs at ho
   cases ho with
   | cons b0 r vs0 _ g bs0 ls gs1 hc hro hm =>
    cases hm
    have hbb:b0=b:=by
     rw [hβ2] at hb
     simpa using hb
    subst hbb
    have h1:=hro.fz
    rw [List.map_map,show (PV.fz ∘ P.c)=P.c from rfl] at h1
    obtain rfl:=lS h1
    refine ⟨some ⟨b0,0,none⟩,n,n,rfl,?_⟩
    show A.loadN ⟨b0,0,none⟩ (n * 1)=_
    rw [Nat.mul_one]
    unfold Go.AM.St.loadN Go.AM.St.row?
    simp only [hc.at_]
    rw [if_pos (by rw [hc.size];omega),<- hn]
    exact gI fun i hi=>by rw [Nat.zero_add];exact hc.cells i hi
end
end Go.AM.PV
namespace Go.AM.PV
open Go Go.AM Go.AM.SX
section
variable {E:Env} {gl:List GRow}
theorem PR.frzI {f:FuncId} {ps l:List P} {n i:Nat} {t:TypeId} {μ':Mu} (h:PR E gl f ps [] (.ifc t (.agg [.ms i 0 n n])) μ') (hi:μ'[i]? = some (.cells l)) (hl:l.length=n) (hk:okm.okL 0 l=true) (hno:∀ p,p∈l->PV.fz p=p) :
  PR E gl f ps [] (.ifc t (.agg [.sl 1 n l])) []:=by
 intro A β S vs gs gm R
 obtain ⟨v,B,β',S',gs',gm',h1,h2,h3⟩:=h _ _ _ _ _ _ R
 have hβ:β=[]:=by have:=R.objs;cases this;rfl
 subst hβ
 have hvs:=h3.vars.fz
 have hvs:RepL β' S' B.h [v] [.ifc t (.agg [.ms i 0 n n])]:=hvs
 cases hvs with
 | cons _ _ _ _ hr _ =>
 cases hr with
 | ifc _ w _ hr =>
 cases hr with
 | agg ws _ hr =>
 cases hr with
 | cons x _ xs _ hx hxs =>
 cases hxs with
 | nil =>
 cases hx with
 | ms _ b _ _ _ hb =>
  obtain ⟨r,vs0,g,hc,hro,hg⟩:=h3.objs.at hb hi
  have hbm:b∈β':=List.mem_of_getElem? hb
  have h5:RepL [] (fun x=>S' x\/x=b) B.h vs0 l:=((hro.trunc hk).mono (fun _ h=>.inl h) (fun _ _=>rfl) (fun i b hi=>by simp at hi) (Nat.le_refl _) fun _ _=>rfl).plain hno
  have h6:=h5.len
  have hnew:∀ x,x=b->A.next<=x:=by
   rintro x rfl
   rcases h2.newβ x hbm with e | e | e
   ·cases e
   ·exact e
   ·exact e.elim
  refine ⟨_,B,[],fun x=>S' x\/x=b,[],[],h1,⟨h2.keep,fun _ h=>absurd h (Nat.not_lt_zero _),fun _ h=>(by cases h),fun x hx=>.inl (h2.oldS x hx),fun x hx=>?_,fun k hk=>by cases hk⟩,?_⟩
  ·rcases hx with hx | hx
   ·exact h2.newS x hx
   ·exact .inr (.inl (hnew x hx))
  ·refine ⟨fun x hx=>?_,fun _ h=>(by cases h),fun _ h=>h.elim,fun _ h=>(by cases h),fun _ h=>h.elim,fun _ h=>h.elim,fun _ h=>h.elim,List.nodup_nil,h3.ginv,fun r hr=>⟨.inl (h3.glob r hr).1,(h3.glob r hr).2⟩,?_,.nil,List.nodup_nil⟩
   ·rcases hx with hx | hx
    ·exact h3.S_lt x hx
    ·subst hx;exact h3.β_lt x hbm
   ·refine RepO.one (g:=[]) ⟨.ifc t _ _ (.agg [_] [_] (.cons _ _ [] [] (.sl ⟨b,0,none⟩ 1 n n vs0 l (.inr rfl) ⟨rfl,r,hc.at_,hc.opn,?_,hc.ones,fun j hj=>?_⟩ (by omega) (Nat.le_refl _) h5) .nil)),rfl⟩
    ·rw [hc.size];show 0+_<=_;omega
    ·show r.cells.get (0+j)=_
     rw [Nat.zero_add];exact hc.cells j hj
theorem PR.frameN {f:FuncId} {ps l:List P} {n c:Nat} (h:PR E gl f ps [] (.ms 0 0 n c) [.cells l]) (hk:okm.okL 0 ps=true) (hl:okm.okL 0 l=true) (hno:∀ p,p∈l->PV.fz p=p) (μ:Mu):PR E gl f ps μ (.ms μ.length 0 n c) (μ++[.cells l]):=by
 intro A β S vs gs gm R
 have hlen:=R.objs.length
 have hv:RepO [] S A vs ps gs:=by
  have:=R.vars.trunc hk
  exact this
 have R0:RS gl A [] S noF vs ps gs [] [] :=
  ⟨R.S_lt,(fun _ h=>by cases h),fun _ h=>h.elim,(fun _ h=>by cases h),fun _ h=>h.elim,fun _ h=>h.elim,fun _ h=>h.elim,List.nodup_nil,R.ginv,R.glob,hv,.nil,by rw [List.append_nil];exact (List.nodup_append.1 R.nd).1⟩
 obtain ⟨v,B,β',S',gs',gm',h1,h2,h3⟩:=h A [] S vs gs [] R0
 obtain ⟨b0,w,ws,hβ0,hw,hws,rfl⟩:∃ b0 w ws,β'=[b0]/\Cel B b0 ws w/\RepO β' S' B ws l []/\gm'=[w.grp]:=by
  have ho:=h3.objs
  generalize hβ:β'=bs at ho
  cases ho with
  | cons b w ws _ g bs _ gs1 k1 k2 k3 =>
   cases k3
   have e:=k2.noOw hno
   subst e
   subst hβ
   exact ⟨b,w,ws,rfl,k1,k2,rfl⟩
 subst hβ0
 obtain ⟨rfl,hvrep⟩:gs'=[]/\v=.slice (some ⟨b0,0,none⟩) n c:=by
  have hvs:=h3.vars
  cases hvs with
  | cons _ _ g0 _ _ gs0 hr hnil =>
   cases hnil
   obtain ⟨hr,rfl⟩:=hr
   cases hr with
   | ms _ b _ _ _ hb =>
    simp only [List.getElem?_cons_zero,Option.some.injEq] at hb
    subst hb
    exact ⟨rfl,rfl⟩
 subst hvrep
 have hh:∀ b,b < A.next->B.h.get b=A.h.get b:=fun b hb=>h2.keep.heap b hb fun e=>by
  rcases e with e | e
  ·cases e
  ·exact e.elim
 have hn:=h2.keep.next
 have hgsm:∀ k,k∈gm->k ∉ gs:=fun k hk he=>(List.nodup_append.1 R.nd).2.2 k he k hk rfl
 have hgk:∀ k,k < A.next->k ∉ gs->B.g.get k=A.g.get k:=fun k hk hg=>h2.keep.grps k hk fun e=>by
  rcases e with e | e
  ·rw [List.append_nil] at e;exact hg e
  ·exact e.elim
 have hnewg:w.grp∈gs\/A.next<=w.grp:=by
  rcases h2.newg w.grp (by simp) with e | e | e
  ·rw [List.append_nil] at e;exact .inl e
  ·exact .inr e
  ·exact e.elim
 have hb0:A.next<=b0:=by
  rcases h2.newβ b0 (by simp) with e | e | e
  ·cases e
  ·exact e
  ·exact e.elim
 have hb0n:=h3.β_lt b0 (by simp)
 have hβ0:∀ b,b∈β++[b0]->b∈β\/b=b0:=fun b hb=>by simpa using hb
 refine ⟨_,B,β++[b0],S',[],gm++[w.grp],h1,⟨⟨hn,fun b hb _=>hh b hb,fun k hk hG=>hgk k hk fun e=>hG (.inl (List.mem_append_left _ e))⟩,fun i hi=>by rw [List.getElem?_append_left (by omega)],fun b hb=>?_,h2.oldS,h2.newS,fun k hk=>?_⟩,?_⟩
 ·rcases hβ0 b hb with e | rfl
  ·exact .inl e
  ·exact .inr (.inl hb0)
 ·rw [List.nil_append] at hk
  rcases List.mem_append.1 hk with e | e
  ·exact .inl (List.mem_append_right _ e)
  ·simp only [List.mem_singleton] at e
   subst e
   exact hnewg.imp (fun e=>List.mem_append_left _ e) .inl
 ·refine ⟨h3.S_lt,fun b hb=>?_,fun _ h=>h.elim,fun b hb hs=>?_,fun _ h=>h.elim,fun _ h=>h.elim,fun _ h=>h.elim,?_,h3.ginv,h3.glob,?_,?_,?_⟩
  ·rcases hβ0 b hb with e | rfl
   ·exact Nat.lt_of_lt_of_le (R.β_lt b e) hn
   ·exact hb0n
  ·rcases hβ0 b hb with hb | rfl
   ·rcases h2.newS b hs with e | e | e
    ·exact R.β_S b hb e
    ·exact absurd (R.β_lt b hb) (by omega)
    ·exact e.elim
   ·exact h3.β_S b (by simp) hs
  ·rw [List.nodup_append]
   refine ⟨R.β_nd,by simp,fun x hx y hy e=>?_⟩
   simp only [List.mem_singleton] at hy
   subst hy;subst e
   exact absurd (R.β_lt x hx) (by omega)
  ·exact RepO.one (g:=[]) ⟨.ms _ b0 _ _ _ (by rw [<- hlen,List.getElem?_append_right (Nat.le_refl _)];simp),rfl⟩
  ·have m1:=R.objs.mono (S':=S') (B:=B) (β':=β++[b0]) h2.oldS (fun b hb=>hh b (R.S_lt b hb)) (fun i b h=>by rw [List.getElem?_append_left (List.getElem?_eq_some_iff.1 h).1];exact h) hn (fun b hb=>hh b (R.β_lt b hb)) fun k hk=>hgk k (R.objs.glt k hk) (hgsm k hk)
   exact m1.snoc hw (hws.noObj hl (β++[b0]))
  ·rw [List.nil_append,List.nodup_append]
   refine ⟨(List.nodup_append.1 R.nd).2.1,by simp,fun x hx y hy e=>?_⟩
   simp only [List.mem_singleton] at hy
   subst hy;subst e
   rcases hnewg with e | e
   ·exact hgsm _ hx e
   ·exact absurd (R.objs.glt _ hx) (by omega)
end
end Go.AM.PV
namespace Go.AM.PV
open Go Go.AM Go.AM.SX
def R6:N:=bo .add [vn 2,vi 1] (.fin 0 [vn 5])
def R7:N:=.op (.next true) [vn 1] (.op (.ext 0) [vn 3] (.br (vn 4) R6 (.fin 2 [vn 2])))
def R8:N:=.sw 2 2 (.fin 1 [vn 3]) .bad
def t111:N:=.op (.range true) [vn 0] (.loop [vi 0] R7 R8)
def t113:N:=.call 140 [vn 0,vv (bs [])] (.fin 1 [vn 1])
def t140:N:=.call 158 [vn 0,vn 1,vi 0,vv (.int .i64 (-1))] (.fin 1 [vn 2])
def R9:N:=.call 169 [vn 0,vn 3] (.fin 1 [vn 6])
def Rb:N:=bo .add [vn 17,vn 2] (.op (.subS false true) [vn 14,vn 19] (.op (.idxA 1) [vn 12,vn 15] (.op (.store 1) [vn 21,vn 20] (.op .lenS [vn 1] (bo .add [vn 17,vn 23] (.op (.subS true false) [vn 14,vn 24] (bo .add [vn 15,vi 1] (.fin 0 [vn 25,vn 26]))))))))
def Rc:N:=.call 171 [vn 14,vn 1] (bo .lss [vn 17,vi 0] (.br (vn 18) (.fin 2 [vn 14,vn 15]) Rb))
def Re:N:=bo .lss [vn 15,vn 13] (.br (vn 16) Rc (.fin 2 [vn 14,vn 15]))
def Rf:N:=.op (.idxA 1) [vn 12,vn 16] (.op (.store 1) [vn 17,vn 15] (bo .add [vn 16,vi 1] (.op (.subL 1 false true false) [vn 12,vn 19] (.fin 1 [vn 20]))))
def Rg:N:=.sw 14 2 Rf .bad
def Rh:N:=.call 170 [vn 0,vn 1] (bo .add [vn 7,vi 1] (.op .lenS [vn 0] (bo .add [vn 9,vi 1] (.op (.mm false) [vn 8,vn 10] (.op (.mkSl 9 [(bs [])] 16) [vn 11,vn 11] (bo .sub [vn 11,vi 1] (.loop [vn 0,vi 0] Re Rg)))))))
def Ri:N:=bo .add [vn 15,vn 2] (.op (.subS false true) [vn 12,vn 17] (.op (.idxA 1) [vn 10,vn 13] (.op (.store 1) [vn 19,vn 18] (.op .lenS [vn 1] (bo .add [vn 15,vn 21] (.op (.subS true false) [vn 12,vn 22] (bo .add [vn 13,vi 1] (.fin 0 [vn 23,vn 24]))))))))
def Rj:N:=.call 171 [vn 12,vn 1] (bo .lss [vn 15,vi 0] (.br (vn 16) (.fin 2 [vn 12,vn 13]) Ri))
def Rk:N:=bo .lss [vn 13,vn 11] (.br (vn 14) Rj (.fin 2 [vn 12,vn 13]))
def Rl:N:=.op (.idxA 1) [vn 10,vn 14] (.op (.store 1) [vn 15,vn 13] (bo .add [vn 14,vi 1] (.op (.subL 1 false true false) [vn 10,vn 17] (.fin 1 [vn 18]))))
def Rm:N:=.sw 12 2 Rl .bad
def Rn:N:=.op .lenS [vn 0] (bo .add [vn 7,vi 1] (.op (.mm false) [vn 3,vn 8] (.op (.mkSl 9 [(bs [])] 16) [vn 9,vn 9] (bo .sub [vn 9,vi 1] (.loop [vn 0,vi 0] Rk Rm)))))
def Ro:N:=bo .lss [vn 3,vi 0] (.br (vn 6) Rh Rn)
def Rp:N:=bo .eql [vn 1,vv (bs [])] (.br (vn 5) R9 Ro)
def t158:N:=bo .eql [vn 3,vi 0] (.br (vn 4) (.fin 1 [vv (.slice none 0 0)]) Rp)
def vC:N:=.call 145 [vn 5] (.op (.ext 0) [vn 9] (.op (.ext 1) [vn 9] (.op (.subS false true) [vn 5,vn 11] (.op (.idxA 1) [vn 4,vn 6] (.op (.store 1) [vn 13,vn 12] (.op (.subS true false) [vn 5,vn 11] (bo .add [vn 6,vi 1] (.fin 0 [vn 15,vn 16]))))))))
def Rq:N:=bo .sub [vn 2,vi 1] (bo .lss [vn 6,vn 7] (.br (vn 8) vC (.fin 2 [vn 5,vn 6])))
def Rr:N:=bo .sub [vn 2,vi 1] (.op (.idxA 1) [vn 4,vn 9] (.op (.store 1) [vn 10,vn 6] (.fin 1 [vn 4])))
def Rs:N:=bo .gtr [vn 2,vi 0] (.br (vn 8) Rr (.fin 1 [vn 4]))
def o6:N:=.sw 5 2 Rs .bad
def Rt:N:=.op (.mkSl 9 [(bs [])] 16) [vn 2,vn 2] (.loop [vn 0,vi 0] Rq o6)
def Ru:N:=.call 145 [vn 6] (.op (.ext 0) [vn 10] (.op (.ext 1) [vn 10] (.op (.subS false true) [vn 6,vn 12] (.op (.idxA 1) [vn 5,vn 7] (.op (.store 1) [vn 14,vn 13] (.op (.subS true false) [vn 6,vn 12] (bo .add [vn 7,vi 1] (.fin 0 [vn 16,vn 17]))))))))
def Rw:N:=bo .sub [vn 2,vi 1] (bo .lss [vn 7,vn 8] (.br (vn 9) Ru (.fin 2 [vn 6,vn 7])))
def Rx:N:=bo .sub [vn 2,vi 1] (.op (.idxA 1) [vn 5,vn 10] (.op (.store 1) [vn 11,vn 7] (.fin 1 [vn 5])))
def Ry:N:=bo .gtr [vn 2,vi 0] (.br (vn 9) Rx (.fin 1 [vn 5]))
def Rz:N:=.sw 6 2 Ry .bad
def SA:N:=.op (.mkSl 9 [(bs [])] 16) [vn 2,vn 2] (.loop [vn 0,vi 0] Rw Rz)
def SB:N:=.call 145 [vn 6] (.op (.ext 0) [vn 10] (.op (.ext 1) [vn 10] (.op (.subS false true) [vn 6,vn 12] (.op (.idxA 1) [vn 5,vn 7] (.op (.store 1) [vn 14,vn 13] (.op (.subS true false) [vn 6,vn 12] (bo .add [vn 7,vi 1] (.fin 0 [vn 16,vn 17]))))))))
def SC:N:=bo .sub [vn 1,vi 1] (bo .lss [vn 7,vn 8] (.br (vn 9) SB (.fin 2 [vn 6,vn 7])))
def SD:N:=bo .sub [vn 1,vi 1] (.op (.idxA 1) [vn 5,vn 10] (.op (.store 1) [vn 11,vn 7] (.fin 1 [vn 5])))
def SE:N:=bo .gtr [vn 1,vi 0] (.br (vn 9) SD (.fin 1 [vn 5]))
def SG:N:=.sw 6 2 SE .bad
def SH:N:=.op (.mkSl 9 [(bs [])] 16) [vn 1,vn 1] (.loop [vn 0,vi 0] SC SG)
def SI:N:=bo .gtr [vn 1,vn 2] (.br (vn 4) SA SH)
def t169:N:=.call 111 [vn 0] (bo .lss [vn 1,vi 0] (.br (vn 3) Rt SI))
def SJ:N:=.op (.alloc 72 [(bs [])]) [] (.op (.store 1) [vn 4,vn 3] (.op (.fld 0) [vn 4] (ld 6 (.call 111 [vn 7] (.fin 1 [vn 8])))))
def SK:N:=.op (.alloc 52 [(.slice none 0 0)]) [] (.op (.store 1) [vn 7,vn 6] (.op (.fld 0) [vn 7] (ld 9 (.op .lenL [vn 10] (.fin 1 [vn 11])))))
def SL:N:=.op (.alloc 76 [(.slice none 0 0)]) [] (.op (.store 1) [vn 10,vn 9] (.op (.fld 0) [vn 10] (ld 12 (.op .lenL [vn 13] (.fin 1 [vn 14])))))
def SM:N:=.op (.ta 76 (.agg #[(.slice none 0 0)]) true) [vn 0] (.op (.ext 1) [vn 7] (.op (.ext 0) [vn 7] (.br (vn 8) SL (.fin 1 [vi 0]))))
def SN:N:=.op (.ta 52 (.agg #[(.slice none 0 0)]) true) [vn 0] (.op (.ext 1) [vn 4] (.op (.ext 0) [vn 4] (.br (vn 5) SK SM)))
def t78:N:=.op (.ta 72 (.agg #[(bs [])]) true) [vn 0] (.op (.ext 1) [vn 1] (.op (.ext 0) [vn 1] (.br (vn 2) SJ SN)))
def SO:N:=.op (.fld 0) [vn 5] (ld 12 (.op (.fld 0) [vn 10] (ld 14 (bo .add [vn 13,vn 15] (.op (.build [(bs [])] [(0,1)]) [vn 16] (.op .tup [.ifc 72 (.n 17),vi 0] (.fin 1 [vn 18])))))))
def SP:N:=.op .tup [vv .nilIface,vi 17] (.fin 1 [vn 12])
def SQ:N:=.op (.alloc 72 [(bs [])]) [] (.op (.store 1) [vn 5,vn 4] (.op (.ta 72 (.agg #[(bs [])]) true) [vn 1] (.op (.ext 0) [vn 7] (.op (.ext 1) [vn 7] (.op (.alloc 72 [(bs [])]) [] (.op (.store 1) [vn 10,vn 8] (.br (vn 9) SO SP)))))))
def SR:N:=.op (.fld 0) [vn 8] (ld 15 (.op (.fld 0) [vn 13] (ld 17 (.op (.newSl 25 [(.slice none 0 0),(.slice none 0 0)] [(0,1),(1,1)]) [vn 16,vn 18] (.call 27 [.sl (.n 19) 2] (.op (.build [(.slice none 0 0)] [(0,1)]) [vn 20] (.op .tup [.ifc 52 (.n 21),vi 0] (.fin 1 [vn 22]))))))))
def SS:N:=.op .tup [vv .nilIface,vi 17] (.fin 1 [vn 15])
def SU:N:=.op (.alloc 52 [(.slice none 0 0)]) [] (.op (.store 1) [vn 8,vn 7] (.op (.ta 52 (.agg #[(.slice none 0 0)]) true) [vn 1] (.op (.ext 0) [vn 10] (.op (.ext 1) [vn 10] (.op (.alloc 52 [(.slice none 0 0)]) [] (.op (.store 1) [vn 13,vn 11] (.br (vn 12) SR SS)))))))
def SV:N:=.op (.fld 0) [vn 11] (ld 18 (.op (.fld 0) [vn 16] (ld 20 (.op (.newSl 73 [(.slice none 0 0),(.slice none 0 0)] [(0,1),(1,1)]) [vn 19,vn 21] (.call 82 [.sl (.n 22) 2] (.op (.build [(.slice none 0 0)] [(0,1)]) [vn 23] (.op .tup [.ifc 76 (.n 24),vi 0] (.fin 1 [vn 25]))))))))
def SW:N:=.op .tup [vv .nilIface,vi 17] (.fin 1 [vn 18])
def SY:N:=.op (.alloc 76 [(.slice none 0 0)]) [] (.op (.store 1) [vn 11,vn 10] (.op (.ta 76 (.agg #[(.slice none 0 0)]) true) [vn 1] (.op (.ext 0) [vn 13] (.op (.ext 1) [vn 13] (.op (.alloc 76 [(.slice none 0 0)]) [] (.op (.store 1) [vn 16,vn 14] (.br (vn 15) SV SW)))))))
def SZ:N:=.op .tup [vv .nilIface,vi 17] (.fin 1 [vn 11])
def S0:N:=.op (.ta 76 (.agg #[(.slice none 0 0)]) true) [vn 0] (.op (.ext 1) [vn 8] (.op (.ext 0) [vn 8] (.br (vn 9) SY SZ)))
def S3:N:=.op (.ta 52 (.agg #[(.slice none 0 0)]) true) [vn 0] (.op (.ext 1) [vn 5] (.op (.ext 0) [vn 5] (.br (vn 6) SU S0)))
def t79:N:=.op (.ta 72 (.agg #[(bs [])]) true) [vn 0] (.op (.ext 1) [vn 2] (.op (.ext 0) [vn 2] (.br (vn 3) SQ S3)))
def S4:N:=.op .tup [vv .nilIface,vi 4] (.fin 1 [vn 4])
def S5:N:=.op .tup [vv .nilIface,vi 4] (.fin 1 [vn 5])
def S6:N:=.op .tup [vv .nilIface,vi 4] (.fin 1 [vn 7])
def S7:N:=.op (.fld 0) [vn 10] (ld 12 (.call 113 [vn 13] (.op (.subL 1 true true false) [vn 14,vn 0,vn 1] (.call 112 [vn 15,vv (bs [])] (.op (.build [(bs [])] [(0,1)]) [vn 16] (.op .tup [.ifc 72 (.n 17),vi 0] (.fin 1 [vn 18])))))))
def S8:N:=.op (.ta 52 (.agg #[(.slice none 0 0)]) false) [vn 2] (.op (.field 0 none) [vn 12] (.op (.subL 1 true true false) [vn 13,vn 0,vn 1] (.op (.build [(.slice none 0 0)] [(0,1)]) [vn 14] (.op .tup [.ifc 52 (.n 15),vi 0] (.fin 1 [vn 16])))))
def S9:N:=.op (.ta 72 (.agg #[(bs [])]) true) [vn 2] (.op (.ext 0) [vn 7] (.op (.ext 1) [vn 7] (.op (.alloc 72 [(bs [])]) [] (.op (.store 1) [vn 10,vn 8] (.br (vn 9) S7 S8)))))
def Sa:N:=.call 78 [vn 2] (bo .gtr [vn 1,vn 5] (.br (vn 6) S6 S9))
def Sc:N:=bo .gtr [vn 0,vn 1] (.br (vn 4) S5 Sa)
def t80:N:=bo .lss [vn 0,vi 0] (.br (vn 3) S4 Sc)
end Go.AM.PV
namespace Go.AM
section
variable {nm:Nm}
structure SRow where
 row:Row
 pl:Pl
def aq (rows:List SRow):St:={ next:=rows.length,h:=T.ofList (rows.map fun r=>AObj.row r.row),g:=T.nil }
def av (rows:List SRow):Emb:=fun b=>(rows[b]?).map (·.pl)
theorem j7 (rows:List SRow) (b:Nat):(aq rows).h.get b=(rows[b]?).map fun r=>AObj.row r.row:=by
 show (T.ofList _).get b=_
 rw [T.get_ofList,List.getElem?_map]
theorem Sd {rows:List SRow} {w:World} (h:∀ r,r∈rows->r.row.own=false/\∃ cs fz,RowR nm (av rows) w.heap r.pl r.row cs fz) :
  WR nm (fun b=>w.heap[b]?) w (av rows) (aq rows) w:=by
 have hget:∀ b o,(aq rows).h.get b=some o->∃ r,rows[b]? = some r/\o=.row r.row:=by
  intro b o hb
  rw [j7] at hb
  cases hr:rows[b]? with
  | none=>rw [hr] at hb;cases hb
  | some r=>rw [hr] at hb;cases hb;exact ⟨r,rfl,rfl⟩
 have hpl:∀ b p,av rows b=some p->∃ r,rows[b]? = some r/\p=r.pl:=by
  intro b p hb
  unfold av at hb
  cases hr:rows[b]? with
  | none=>rw [hr] at hb;cases hb
  | some r=>rw [hr] at hb;cases hb;exact ⟨r,rfl,rfl⟩
 have hlt:∀ r,r∈rows->r.pl.blk < w.heap.size:=by
  intro r hr
  obtain ⟨_,cs,fz,k⟩:=h r hr
  have:=k.blk
  rcases Nat.lt_or_ge r.pl.blk w.heap.size with g | g
  ·exact g
  ·rw [Array.getElem?_eq_none g] at this;cases this
 refine { dom:=?_,lt:=?_,obj:=?_,key:=fun b o h=>h,sep:=?_,tip:=?_,grp:=?_,env:=⟨rfl,rfl,rfl⟩,size:=Nat.le_refl _,old:=?_ }
 ·intro b hb
  unfold av
  rw [List.getElem?_eq_none hb]
  rfl
 ·intro b p hb
  obtain ⟨r,h1,rfl⟩:=hpl b p hb
  exact hlt r (List.mem_of_getElem? h1)
 ·intro b o hb _
  obtain ⟨r,h1,rfl⟩:=hget b o hb
  obtain ⟨ho,cs,fz,k⟩:=h r (List.mem_of_getElem? h1)
  refine ⟨r.pl,by unfold av;rw [h1];rfl,⟨cs,fz,k⟩,?_⟩
  show (w.heap[r.pl.blk]?).isNone=r.row.own
  rw [k.blk,ho]
  rfl
 ·intro b c o u p q hbc hb hc lo lu oo
  obtain ⟨r,h1,rfl⟩:=hget b o hb
  have:r.row.own=true:=oo
  rw [(h r (List.mem_of_getElem? h1)).1] at this
  cases this
 ·intro g m ms hg
  rw [show (aq rows).g=T.nil from rfl,iQ] at hg
  cases hg
 ·intro g ms hg
  rw [show (aq rows).g=T.nil from rfl,iQ] at hg
  cases hg
 ·intro b o p hb hl ho hp
  obtain ⟨r,h1,rfl⟩:=hpl b p hp
  exact hlt r (List.mem_of_getElem? h1)
theorem Se {E:Env} {P:Program} (ok:EnvOk E P nm) {f:FuncId} {n:Nat} {rows:List SRow} {vs:List Value} {x:Value} {B:St} {w:World} {args:Array Value} (hr:(big E n).call f vs (aq rows)=some (x,B)) (hx:aH x=true)
  (h:∀ r,r∈rows->r.row.own=false/\∃ cs fz,RowR nm (av rows) w.heap r.pl r.row cs fz) (hg:Gl E (av rows)) (ha:LR nm (av rows) vs args.toList) :
  Calls P f args w fun e w'=>e=.returned x/\w.keptBut w' (fun _=>False)/\w'.tape=w.tape:=by
 refine Calls.mono ((wU ok n).2.2 f vs _ x B hr _ w _ w args (Sd h) hg ha) ?_
 rintro e w' ⟨φ',v',_,_,h',hv',rfl⟩
 rw [hv'.plainV_eq hx]
 exact ⟨rfl,wV rfl h',h'.env.1⟩
end
end Go.AM
namespace Go.AM.PV
open Go Go.AM Go.AM.SX
def cq (n b:Nat):Prop:=b < n
theorem Sf {gl:List GRow} {rows:List SRow} {vs:List Value} {ps:List P} (hg:∀ r,r∈gl->r.g < rows.length/\bX (aq rows) r=true) (hv:RepL [] (cq rows.length) (aq rows).h vs ps) :
  RS gl (aq rows) [] (cq rows.length) noF vs ps [] [] [] where
 S_lt:=fun _ h=>h
 β_lt:=fun _ h=>by cases h
 F_lt:=fun _ h=>h.elim
 β_S:=fun _ h=>by cases h
 F_S:=fun _ h=>h.elim
 F_β:=fun _ h=>h.elim
 F_g:=fun _ h=>h.elim
 β_nd:=.nil
 ginv:=fun k _=>iQ k
 glob:=hg
 vars:=.of hv
 objs:=.nil
 nd:=.nil
theorem PR.start {E:Env} {gl:List GRow} {f:FuncId} {rows:List SRow} {vs:List Value} {ps:List P} {x:Value} {μ:Mu} (h:PR E gl f ps [] (.c x) μ)
  (hg:∀ r,r∈gl->r.g < rows.length/\bX (aq rows) r=true) (hv:RepL [] (cq rows.length) (aq rows).h vs ps):∃ B,cP E f vs (aq rows) x B:=by
 obtain ⟨v,B,β',S',gs',gm',h1,_,h3⟩:=h _ _ _ _ _ _ (Sf hg hv)
 have h4:v=x:=by
  have h5:=h3.vars
  cases h5 with
  | cons _ _ _ _ _ _ hr hn =>
   cases hn
   cases hr.1
   rfl
 subst h4
 exact ⟨B,h1⟩
end Go.AM.PV
namespace Go.AM.PV
open Go Go.AM Go.AM.SX
def lT (Pg:Program) (ts:List TypeId) (n:Nat):List Field->Nat->Bool
 | [],o=>Nat.beq o n
 | f::fs,o=>Nat.beq f.offset o&&ts.contains f.type&&lT Pg ts n fs (o+Pg.cellsOf f.type)
def o7 (Pg:Program) (ts:List TypeId) (t:TypeId):Bool :=
 match Pg.underlying t with
 | some .bool=>true
 | some .string=>true
 | some (.int _)=>true
 | some (.slice e)=>ts.contains e&&Nat.blt 0 (Pg.cellsOf e)
 | some (.struct fs)=>lT Pg ts (Pg.cellsOf t) fs.toList 0
 | _=>false
def j8 (Pg:Program) (ts:List TypeId):Bool:=ts.all (o7 Pg ts)
mutual
inductive Rd (Pg:Program) {H:Type}:TypeId->DataW H->List P->Prop where
 | bool (t:TypeId) (b:Bool):Pg.underlying t=some .bool->Rd Pg t (.lit (.bool b)) [.c (.bool b)]
 | int (t:TypeId) (k:IntKind) (n:Int):Pg.underlying t=some (.int k)->(Lit.int k n).wf=true->Rd Pg t (.lit (.int k n)) [.c (.int k n)]
 | str (t:TypeId) (s:ByteArray):Pg.underlying t=some .string->s.size<=maxLen->Rd Pg t (.lit (.string s.data.toList)) [.c (.string s)]
 | nils (t e:TypeId):Pg.underlying t=some (.slice e)->Rd Pg t .nil [.sl (Pg.cellsOf e) 0 []]
 | slice (t e:TypeId) (ds rest:List (DataW H)) (ps:List P):Pg.underlying t=some (.slice e)->RdL Pg e ds ps->Rd Pg t (.slice ds rest) [.sl (Pg.cellsOf e) ds.length ps]
 | struct (t:TypeId) (fs:Array Field) (ds:List (DataW H)) (ps:List P):Pg.underlying t=some (.struct fs)->RdF Pg fs.toList ds ps->Rd Pg t (.agg ds) ps
inductive RdL (Pg:Program) {H:Type}:TypeId->List (DataW H)->List P->Prop where
 | nil (e:TypeId):RdL Pg e [] []
 | cons (e:TypeId) (d:DataW H) (ds:List (DataW H)) (p ps:List P):Rd Pg e d p->RdL Pg e ds ps->RdL Pg e (d::ds) (p++ps)
inductive RdF (Pg:Program) {H:Type}:List Field->List (DataW H)->List P->Prop where
 | nil:RdF Pg [] [] []
 | cons (f:Field) (fs:List Field) (d:DataW H) (ds:List (DataW H)) (p ps:List P):Rd Pg f.type d p->RdF Pg fs ds ps->RdF Pg (f::fs) (d::ds) (p++ps)
end
section
variable {nm:Nm} {w:World}
def GoodR (nm:Nm) (w:World) (R:List SRow):Prop:=∀ r,r∈R->r.row.own=false/\∃ cs fz,RowR nm (av R) w.heap r.pl r.row cs fz
def CloR (R:List SRow):Prop:=∃ r,R[0]? = some r/\r.row.opn=false
theorem j9 (R X:List SRow):(av R).le (av (R++X)):=by
 intro b p h
 unfold av at h ⊢
 cases hr:R[b]? with
 | none=>rw [hr] at h;cases h
 | some r =>
  have hb:b < R.length:=(List.getElem?_eq_some_iff.1 hr).1
  rw [List.getElem?_append_left hb,hr]
  rw [hr] at h
  exact h
theorem vD (R X:List SRow) {b:Nat} (hb:b < R.length):(aq (R++X)).h.get b=(aq R).h.get b:=by
 rw [j7,j7,List.getElem?_append_left hb]
theorem Sh {R X:List SRow}:∀ b,cq R.length b->cq (R++X).length b:=by
 intro b hb
 unfold cq at *
 rw [List.length_append]
 omega
theorem RepL.ext {R:List SRow} (X:List SRow) {vs:List Value} {ps:List P} (h:RepL [] (cq R.length) (aq R).h vs ps):RepL [] (cq (R++X).length) (aq (R++X)).h vs ps :=
 h.mono Sh (fun _b hb=>vD R X hb) (fun _ _ h=>h)
theorem GoodR.old {R:List SRow} (X:List SRow) (h:GoodR nm w R):∀ r,r∈R->r.row.own=false/\∃ cs fz,RowR nm (av (R++X)) w.heap r.pl r.row cs fz:=by
 intro r hr
 obtain ⟨h1,cs,fz,h2⟩:=h r hr
 exact ⟨h1,cs,fz,h2.mono (j9 R X)⟩
theorem CloR.ext {R:List SRow} (X:List SRow) (h:CloR R):CloR (R++X):=by
 obtain ⟨r,h1,h2⟩:=h
 refine ⟨r,?_,h2⟩
 rw [List.getElem?_append_left (List.getElem?_eq_some_iff.1 h1).1]
 exact h1
structure RdRes (nm:Nm) (w:World) (R X:List SRow) (vs:List Value) (ps:List P) (cs:List Value):Prop where
 good:GoodR nm w (R++X)
 rep:RepL [] (cq (R++X).length) (aq (R++X)).h vs ps
 rel:LR nm (av (R++X)) vs cs
 ones:vs.all one=true
theorem RdRes.app {R X Y:List SRow} {vs vs':List Value} {ps ps':List P} {cs cs':List Value} (h:RdRes nm w R X vs ps cs) (k:RdRes nm w (R++X) Y vs' ps' cs'):RdRes nm w R (X++Y) (vs++vs') (ps++ps') (cs++cs') where
 good:=by rw [<- List.append_assoc];exact k.good
 rep:=by rw [<- List.append_assoc];exact (h.rep.ext Y).append k.rep
 rel:=by rw [<- List.append_assoc];exact (h.rel.mono (j9 _ _)).append k.rel
 ones:=by rw [List.all_append,h.ones,k.ones];rfl
theorem RdRes.none {R:List SRow} (h:GoodR nm w R):RdRes nm w R [] [] [] [] where
 good:=by rw [List.append_nil];exact h
 rep:=.nil
 rel:=.nil
 ones:=rfl
theorem RdRes.one {R:List SRow} (h:GoodR nm w R) {v v':Value} {p:P} (h1:Rep [] (cq R.length) (aq R).h v p) (h2:VR nm (av R) v v') (h3:AM.one v=true):RdRes nm w R [] [v] [p] [v'] where
 good:=by rw [List.append_nil];exact h
 rep:=by rw [List.append_nil];exact .one h1
 rel:=by rw [List.append_nil];exact .cons h2 .nil
 ones:=by simp only [List.all_cons,h3,List.all_nil,Bool.and_self]
end
section
variable {nm:Nm} {H:Type} {enc:TypeId×Value->H} {Pg:Program} {w:World} {ts:List TypeId}
theorem add_add {a:Addr} (h:a.spot=none) (i j:Nat):(a.add i).add j=⟨a.block,a.off+(i+j),none⟩:=by
 obtain ⟨b,o,s⟩:=a
 simp only at h
 subst h
 rw [Go.WideShapes.add_plain,Go.WideShapes.add_plain,Nat.add_assoc]
theorem vE {e:TypeId} {n:Nat} (ih:∀ (cs:List Value) (x:DataW H×List MemPlace),DataW.trod enc Pg w 0 (fun _=>true) true n e cs=some x->∀ R,GoodR nm w R->CloR R->∃ X vs ps,Rd Pg e x.1 ps/\RdRes nm w R X vs ps cs) {a:Addr} (ha:a.spot=none) :
  ∀ (xs:List (DataW H×List MemPlace)) (j:Nat),(∀ i,i < xs.length->(w.cells? 0 (a.add ((j+i) * Pg.cellsOf e)) (Pg.cellsOf e)).bind (DataW.trod enc Pg w 0 (fun _=>true) true n e)=xs[i]?)->∀ R,GoodR nm w R->CloR R ->
   ∃ X vs ps cs,RdL Pg e (xs.map (·.1)) ps/\RdRes nm w R X vs ps cs/\cs.length=xs.length * Pg.cellsOf e/\∀ i,i < cs.length->w.cell? ⟨a.block,a.off+(j * Pg.cellsOf e+i),none⟩=cs[i]?
 | [],j,_,R,hR,_=>⟨[],[],[],[],.nil e,.none hR,by simp,fun i hi=>by simp at hi⟩
 | x::xs,j,h,R,hR,hC=>by
  have h0:=h 0 (by simp)
  simp only [Nat.add_zero,List.getElem?_cons_zero,Option.bind_eq_some_iff] at h0
  obtain ⟨c1,h1,h2⟩:=h0
  obtain ⟨_,l1,g1⟩:=World.cells?_some h1
  obtain ⟨X,vs,ps,k1,k2⟩:=ih c1 x h2 R hR hC
  obtain ⟨Y,vs',ps',cs',m1,m2,m3,m4⟩:=vE ih ha xs (j+1) (fun i hi=>by
   have:=h (i+1) (by simpa using hi)
   rw [List.getElem?_cons_succ] at this
   rw [<- this,show j+1+i=j+(i+1) by omega]) (R++X) k2.good (hC.ext X)
  refine ⟨X++Y,vs++vs',ps++ps',c1++cs',.cons e x.1 _ ps ps' k1 m1,k2.app m2,?_,?_⟩
  ·rw [List.length_append,m3,l1,List.length_cons,Nat.add_mul];omega
  ·intro i hi
   rw [List.length_append] at hi
   rcases Nat.lt_or_ge i c1.length with g | g
   ·rw [List.getElem?_append_left g]
    have:=g1 i (by omega)
    rw [add_add ha] at this
    exact this
   ·rw [List.getElem?_append_right g]
    have:=m4 (i - c1.length) (by omega)
    rw [<- this]
    congr 2
    rw [Nat.add_mul]
    omega
theorem vF {n N:Nat} {cs:List Value} (ih:∀ (t:TypeId) (cs:List Value) (x:DataW H×List MemPlace),t∈ts->DataW.trod enc Pg w 0 (fun _=>true) true n t cs=some x->∀ R,GoodR nm w R->CloR R->∃ X vs ps,Rd Pg t x.1 ps/\RdRes nm w R X vs ps cs) (hN:cs.length=N) :
  ∀ (fs:List Field) (o:Nat) (xs:List (DataW H×List MemPlace)),lT Pg ts N fs o=true->xs.length=fs.length->(∀ (i:Nat) (f:Field),fs[i]? = some f->DataW.trod enc Pg w 0 (fun _=>true) true n f.type ((cs.drop f.offset).take (Pg.cellsOf f.type))=xs[i]?)->∀ R,GoodR nm w R->CloR R ->
   ∃ X vs ps,RdF Pg fs (xs.map (·.1)) ps/\RdRes nm w R X vs ps (cs.drop o)
 | [],o,xs,hok,hl,_,R,hR,_=>by
  cases xs with
  | cons=>simp at hl
  | nil =>
   have:o=N:=Nat.eq_of_beq_eq_true hok
   refine ⟨[],[],[],.nil,?_⟩
   rw [List.drop_of_length_le (by omega)]
   exact .none hR
 | f::fs,o,[],_,hl,_,_,_,_=>by simp at hl
 | f::fs,o,x::xs,hok,hl,h,R,hR,hC=>by
  simp only [lT,Bool.and_eq_true] at hok
  obtain ⟨⟨e1,e2⟩,e3⟩:=hok
  have e1:f.offset=o:=Nat.eq_of_beq_eq_true e1
  have h0:=h 0 f rfl
  rw [List.getElem?_cons_zero] at h0
  obtain ⟨X,vs,ps,k1,k2⟩:=ih f.type _ x (List.contains_iff_mem.1 e2) h0 R hR hC
  obtain ⟨Y,vs',ps',m1,m2⟩:=vF ih hN fs (o+Pg.cellsOf f.type) xs e3 (by simpa using hl) (fun i g hg=>by
   have:=h (i+1) g (by rw [List.getElem?_cons_succ];exact hg)
   rw [List.getElem?_cons_succ] at this
   exact this) (R++X) k2.good (hC.ext X)
  refine ⟨X++Y,vs++vs',ps++ps',.cons f fs x.1 _ ps ps' k1 m1,?_⟩
  have:=k2.app m2
  rw [e1] at this
  have e4:(cs.drop o).take (Pg.cellsOf f.type)++cs.drop (o+Pg.cellsOf f.type)=cs.drop o:=by
   rw [<- List.drop_drop,List.take_append_drop]
  rw [e4] at this
  exact this
theorem o8 (hts:j8 Pg ts=true):∀ (n:Nat) (t:TypeId) (cs:List Value) (x:DataW H×List MemPlace),t∈ts->DataW.trod enc Pg w 0 (fun _=>true) true n t cs=some x->∀ R,GoodR nm w R->CloR R->∃ X vs ps,Rd Pg t x.1 ps/\RdRes nm w R X vs ps cs
 | 0,_,_,_,_,h,_,_,_=>by simp [DataW.trod] at h
 | n + 1,t,cs,x,ht,h,R,hR,hC=>by
  have hok:=List.all_eq_true.1 hts t ht
  unfold o7 at hok
  split at hok
  ·rename_i hu
   obtain ⟨b,rfl,rfl⟩:=DataW.trod_bool hu h
   exact ⟨[],_,_,.bool t b hu,.one hR (.c _) (.bool b) rfl⟩
  ·rename_i hu
   obtain ⟨s,rfl,rfl,hs⟩:=DataW.trod_string hu h
   exact ⟨[],_,_,.str t s hu hs,.one hR (.c _) (.str s) rfl⟩
  ·rename_i k hu
   obtain ⟨z,rfl,rfl,hz⟩:=DataW.trod_int hu h
   exact ⟨[],_,_,.int t k z hu hz,.one hR (.c _) (.int k z) rfl⟩
  ·rename_i e hu
   simp only [Bool.and_eq_true] at hok
   have he:=List.contains_iff_mem.1 hok.1
   have hsz:0 < Pg.cellsOf e:=Nat.le_of_ble_eq_true hok.2
   rcases DataW.trod_slice hu h with ⟨rfl,rfl⟩ | ⟨a,len,cap,elems,rest,m,hm,rfl,rfl,_,hlc,_,hel,hin,hrest,_⟩
   ·exact ⟨[],_,_,.nils t e hu,.one hR (.nil _) (.nils 0 0) rfl⟩
   ·obtain rfl:n=m:=by omega
    obtain ⟨hrl,hrin⟩:=hrest rfl
    have ih:=fun cs x=>o8 hts n e cs x he
    by_cases hcap:cap=0
    ·obtain ⟨r0,hr0,hr1⟩:=hC
     have hlen:len=0:=by omega
     subst hlen
     subst hcap
     have hel0:elems=[]:=List.eq_nil_of_length_eq_zero hel
     subst hel0
     obtain ⟨_,cs0,fz0,hr2⟩:=hR r0 (List.mem_of_getElem? hr0)
     refine ⟨[],[.slice (some ⟨0,0,none⟩) 0 0],_,.slice t e [] _ [] hu (.nil e),.one hR ?_ ?_ rfl⟩
     ·refine .sl ⟨0,0,none⟩ _ 0 0 [] [] (List.getElem?_eq_some_iff.1 hr0).1 ⟨rfl,r0.row,?_,(fun ho=>by rw [hr1] at ho;cases ho),by simp,rfl,fun i hi=>by simp at hi⟩ (by simp) (Nat.le_refl _) .nil
      show (aq R).h.get 0=_
      rw [j7,hr0]
      rfl
     ·have hp:av R 0=some r0.pl:=by
       unfold av;rw [hr0];rfl
      have hop:r0.pl.opn=false:=by rw [hr2.opn];exact hr1
      exact .slc ⟨0,0,none⟩ a 0 0 0 r0.pl hp rfl (.inl rfl) (.inl rfl) (.inl rfl) (fun _=>rfl) (fun ho=>by rw [hop] at ho;cases ho) (Nat.le_refl _)
    ·have slot:∀ k,k < cap->∃ c1,w.cells? 0 (a.add (k * Pg.cellsOf e)) (Pg.cellsOf e)=some c1:=by
      intro k hk
      rcases Nat.lt_or_ge k len with g | g
      ·have h1:=hin k g
       rw [List.getElem?_eq_getElem (by omega),Option.bind_eq_some_iff] at h1
       exact ⟨_,h1.choose_spec.1⟩
      ·have h1:=hrin (k - len) (by omega)
       rw [List.getElem?_eq_getElem (by omega),Option.bind_eq_some_iff,show len+(k - len)=k by omega] at h1
       exact ⟨_,h1.choose_spec.1⟩
     obtain ⟨c1,hc1⟩:=slot 0 (by omega)
     obtain ⟨_,l1,g1⟩:=World.cells?_some hc1
     have g1:=g1 0 hsz
     rw [List.getElem?_eq_getElem (by omega),Nat.zero_mul] at g1
     have ha:a.spot=none:=by simpa [Addr.add] using World.cell?_spot g1
     obtain ⟨c2,hc2⟩:=slot (cap - 1) (by omega)
     obtain ⟨_,l2,g2⟩:=World.cells?_some hc2
     have g2:=g2 (Pg.cellsOf e - 1) (by omega)
     rw [List.getElem?_eq_getElem (by omega),add_add ha] at g2
     obtain ⟨cs0,el,fz,hb⟩:∃ cs0 el fz,w.heap[a.block]? = some (.cells cs0 el fz):=by
      unfold World.cell? at g2
      split at g2
      ·rename_i c t0 fz0 hb
       exact ⟨c,t0,fz0,hb⟩
      ·cases g2
     have hcell:∀ i,w.cell? ⟨a.block,i,none⟩=cs0[i]? := fun i=>by
      unfold World.cell?
      rw [hb]
      rfl
     rw [hcell] at g2
     have hfit:a.off+cap * Pg.cellsOf e<=cs0.size:=by
      have h1:=(Array.getElem?_eq_some_iff.1 g2).1
      have h2:cap * Pg.cellsOf e=(cap - 1) * Pg.cellsOf e+Pg.cellsOf e:=by
       obtain ⟨c,rfl⟩:∃ c,cap=c+1:=⟨cap - 1,by omega⟩
       rw [Nat.add_mul];simp
      omega
     obtain ⟨X,vs,ps,cs,k1,k2,k3,k4⟩:=vE ih ha elems 0 (fun i hi=>by rw [Nat.zero_add];exact hin i (by omega)) R hR hC
     rw [hel] at k3
     have hvl:vs.length=len * Pg.cellsOf e:=by rw [k2.rel.length,k3]
     have hle:len * Pg.cellsOf e<=cap * Pg.cellsOf e:=Nat.mul_le_mul_right _ hlc
     let s:SRow:={ row:={ own:=false,size:=len * Pg.cellsOf e,cells:=T.ofList vs,elem:=el,esz:=Pg.cellsOf e,opn:=true,grp:=0,frz:=0,sb:=false },pl:={ blk:=a.block,off:=a.off,csz:=cs0.size,esz:=Pg.cellsOf e,opn:=true } }
     have hs:(R++X++[s])[(R++X).length]? = some s:=by rw [List.getElem?_append_right (Nat.le_refl _),Nat.sub_self];rfl
     have hgood:GoodR nm w (R++X++[s]):=by
      intro r hr
      rcases List.mem_append.1 hr with hr | hr
      ·exact k2.good.old [s] r hr
      ·obtain rfl:=List.mem_singleton.1 hr
       refine ⟨rfl,cs0,fz,{ blk:=hb,csz:=rfl,opn:=rfl,esz:=fun _=>rfl,fit:=Nat.le_trans (Nat.add_le_add_left hle _) hfit,cell:=fun i hi=>?_,frz:=(fun h=>by cases h),sb:=(fun h=>by cases h),exact:=(fun h=>by cases h) }⟩
       have hi2:i < len * Pg.cellsOf e:=hi
       obtain ⟨v',hv1,hv2⟩:=k2.rel.get? (List.getElem?_eq_getElem (by omega:i < vs.length))
       refine ⟨vs[i],(T.get_ofList _ _).trans (List.getElem?_eq_getElem (by omega)),?_⟩
       have h1:=k4 i (by omega)
       rw [hv1,hcell,Nat.zero_mul,Nat.zero_add] at h1
       have h2:cs0.getD (a.off+i) undef=v':=by
        rw [Array.getD_eq_getD_getElem?,h1];rfl
       show VR nm _ _ (cs0.getD (a.off+i) undef)
       rw [h2]
       exact hv2.mono (j9 _ _)
     have hrep:=k2.rep.ext [s]
     refine ⟨X++[s],[.slice (some ⟨(R++X).length,0,none⟩) len len],_,.slice t e (elems.map (·.1)) _ ps hu k1,?_⟩
     constructor
     ·rw [<- List.append_assoc];exact hgood
     ·rw [<- List.append_assoc,List.length_map,hel]
      refine .one (.sl _ _ _ _ vs ps ?_ ⟨rfl,s.row,?_,fun _=>rfl,?_,k2.ones,fun i hi=>?_⟩ hvl (Nat.le_refl _) hrep)
      ·show (R++X).length < (R++X++[s]).length
       simp
      ·show (aq (R++X++[s])).h.get (R++X).length=_
       rw [j7,hs]
       rfl
      ·show 0+vs.length<=len * Pg.cellsOf e
       omega
      ·show (T.ofList vs).get (0+i)=_
       rw [T.get_ofList,Nat.zero_add]
     ·rw [<- List.append_assoc]
      refine .cons (.slc _ a len len cap s.pl ?_ rfl (.inr rfl) (.inr ha) (.inr rfl) (fun h=>by cases h) (fun _=>⟨hlc,hfit⟩) (Nat.le_refl _)) .nil
      show av (R++X++[s]) (R++X).length=_
      unfold av
      rw [hs]
      rfl
     ·rfl
  ·rename_i fs hu
   obtain ⟨xs,m,hm,rfl,hlen,hxl,hf⟩:=DataW.trod_struct hu h
   obtain rfl:n=m:=by omega
   obtain ⟨X,vs,ps,k1,k2⟩:=vF (n:=n) (fun t cs x ht=>o8 hts n t cs x ht) hlen fs.toList 0 xs hok (by simpa using hxl) (fun i f hi=>hf i f (by simpa using hi)) R hR hC
   exact ⟨X,vs,ps,.struct t fs _ ps hu k1,k2⟩
  ·cases hok
end
end Go.AM.PV
