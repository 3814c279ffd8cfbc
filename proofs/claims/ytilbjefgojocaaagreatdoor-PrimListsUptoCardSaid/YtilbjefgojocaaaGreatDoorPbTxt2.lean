/- The law PrimTexts, over values. -/
import Derived.Test.YtilbjefgojocaaaGreatDoorProg
import Derived.Ground.NamesProg
import Derived.WalkKit
import Derived.WalkMore
import Derived.Below
import Derived.Shelf.Unicode.ValidAny
import Derived.Shelf.Unicode.DecodeAny
import Derived.Test.YtilbjefgojocaaaGreatDoorPvZ1
import Derived.Test.YtilbjefgojocaaaGreatDoorPvRead
import Derived.Test.YtilbjefgojocaaaGreatDoorPbMeas
import Derived.Lib.MapLaws
import Derived.Lib.ValidU
import Derived.Lib.Join
import Derived.Test.YtilbjefgojocaaaGreatDoorPbTree8
import Derived.Test.YtilbjefgojocaaaGreatDoorRows
import Derived.ProofKit
namespace Go.Proofs
open Go.Shelf
def Tryz.laysValid_ren:Go.Shelf.Ren:=⟨fun | 196=>64 | 259=>101 | n=>n,fun | 9=>9 | 4=>4 | 3=>3 | 5=>5 | 12=>12 | 119=>154 | 0=>0 | 46=>107 | 139=>160 | 138=>159 | 53=>165 | n=>n,fun | 3=>1 | 4=>2 | n=>n⟩
theorem Tryz.laysValid:Go.Proofs.Lays.n196 Tryz.prog Tryz.laysValid_ren:={
 mixed:=by kernel_rfl
 f196:=Tryz.func64.trans (congrArg some (by kernel_rfl))
 f259:=Tryz.func101.trans (congrArg some (by kernel_rfl))
 t0:=Tryz.underlying0
 a0:=Tryz.isAgg0
 z0:=Tryz.sizeOf0
 v0:=Tryz.zeroValue0
 t3:=Tryz.underlying3
 a3:=Tryz.isAgg3
 z3:=Tryz.sizeOf3
 v3:=Tryz.zeroValue3
 t4:=Tryz.underlying4
 a4:=Tryz.isAgg4
 z4:=Tryz.sizeOf4
 v4:=Tryz.zeroValue4
 t5:=Tryz.underlying5
 a5:=Tryz.isAgg5
 z5:=Tryz.sizeOf5
 v5:=Tryz.zeroValue5
 t9:=Tryz.underlying9
 a9:=Tryz.isAgg9
 z9:=Tryz.sizeOf9
 v9:=Tryz.zeroValue9
 t12:=Tryz.underlying12
 a12:=Tryz.isAgg12
 z12:=Tryz.sizeOf12
 v12:=Tryz.zeroValue12
 t46:=Tryz.underlying107
 a46:=Tryz.isAgg107
 z46:=Tryz.sizeOf107
 v46:=Tryz.zeroValue107
 t53:=Tryz.underlying165
 a53:=Tryz.isAgg165
 z53:=Tryz.sizeOf165
 v53:=Tryz.zeroValue165
 t119:=Tryz.underlying154
 a119:=Tryz.isAgg154
 z119:=Tryz.sizeOf154
 t138:=Tryz.underlying159
 a138:=Tryz.isAgg159
 z138:=Tryz.sizeOf159
 v138:=Tryz.zeroValue159
 t139:=Tryz.underlying160
 a139:=Tryz.isAgg160
 z139:=Tryz.sizeOf160
 v139:=Tryz.zeroValue160
 g3:=by kernel_rfl
 g4:=by kernel_rfl }
def Tryz.laysDecode_ren:Go.Shelf.Ren:=⟨fun | 197=>145 | 260=>165 | n=>n,fun | 9=>9 | 21=>21 | 3=>3 | 4=>4 | 5=>5 | 105=>208 | 119=>154 | 0=>0 | 46=>107 | 139=>160 | 138=>159 | n=>n,fun | 3=>1 | 4=>2 | n=>n⟩
theorem Tryz.laysDecode:Go.Proofs.Lays.n197 Tryz.prog Tryz.laysDecode_ren:={
 mixed:=by kernel_rfl
 f197:=Tryz.func145.trans (congrArg some (by kernel_rfl))
 f260:=Tryz.func165.trans (congrArg some (by kernel_rfl))
 t0:=Tryz.underlying0
 a0:=Tryz.isAgg0
 z0:=Tryz.sizeOf0
 v0:=Tryz.zeroValue0
 t3:=Tryz.underlying3
 a3:=Tryz.isAgg3
 z3:=Tryz.sizeOf3
 v3:=Tryz.zeroValue3
 t4:=Tryz.underlying4
 a4:=Tryz.isAgg4
 z4:=Tryz.sizeOf4
 v4:=Tryz.zeroValue4
 t5:=Tryz.underlying5
 a5:=Tryz.isAgg5
 z5:=Tryz.sizeOf5
 v5:=Tryz.zeroValue5
 t9:=Tryz.underlying9
 a9:=Tryz.isAgg9
 z9:=Tryz.sizeOf9
 v9:=Tryz.zeroValue9
 t21:=Tryz.underlying21
 a21:=Tryz.isAgg21
 z21:=Tryz.sizeOf21
 v21:=Tryz.zeroValue21
 t46:=Tryz.underlying107
 a46:=Tryz.isAgg107
 z46:=Tryz.sizeOf107
 v46:=Tryz.zeroValue107
 t105:=Tryz.underlying208
 a105:=Tryz.isAgg208
 z105:=Tryz.sizeOf208
 v105:=Tryz.zeroValue208
 t119:=Tryz.underlying154
 a119:=Tryz.isAgg154
 z119:=Tryz.sizeOf154
 t138:=Tryz.underlying159
 a138:=Tryz.isAgg159
 z138:=Tryz.sizeOf159
 v138:=Tryz.zeroValue159
 t139:=Tryz.underlying160
 a139:=Tryz.isAgg160
 z139:=Tryz.sizeOf160
 v139:=Tryz.zeroValue160
 g3:=by kernel_rfl
 g4:=by kernel_rfl }
end Go.Proofs
namespace Go.AM.PV
open Go Go.AM Go.AM.SX Go.Proofs
def firstCells:List Value:=(List.range 256).map fun c=>.int .u8 (Lib.firstT c)
def jQ:List Value:=((List.range 16).map fun i=>[Value.int .u8 (Lib.accLo i),Value.int .u8 (Lib.accHi i)]).flatten
def eL:GRow:={ g:=1,cells:=firstCells,elem:=0 }
def eM:GRow:={ g:=2,cells:=jQ,elem:=0 }
def fD (s:ByteArray):Known:={ f:=64,args:=[.string s],looks:=[eL,eM],v:=.bool (Lib.validD s.data.toList),cnt:=0,objs:=[] }
theorem sj (c:Nat) (h:c < 256):firstCells[c]? = some (.int .u8 (Lib.firstT c)):=by
 unfold firstCells
 rw [List.getElem?_map,List.getElem?_range h]
 rfl
theorem sn:∀ i,i < 16->jQ[2 * i]? = some (.int .u8 (Lib.accLo i))/\jQ[2 * i+1]? = some (.int .u8 (Lib.accHi i))
 | 0,_=>⟨rfl,rfl⟩
 | 1,_=>⟨rfl,rfl⟩
 | 2,_=>⟨rfl,rfl⟩
 | 3,_=>⟨rfl,rfl⟩
 | 4,_=>⟨rfl,rfl⟩
 | 5,_=>⟨rfl,rfl⟩
 | 6,_=>⟨rfl,rfl⟩
 | 7,_=>⟨rfl,rfl⟩
 | 8,_=>⟨rfl,rfl⟩
 | 9,_=>⟨rfl,rfl⟩
 | 10,_=>⟨rfl,rfl⟩
 | 11,_=>⟨rfl,rfl⟩
 | 12,_=>⟨rfl,rfl⟩
 | 13,_=>⟨rfl,rfl⟩
 | 14,_=>⟨rfl,rfl⟩
 | 15,_=>⟨rfl,rfl⟩
 | n+16,h=>absurd h (by omega)
theorem Gu (nm:Nm) (s:ByteArray) (hs:s.size<=9223372036854775807):KnownOk Tryz.prog nm (fD s) where
 calls:=by
  intro w hw
  obtain ⟨t1,z1,h1⟩:=hw eL (by simp [fD])
  obtain ⟨t2,z2,h2⟩:=hw eM (by simp [fD])
  have hT:Lib.Utf8Tabs (Tryz.laysValid_ren.g 3) (Tryz.laysValid_ren.g 4) w:=by
   show Lib.Utf8Tabs 1 2 w
   refine ⟨fun c hc=>?_,fun i hi=>?_⟩
   ·show w.cell? ⟨1,c,none⟩=_
    have h1:w.heap[1]? = some (.cells firstCells.toArray t1 z1):=h1
    simp only [World.cell?,h1,List.getElem?_toArray]
    exact sj c hc
   ·have h2:w.heap[2]? = some (.cells jQ.toArray t2 z2):=h2
    simp only [World.cell?,h2,List.getElem?_toArray]
    exact sn i hi
  have hc:Calls Tryz.prog 64 #[.string s] w _:=Any.utf8_ValidString Tryz.laysValid s w hs hT
  refine hc.mono ?_
  rintro e w' ⟨he,hb⟩
  refine ⟨fun _=>none,.bool (Lib.validD s.data.toList),fun _ _ h=>(by cases h),fun _ _=>rfl,fun _ h=>(by cases h),fun _ _ _ _ h=>(by cases h),hb.block,hb.size,⟨hb.tape,hb.os,hb.output⟩,.bool _,he⟩
 shal:=rfl
 shalR:=rfl
 plain:=rfl
def gy (s:ByteArray):Known:={ f:=145,args:=[.string s],looks:=[eL,eM],v:=.tuple #[.int .i32 (Lib.decodeGo s).1,.int .i64 (Lib.decodeGo s).2],cnt:=0,objs:=[] }
theorem Gv {w:World} {t1 t2:TypeId} {z1 z2:Nat×Nat} (h1:w.heap[1]? = some (.cells firstCells.toArray t1 z1)) (h2:w.heap[2]? = some (.cells jQ.toArray t2 z2)):Lib.Utf8Tabs 1 2 w:=by
 refine ⟨fun c hc=>?_,fun i hi=>?_⟩
 ·simp only [World.cell?,h1,List.getElem?_toArray]
  exact sj c hc
 ·simp only [World.cell?,h2,List.getElem?_toArray]
  exact sn i hi
theorem Gw (nm:Nm) (s:ByteArray):KnownOk Tryz.prog nm (gy s) where
 calls:=by
  intro w hw
  obtain ⟨t1,z1,h1⟩:=hw eL (by simp [gy])
  obtain ⟨t2,z2,h2⟩:=hw eM (by simp [gy])
  have hT:Lib.Utf8Tabs (Tryz.laysDecode_ren.g 3) (Tryz.laysDecode_ren.g 4) w:=Gv h1 h2
  have hc:Calls Tryz.prog 145 #[.string s] w _:=Any.utf8_DecodeRuneInString Tryz.laysDecode s w hT
  refine hc.mono ?_
  rintro e w' ⟨he,hb⟩
  refine ⟨fun _=>none,.tuple #[.int .i32 (Lib.decodeGo s).1,.int .i64 (Lib.decodeGo s).2],fun _ _ h=>(by cases h),fun _ _=>rfl,fun _ h=>(by cases h),fun _ _ _ _ h=>(by cases h),hb.block,hb.size,⟨hb.tape,hb.os,hb.output⟩,?_,he⟩
  exact .tuple' (.of rfl fun i hi=>by
   match i,hi with
   | 0,_=>exact .int _ _
   | 1,_=>exact .int _ _)
 shal:=rfl
 shalR:=rfl
 plain:=rfl
def xtU (f:FuncId) (vs:List Value):Option Known:=match f,vs with
 | 64,[.string s]=>if s.size<=9223372036854775807 then some (fD s) else none
 | 145,[.string s]=>some (gy s)
 | _,_=>none
theorem Gx (nm:Nm):∀ f vs k,xtU f vs=some k->KnownOk Tryz.prog nm k/\k.f=f/\k.args=vs:=by
 intro f vs k h
 unfold xtU at h
 split at h
 ·split at h
  ·rename_i hs
   cases h
   exact ⟨Gu nm _ hs,rfl,rfl⟩
  ·cases h
 ·cases h
  exact ⟨Gw nm _,rfl,rfl⟩
 ·cases h
theorem Gy {E:Env} {gl:List GRow} {s:ByteArray} (hs:s.size<=9223372036854775807) (hk:cc 64 [.string s] E.known=none) (hx:E.xf.any (Nat.beq 64)=true) (hxt:∀ f vs k,xtU f vs=some k->E.xt f vs=some k)
  (h1:eL∈gl) (h2:eM∈gl) (hn:2 < E.ng) (μ:Mu):PR E gl 64 [.c (.string s)] μ (.c (.bool (Lib.validD s.data.toList))) μ:=by
 have hh:xtU 64 [.string s]=some (fD s):=by
  show (if s.size<=9223372036854775807 then some (fD s) else none)=_
  rw [if_pos hs]
 refine PR.known (k:=fD s) (vO hk hx (hxt _ _ _ hh)) ?_ rfl μ
 intro r hr
 simp only [fD,List.mem_cons,List.not_mem_nil,or_false] at hr
 rcases hr with rfl | rfl
 ·exact ⟨h1,by show 1 < E.ng;omega⟩
 ·exact ⟨h2,hn⟩
theorem Gz {E:Env} {gl:List GRow} {s:ByteArray} (hk:cc 145 [.string s] E.known=none) (hx:E.xf.any (Nat.beq 145)=true) (hxt:∀ f vs k,xtU f vs=some k->E.xt f vs=some k)
  (h1:eL∈gl) (h2:eM∈gl) (hn:2 < E.ng) (μ:Mu):PR E gl 145 [.c (.string s)] μ (.c (.tuple #[.int .i32 (Lib.decodeGo s).1,.int .i64 (Lib.decodeGo s).2])) μ:=by
 refine PR.known (k:=gy s) (vO hk hx (hxt _ _ _ rfl)) ?_ rfl μ
 intro r hr
 simp only [gy,List.mem_cons,List.not_mem_nil,or_false] at hr
 rcases hr with rfl | rfl
 ·exact ⟨h1,by show 1 < E.ng;omega⟩
 ·exact ⟨h2,hn⟩
end Go.AM.PV
namespace Go.AM.PV
open Go Go.AM Go.AM.SX
attribute [local irreducible] pz
section
variable {E:Env} {gl:List GRow} {cfg:Cfg} {fuel:Nat}
theorem HA (hE:SxEnv E) (h124:aC E cfg fuel 124 1=some t124) (h146:aC E cfg fuel 146 1=some t146) (h67:aC E cfg fuel 67 2=some t67) (h105:aC E cfg fuel 105 2=some t105) {s:ByteArray} (hlen:s.size<=1048576)
  (h145:PR E gl 145 [.c (.string s)] [] (.c (.tuple #[.int .i32 (Lib.decodeGo s).1,.int .i64 (Lib.decodeGo s).2])) []) :
  PR E gl 124 [St s] [] (.tup [.any,Bo (fG (aI s s.size 0)),.any]) []:=by
 have hp1:=uf (gl:=gl) hE h67 h105 s ⟨[45].toArray⟩
 have hp2:=uf (gl:=gl) hE h67 h105 s ⟨[226,136,146].toArray⟩
 cases h1:cn s ⟨[45].toArray⟩ with
 | true =>
  rw [h1] at hp1
  obtain ⟨e1,e2,e3⟩:=NV h1
  rw [e1] at h145
  rw [<- e3]
  exact NQ hE h124 h146 hlen hp1 (r0:=(45:Nat)) (k:=1) e2 h145
 | false =>
  rw [h1] at hp1
  cases h2:cn s ⟨[226,136,146].toArray⟩ with
  | true =>
   rw [h2] at hp2
   obtain ⟨e1,e2,e3⟩:=NW h2
   rw [e1] at h145
   rw [<- e3]
   exact NR hE h124 h146 hlen hp1 hp2 (r0:=(8722:Nat)) (k:=3) e2 h145
  | false =>
   rw [h2] at hp2
   rw [<- NZ h1 h2]
   exact NP hE h124 h146 hlen hp1 hp2
end
end Go.AM.PV
namespace Go.AM.PV
open Go Go.AM Go.AM.SX
attribute [local irreducible] pz aQ
section
variable {E:Env} {gl:List GRow} {cfg:Cfg} {fuel:Nat}
theorem PR.pure {f:FuncId} {ws:List Value} {v:Value} (h:∀ A:Go.AM.St,cP E f ws A v A) (μ:Mu):PR E gl f (ws.map .c) μ (.c v) μ:=by
 intro A β S vs gs gm R
 have hv:vs=ws:=by
  have h1:=R.vars.fz
  rw [List.map_map] at h1
  have:∀ (ws vs:List Value),RepL β S A.h vs (ws.map (fz ∘ .c))->vs=ws:=by
   intro ws
   induction ws with
   | nil=>intro vs h;cases h;rfl
   | cons a ws ih =>
    intro vs h
    cases h with
    | cons v _ vs _ h1 h2=>cases h1;rw [ih vs h2]
  exact this ws vs h1
 subst hv
 refine ⟨v,A,β,S,[],gm,h A,⟨⟨Nat.le_refl _,fun _ _ _=>rfl,fun _ _ _=>rfl⟩,fun _ _=>rfl,fun _ h=>.inl h,fun _ h=>h,fun _ h=>.inl h,fun j hj=>.inl (List.mem_append_right _ hj)⟩,?_⟩
 exact R.setVars (RepO.one (Rep.toT (.c v))) ⟨gs,by simp⟩
def cK (l:List UInt8) (c:UInt8):Int:=match l.findIdx? (·==c) with
 | some i=>(i:Int)
 | none=>-1
theorem sq (hE:SxEnv E) (h153:aC E cfg fuel 153 2=some t153) (s:ByteArray) (c:Int) (μ:Mu):PR E gl 153 [St s,.c (.int .u8 c)] μ (I (cK s.data.toList c.toNat.toUInt8)) μ:=by
 refine PR.pure (ws:=[.string s,.int .u8 c]) (v:=.int .i64 (cK s.data.toList c.toNat.toUInt8)) (fun A=>?_) μ
 obtain ⟨v,A',h1,h2⟩:=gH hE (vs:=[.string s,.int .u8 c]) h153 (A:=A) (Q:=fun v B=>v=.int .i64 (cK s.data.toList c.toNat.toUInt8)/\B=A) (by
  unfold t153
  refine aE (v:=.int .i64 (cK s.data.toList c.toNat.toUInt8)) (A':=A) rfl ?_
  refine aj ?_
  intro v hv
  have hv:[Value.int .i64 (cK s.data.toList c.toNat.toUInt8)]=[v]:=hv
  cases hv
  exact ⟨rfl,rfl⟩)
 obtain ⟨rfl,rfl⟩:=h2
 exact h1
def fy (r:Int):Bool:=(decide (0<=r)&&decide (r < 55296))||(decide (57343 < r)&&decide (r<=1114111))
theorem HB (hE:SxEnv E) (h191:aC E cfg fuel 191 1=some t191) (r:Int):PR E gl 191 [R32 r] [] (Bo (fy r)) []:=by
 refine fnZ hE (cfg:=cfg) (fuel:=fuel) h191 (by kernel_rfl) ?_
 unfold t191
 repeat' (first | (refine aG 0 rfl (Nat.zero_le _) rfl rfl (And.intro ?_ rfl)) | refine bS rfl (fun h=>?_) (fun h=>?_) | refine aA ?_)
 all_goals first
  | (rw [show fy r=true by unfold fy;simp only [Bool.or_eq_true,Bool.and_eq_true,decide_eq_true_eq];omega];rfl)
  | (rw [show fy r=false by unfold fy;simp only [Bool.or_eq_false_iff,Bool.and_eq_false_iff,decide_eq_false_iff_not];omega];rfl)
def blk:List UInt8:=[9,10,13,32,194,160,227,128,128]
theorem n7 {l:List UInt8} {c:UInt8} (h:c ∉ l):cK l c=-1:=by
 unfold cK
 have:l.findIdx? (·==c)=none:=by
  rw [List.findIdx?_eq_none_iff]
  intro x hx
  exact beq_eq_false_iff_ne.2 fun e=>h (e ▸ hx)
 rw [this]
theorem eN {n:Nat} (h:n < 256):(UInt8.ofNat n).toNat=n:=by
 rw [UInt8.toNat_ofNat'];omega
theorem HC {r:Int} (h0:128<=r) (h1:r < 2048):∃ a b:UInt8,Utf8.encode r=⟨[a,b].toArray⟩/\(a.toNat:Int)=192+r / 64/\(b.toNat:Int)=128+r % 64:=by
 obtain ⟨n,rfl⟩:∃ n:Nat,r=n:=⟨r.toNat,by omega⟩
 refine ⟨UInt8.ofNat (0xC0+n / 64),UInt8.ofNat (0x80+n % 64),?_,?_,?_⟩
 ·have hv:Utf8.valid (n:Int)=true:=by simp [Utf8.valid];omega
  unfold Utf8.encode
  simp only [hv,if_true,Int.toNat_natCast]
  rw [if_neg (by omega),if_pos (by omega)]
 ·rw [eN (by omega)];omega
 ·rw [eN (by omega)];omega
theorem HD {r:Int} (h0:2048<=r) (h1:r < 65536) (hv:Utf8.valid r=true):∃ a b c:UInt8,Utf8.encode r=⟨[a,b,c].toArray⟩/\(a.toNat:Int)=224+r / 4096/\(b.toNat:Int)=128+r / 64 % 64/\(c.toNat:Int)=128+r % 64:=by
 obtain ⟨n,rfl⟩:∃ n:Nat,r=n:=⟨r.toNat,by omega⟩
 refine ⟨UInt8.ofNat (0xE0+n / 4096),UInt8.ofNat (0x80+n / 64 % 64),UInt8.ofNat (0x80+n % 64),?_,?_,?_,?_⟩
 ·unfold Utf8.encode
  simp only [hv,if_true,Int.toNat_natCast]
  rw [if_neg (by omega),if_neg (by omega),if_pos (by omega)]
 ·rw [eN (by omega)];omega
 ·rw [eN (by omega)];omega
 ·rw [eN (by omega)];omega
theorem HE {r:Int} (h0:65536<=r) (h1:r<=1114111) (hv:Utf8.valid r=true):∃ a b c e:UInt8,Utf8.encode r=⟨[a,b,c,e].toArray⟩/\(a.toNat:Int)=240+r / 262144/\(b.toNat:Int)=128+r / 4096 % 64/\(c.toNat:Int)=128+r / 64 % 64/\(e.toNat:Int)=128+r % 64:=by
 obtain ⟨n,rfl⟩:∃ n:Nat,r=n:=⟨r.toNat,by omega⟩
 refine ⟨UInt8.ofNat (0xF0+n / 262144),UInt8.ofNat (0x80+n / 4096 % 64),UInt8.ofNat (0x80+n / 64 % 64),UInt8.ofNat (0x80+n % 64),?_,?_,?_,?_,?_⟩
 ·unfold Utf8.encode
  simp only [hv,if_true,Int.toNat_natCast]
  rw [if_neg (by omega),if_neg (by omega),if_neg (by omega)]
 ·rw [eN (by omega)];omega
 ·rw [eN (by omega)];omega
 ·rw [eN (by omega)];omega
 ·rw [eN (by omega)];omega
section
variable {E:Env} {gl:List GRow} {cfg:Cfg} {fuel:Nat}
theorem HF (b:UInt8):((b.toNat:Int)).toNat.toUInt8=b:=by simp
theorem HG:∀ n,n < 128->decide (cK blk (UInt8.ofNat n)>=0)=fF n:=by decide
theorem gz (hE:SxEnv E) (h153:aC E cfg fuel 153 2=some t153) (k:Nat) (x:UInt8) {v:Int} (h:cK (blk.drop k) x=v):PR E gl 153 [.c (.string ((⟨blk.toArray⟩:ByteArray).extract k (⟨blk.toArray⟩:ByteArray).size)),.c (.int .u8 (x.toNat:Int))] [] (I v) []:=by
 have:=sq (gl:=gl) hE h153 ((⟨blk.toArray⟩:ByteArray).extract k (⟨blk.toArray⟩:ByteArray).size) (x.toNat:Int) []
 rw [HF,oV] at this
 rwa [show ((⟨blk.toArray⟩:ByteArray).data.toList.drop k)=blk.drop k from rfl,h] at this
set_option maxHeartbeats 4000000 in
theorem HH (hE:SxEnv E) (h157:aC E cfg fuel 157 1=some t157) (h153:aC E cfg fuel 153 2=some t153) (h191:aC E cfg fuel 191 1=some t191) (r:Int) (h0:0<=r) (h1:r<=1114111):PR E gl 157 [R32 r] [] (Bo (fF r)) []:=by
 refine fnZ hE (cfg:=cfg) (fuel:=fuel) h157 (by kernel_rfl) ?_
 unfold t157
 by_cases hlow:r < 128
 ·obtain ⟨n,rfl⟩:∃ n:Nat,r=n:=⟨r.toNat,by omega⟩
  have hq:=sq (gl:=gl) hE h153
  refine aA ?_
  refine aG 0 rfl (Nat.zero_le _) rfl rfl (And.intro ?_ rfl)
  have hn:n < 128:=by omega
  have e1:aV .u8 (n:Int)=n:=by
   unfold aV
   rw [if_pos ⟨by simp only [lo];omega,by simp only [hi];omega⟩]
  have e2:((n:Int)).toNat.toUInt8=UInt8.ofNat n:=rfl
  try dsimp only [go_sem]
  rw [e1,e2,<- HG n hn]
  rfl
 by_cases hbad:r=65533
 ·refine aA ?_
  refine gq rfl ?_
  dsimp only [go_sem]
  refine bB (fun κ vs ν=>vs=[I 0]/\∃ pos:Nat,κ=9 - pos/\ν=[.sit ⟨blk.toArray⟩ pos]/\(pos=0\/pos=1\/pos=2\/pos=3\/pos=4\/pos=6\/pos=9)) rfl 9 _ (LeL.refl _) ⟨rfl,0,rfl,rfl,.inl rfl⟩ ?_
  rintro κ vs ν ⟨rfl,pos,rfl,rfl,hpos⟩
  try dsimp only [go_sem]
  refine gr (i:=0) (s:=⟨blk.toArray⟩) (pos:=pos) rfl rfl (fun hlt=>?_) (fun hge=>?_)
  ·have hsz:(⟨blk.toArray⟩:ByteArray).size=9:=rfl
   rw [hsz] at hlt
   obtain ⟨x,w,hd,hx,hw,hw2⟩:∃ x w,Utf8.decode ⟨blk.toArray⟩ pos=(x,w)/\x≠65533/\1<=w/\(pos+w=0\/pos+w=1\/pos+w=2\/pos+w=3\/pos+w=4\/pos+w=6\/pos+w=9):=by
    rcases hpos with rfl | rfl | rfl | rfl | rfl | rfl | rfl
    ·exact ⟨9,1,by decide,by decide,by decide,by decide⟩
    ·exact ⟨10,1,by decide,by decide,by decide,by decide⟩
    ·exact ⟨13,1,by decide,by decide,by decide,by decide⟩
    ·exact ⟨32,1,by decide,by decide,by decide,by decide⟩
    ·exact ⟨160,2,by decide,by decide,by decide,by decide⟩
    ·exact ⟨12288,3,by decide,by decide,by decide,by decide⟩
    ·omega
   rw [hd]
   dsimp only [go_sem]
   refine aA ?_
   refine aF rfl ?_
   exact ⟨9 - (pos+w),by omega,rfl,pos+w,rfl,rfl,hw2⟩
  ·refine aA ?_
   refine aF rfl ?_
   dsimp only [go_sem]
   refine aA ?_
   refine aG 0 rfl (Nat.zero_le _) rfl rfl (And.intro ?_ rfl)
   rw [hbad]
   rfl
 have hne:fF r=(decide (r=160)||decide (r=12288)):=by
  unfold fF
  rw [beq_eq_false_iff_ne.2 (by omega:r≠9),beq_eq_false_iff_ne.2 (by omega:r≠10),beq_eq_false_iff_ne.2 (by omega:r≠13),beq_eq_false_iff_ne.2 (by omega:r≠32)]
  rfl
 have hp:=HB (gl:=gl) hE h191 r
 cases hv:fy r with
 | false =>
  rw [hv] at hp
  refine aA ?_
  refine aG 0 rfl (Nat.zero_le _) rfl rfl (And.intro ?_ rfl)
  have h160:r≠160:=fun e=>by rw [e] at hv;revert hv;decide
  have h288:r≠12288:=fun e=>by rw [e] at hv;revert hv;decide
  rw [hne,decide_eq_false h160,decide_eq_false h288]
  rfl
 | true =>
  rw [hv] at hp
  have hvu:Utf8.valid r=true:=by
   unfold fy at hv
   unfold Utf8.valid
   simp only [Bool.or_eq_true,Bool.and_eq_true,decide_eq_true_eq] at hv ⊢
   omega
  refine aA ?_
  by_cases hs2:r < 2048
  ·obtain ⟨a,b,he,ha,hb⟩:=HC (by omega) hs2
   rw [he]
   rw [show (ByteArray.size ⟨[a,b].toArray⟩)=2 from rfl,show aV .i64 (((2:Nat):Int) - 1)=1 from rfl]
   have hsz:ByteArray.size ⟨[a,b].toArray⟩=2:=rfl
   have hsz2:([a,b].toArray).size=2:=rfl
   have qa:=fun v (h:cK (blk.drop 2) b=v)=>gz (gl:=gl) hE h153 2 b h
   have qb:=fun v (h:cK (blk.drop 7) b=v)=>gz (gl:=gl) hE h153 7 b h
   by_cases hx:b=160
   ·subst hx
    have hb:(160:Int)=128+r % 64:=hb
    have ha1:=qa 3 (by decide)
    try have hb1:=qb (-1) (by decide)
    clear qa qb
    repeat' (first | refine cI rfl (fun h=>?_) (fun h=>?_) | refine ai ?_)
    all_goals refine ⟨?_,rfl⟩
    all_goals first
     | (rw [hne,decide_eq_false (by omega:¬ r=160),decide_eq_false (by omega:¬ r=12288)];rfl)
     | (have hr:r=160:=by omega
        rw [hr];rfl)
     | (have hr:r=12288:=by omega
        rw [hr];rfl)
   by_cases hy:b=128
   ·subst hy
    have hb:(128:Int)=128+r % 64:=hb
    have ha1:=qa 5 (by decide)
    clear qa qb
    repeat' (first | refine cI rfl (fun h=>?_) (fun h=>?_) | refine ai ?_)
    all_goals refine ⟨?_,rfl⟩
    all_goals first
     | (rw [hne,decide_eq_false (by omega:¬ r=160),decide_eq_false (by omega:¬ r=12288)];rfl)
     | (have hr:r=160:=by omega
        rw [hr];rfl)
     | (have hr:r=12288:=by omega
        rw [hr];rfl)
   have hx':¬ (b.toNat=160):=fun e=>hx (UInt8.toNat_inj.1 (e.trans rfl))
   have hy':¬ (b.toNat=128):=fun e=>hy (UInt8.toNat_inj.1 (e.trans rfl))
   have hno:b ∉ blk.drop 2:=by
    intro h
    have h:b∈blk:=List.mem_of_mem_drop h
    simp only [blk,List.mem_cons,List.not_mem_nil,or_false] at h
    rcases h with h | h | h | h | h | h | h | h | h <;> (have:=congrArg UInt8.toNat h;simp at this;omega)
   have ha1:=qa (-1) (n7 hno)
   clear qa qb
   repeat' (first | refine cI rfl (fun h=>?_) (fun h=>?_) | refine ai ?_)
   all_goals refine ⟨?_,rfl⟩
   all_goals first
    | (rw [hne,decide_eq_false (by omega:¬ r=160),decide_eq_false (by omega:¬ r=12288)];rfl)
    | (have hr:r=160:=by omega
       rw [hr];rfl)
    | (have hr:r=12288:=by omega
       rw [hr];rfl)
  by_cases hs3:r < 65536
  ·obtain ⟨a,b,c,he,ha,hb,hc⟩:=HD (by omega) hs3 hvu
   rw [he]
   rw [show (ByteArray.size ⟨[a,b,c].toArray⟩)=3 from rfl,show aV .i64 (((3:Nat):Int) - 1)=2 from rfl]
   have hsz:ByteArray.size ⟨[a,b,c].toArray⟩=3:=rfl
   have hsz2:([a,b,c].toArray).size=3:=rfl
   have qa:=fun v (h:cK (blk.drop 3) c=v)=>gz (gl:=gl) hE h153 3 c h
   have qb:=fun v (h:cK (blk.drop 7) c=v)=>gz (gl:=gl) hE h153 7 c h
   by_cases hx:c=160
   ·subst hx
    have hc:(160:Int)=128+r % 64:=hc
    have ha1:=qa 2 (by decide)
    try have hb1:=qb (-1) (by decide)
    clear qa qb
    repeat' (first | refine cI rfl (fun h=>?_) (fun h=>?_) | refine ai ?_)
    all_goals refine ⟨?_,rfl⟩
    all_goals first
     | (rw [hne,decide_eq_false (by omega:¬ r=160),decide_eq_false (by omega:¬ r=12288)];rfl)
     | (have hr:r=160:=by omega
        rw [hr];rfl)
     | (have hr:r=12288:=by omega
        rw [hr];rfl)
   by_cases hy:c=128
   ·subst hy
    have hc:(128:Int)=128+r % 64:=hc
    have ha1:=qa 4 (by decide)
    clear qa qb
    repeat' (first | refine cI rfl (fun h=>?_) (fun h=>?_) | refine ai ?_)
    all_goals refine ⟨?_,rfl⟩
    all_goals first
     | (rw [hne,decide_eq_false (by omega:¬ r=160),decide_eq_false (by omega:¬ r=12288)];rfl)
     | (have hr:r=160:=by omega
        rw [hr];rfl)
     | (have hr:r=12288:=by omega
        rw [hr];rfl)
   have hx':¬ (c.toNat=160):=fun e=>hx (UInt8.toNat_inj.1 (e.trans rfl))
   have hy':¬ (c.toNat=128):=fun e=>hy (UInt8.toNat_inj.1 (e.trans rfl))
   have hno:c ∉ blk.drop 3:=by
    intro h
    have h:c∈blk:=List.mem_of_mem_drop h
    simp only [blk,List.mem_cons,List.not_mem_nil,or_false] at h
    rcases h with h | h | h | h | h | h | h | h | h <;> (have:=congrArg UInt8.toNat h;simp at this;omega)
   have ha1:=qa (-1) (n7 hno)
   clear qa qb
   repeat' (first | refine cI rfl (fun h=>?_) (fun h=>?_) | refine ai ?_)
   all_goals refine ⟨?_,rfl⟩
   all_goals first
    | (rw [hne,decide_eq_false (by omega:¬ r=160),decide_eq_false (by omega:¬ r=12288)];rfl)
    | (have hr:r=160:=by omega
       rw [hr];rfl)
    | (have hr:r=12288:=by omega
       rw [hr];rfl)
  obtain ⟨a,b,c,g,he,ha,hb,hc,hg⟩:=HE (by omega) h1 hvu
  rw [he]
  rw [show (ByteArray.size ⟨[a,b,c,g].toArray⟩)=4 from rfl,show aV .i64 (((4:Nat):Int) - 1)=3 from rfl]
  have hsz:ByteArray.size ⟨[a,b,c,g].toArray⟩=4:=rfl
  have hsz2:([a,b,c,g].toArray).size=4:=rfl
  have qa:=fun v (h:cK (blk.drop 4) g=v)=>gz (gl:=gl) hE h153 4 g h
  have qb:=fun v (h:cK (blk.drop 7) g=v)=>gz (gl:=gl) hE h153 7 g h
  by_cases hx:g=160
  ·subst hx
   have hg:(160:Int)=128+r % 64:=hg
   have ha1:=qa 1 (by decide)
   try have hb1:=qb (-1) (by decide)
   clear qa qb
   repeat' (first | refine cI rfl (fun h=>?_) (fun h=>?_) | refine ai ?_)
   all_goals refine ⟨?_,rfl⟩
   all_goals first
    | (rw [hne,decide_eq_false (by omega:¬ r=160),decide_eq_false (by omega:¬ r=12288)];rfl)
    | (have hr:r=160:=by omega
       rw [hr];rfl)
    | (have hr:r=12288:=by omega
       rw [hr];rfl)
  by_cases hy:g=128
  ·subst hy
   have hg:(128:Int)=128+r % 64:=hg
   have ha1:=qa 3 (by decide)
   try have hb1:=qb (-1) (by decide)
   clear qa qb
   repeat' (first | refine cI rfl (fun h=>?_) (fun h=>?_) | refine ai ?_)
   all_goals refine ⟨?_,rfl⟩
   all_goals first
    | (rw [hne,decide_eq_false (by omega:¬ r=160),decide_eq_false (by omega:¬ r=12288)];rfl)
    | (have hr:r=160:=by omega
       rw [hr];rfl)
    | (have hr:r=12288:=by omega
       rw [hr];rfl)
  have hx':¬ (g.toNat=160):=fun e=>hx (UInt8.toNat_inj.1 (e.trans rfl))
  have hy':¬ (g.toNat=128):=fun e=>hy (UInt8.toNat_inj.1 (e.trans rfl))
  have hno:g ∉ blk.drop 4:=by
   intro h
   have h:g∈blk:=List.mem_of_mem_drop h
   simp only [blk,List.mem_cons,List.not_mem_nil,or_false] at h
   rcases h with h | h | h | h | h | h | h | h | h <;> (have:=congrArg UInt8.toNat h;simp at this;omega)
  have ha1:=qa (-1) (n7 hno)
  clear qa qb
  repeat' (first | refine cI rfl (fun h=>?_) (fun h=>?_) | refine ai ?_)
  all_goals refine ⟨?_,rfl⟩
  all_goals first
   | (rw [hne,decide_eq_false (by omega:¬ r=160),decide_eq_false (by omega:¬ r=12288)];rfl)
   | (have hr:r=160:=by omega
      rw [hr];rfl)
   | (have hr:r=12288:=by omega
      rw [hr];rfl)
end
end
end Go.AM.PV
namespace Go.AM.PV
open Go Go.AM Go.AM.SX
def nmR (s:ByteArray):Bool:=eQ (aI s s.size 0) s (fG (aI s s.size 0))&&!u9 s
def vsR (s:ByteArray):Bool:=Lib.validD s.data.toList
attribute [local irreducible] pz aQ
structure Nms (E:Env) (gl:List GRow) (inf:Nat->TypeInfo) (c0 c1:Cfg) (fuel:Nat):Prop where
 hE:SxEnv E
 hx:(E.xf.any (Nat.beq 64)&&E.xf.any (Nat.beq 145))=true
 hxt:∀ f vs k,xtU f vs=some k->E.xt f vs=some k
 hk1:∀ s,cc 64 [.string s] E.known=none
 hk2:∀ s,cc 145 [.string s] E.known=none
 g1:eL∈gl
 g2:eM∈gl
 hn:2 < E.ng
 i1:(inf 151).size=4
 i2:(inf 151).bytes=32
 h16:aC E c0 fuel 16 1=some t16
 h21:aC E c0 fuel 21 1=some t21
 h24:aC E c0 fuel 24 1=some t24
 h33:aC E c0 fuel 33 3=some t33
 h37:aC E c0 fuel 37 2=some t37
 h39:aC E c0 fuel 39 3=some t39
 h56:aC E c0 fuel 56 1=some t56
 h57:aC E c0 fuel 57 1=some t57
 h62:aC E c0 fuel 62 2=some t62
 h65:aC E c0 fuel 65 3=some t65
 h67:aC E c0 fuel 67 2=some t67
 h95:aC E c0 fuel 95 1=some (t95 inf)
 h96:aC E c0 fuel 96 1=some t96
 h97:aC E c0 fuel 97 1=some t97
 h102:aC E c0 fuel 102 1=some t102
 h105:aC E c0 fuel 105 2=some t105
 h124:aC E c0 fuel 124 1=some t124
 h128:aC E c0 fuel 128 1=some t128
 h130:aC E c0 fuel 130 1=some t130
 h133:aC E c0 fuel 133 1=some t133
 h134:aC E c0 fuel 134 1=some t134
 h146:aC E c0 fuel 146 1=some t146
 h148:aC E c0 fuel 148 1=some t148
 h153:aC E c1 fuel 153 2=some t153
 h157:aC E c1 fuel 157 1=some t157
 h191:aC E c1 fuel 191 1=some t191
theorem HI {E:Env} {gl:List GRow} {cfg:Cfg} {fuel:Nat} (hE:SxEnv E) (h21:aC E cfg fuel 21 1=some t21) (n:Int):PR E gl 21 [I n] [] (Bo (decide (n>=-1152921504606846976)&&decide (n<=1152921504606846975))) []:=by
 refine fnZ hE (cfg:=cfg) (fuel:=fuel) h21 (by kernel_rfl) ?_
 unfold t21
 repeat' (first | (refine aG 0 rfl (Nat.zero_le _) rfl rfl (And.intro ?_ rfl)) | refine bS rfl (fun h=>?_) (fun h=>?_) | refine aA ?_)
 ·rw [decide_eq_true (show n>=-1152921504606846976 by omega)];rfl
 ·rw [decide_eq_false (show ¬ n>=-1152921504606846976 by omega)];rfl
variable {E:Env} {gl:List GRow} {inf:Nat->TypeInfo} {c0 c1:Cfg} {fuel:Nat}
theorem Nms.decode (H:Nms E gl inf c0 c1 fuel) (s:ByteArray):PR E gl 145 [.c (.string s)] [] (.c (.tuple #[.int .i32 (Lib.decodeGo s).1,.int .i64 (Lib.decodeGo s).2])) [] :=
 Gz (H.hk2 s) (by have h:=H.hx;rw [Bool.and_eq_true] at h;exact h.2) H.hxt H.g1 H.g2 H.hn []
theorem Nms.n133 (H:Nms E gl inf c0 c1 fuel) {s:ByteArray} (hs:s.size<=1048576):PR E gl 133 [St s] [] (Bo (eQ (aI s s.size 0) s (fG (aI s s.size 0)))) [] :=
 LN H.hE H.h133 hs (fun r h0 h1=>HH H.hE H.h157 H.h153 H.h191 r h0 h1) (HA H.hE H.h124 H.h146 H.h67 H.h105 hs (H.decode s))
theorem Nms.n102 (H:Nms E gl inf c0 c1 fuel) {s:ByteArray} (hs:s.size<=1048576):PR E gl 102 [St s] [] (Bo (nmR s)) [] :=
 LO H.hE H.h102 (H.n133 hs) (LM H.hE H.h134 H.h37 H.h62 s)
theorem Nms.valid (H:Nms E gl inf c0 c1 fuel) {s:ByteArray} (hs:s.size<=1048576):PR E gl 64 [St s] [] (Bo (vsR s)) [] :=
 Gy (by omega) (H.hk1 s) (by have h:=H.hx;rw [Bool.and_eq_true] at h;exact h.1) H.hxt H.g1 H.g2 H.hn []
theorem Nms.check (H:Nms E gl inf c0 c1 fuel) (v:Val) (hv:v.small 1048576):PR E gl 24 [v.p] [] (I (v.chk vsR nmR)) [] :=
 Dg vsR nmR H.hE H.h24 H.h39 H.h65 (fun _ h=>H.valid (by omega)) (fun _ h=>H.n102 h) v hv
end Go.AM.PV
namespace Go.AM.PV
open Go Go.AM Go.AM.SX
attribute [local irreducible] pz aQ
structure Dos (E:Env) (gl:List GRow) (inf:Nat->TypeInfo) (c0 c1 c2:Cfg) (fuel:Nat):Prop extends Nms E gl inf c0 c1 fuel where
 j1:(inf 41).size=1
 j2:(inf 41).bytes=16
 h13:aC E c0 fuel 13 2=some (t13 inf)
 h26:aC E c0 fuel 26 2=some t26
 h27:aC E c2 fuel 27 1=some (t27 inf)
 h28:aC E c0 fuel 28 1=some (t28 inf)
 h41:aC E c0 fuel 41 2=some t41
 h42:aC E c0 fuel 42 1=some t42
 h43:aC E c0 fuel 43 2=some t43
 h72:aC E c0 fuel 72 1=some t72
variable {E:Env} {gl:List GRow} {inf:Nat->TypeInfo} {c0 c1 c2:Cfg} {fuel:Nat}
def Val.letter:Val->Int
 | .nil=>111
 | .int _=>110
 | .str _=>115
 | .bool _=>98
 | .list _=>108
 | .quot _=>113
 | .box _=>111
theorem eO (H:Dos E gl inf c0 c1 c2 fuel) (v:Val):PR E gl 42 [v.p] [] (.c (.int .u8 v.letter)) []:=by
 refine fnZ H.hE (cfg:=c0) (fuel:=fuel) H.h42 (by kernel_rfl) ?_
 unfold t42
 cases v <;> (refine aA ?_;exact aG 0 rfl (Nat.zero_le _) rfl rfl ⟨rfl,rfl⟩)
def ss:List (List UInt8×(Val->Bool)) :=
 [([105,110,116,63],fun | .int _=>true | _=>false),([115,116,114,63],fun | .str _=>true | _=>false),([98,111,111,108,63],fun | .bool _=>true | _=>false),
  ([108,105,115,116,63],fun | .list _=>true | _=>false),([113,117,111,116,63],fun | .quot _=>true | _=>false),([98,111,120,63],fun | .box _=>true | _=>false)]
end Go.AM.PV
namespace Go.AM.PV
open Go Go.AM Go.AM.SX
attribute [local irreducible] pz aQ
variable {E:Env} {gl:List GRow} {inf:Nat->TypeInfo} {c0 c1 c2:Cfg} {fuel:Nat}
theorem jR {ps:List P} {a:At} {n:Nat} {l:List P} (h:bG ps a=.lit l) (hn:l.length=n) (h0:0 < n):denF ps [.sl a n]=some [.fx 1 n l]:=by
 have h2:bT ps (.sl a n)=some (.fx 1 n l):=by
  show (match bG ps a with
   | .lit l=>if l.length=n * (if n=0 then 1 else l.length / n) then some (P.fx (if n=0 then 1 else l.length / n) n l) else none
   | _=>none)=_
  rw [h]
  dsimp only
  have hd:(if n=0 then 1 else l.length / n)=1:=by rw [if_neg (by omega),hn,Nat.div_self h0]
  rw [hd,if_pos (by omega)]
 unfold denF
 rw [h2]
 rfl
end Go.AM.PV
namespace Go.AM.PV
open Go Go.AM Go.AM.SX
attribute [local irreducible] pz aQ
structure Knd (E:Env) (gl:List GRow) (inf:Nat->TypeInfo) (c0 c1 c2:Cfg) (fuel:Nat):Prop extends Dos E gl inf c0 c1 c2 fuel where
 conv:ConvT E inf c0 fuel
 h8:aC E c0 fuel 8 1=some t8
 h15:aC E c0 fuel 15 2=some t15
 h18:aC E c0 fuel 18 2=some t18
 h32:aC E c0 fuel 32 2=some t32
 awake:PR E gl 10 [] [] (.c (.bool true)) []
 want:∀ w,w∈ss->PR E gl 25 [.c (bs w.1)] [] (.c (.tuple #[bs [120],.bool true])) []
variable {E:Env} {gl:List GRow} {inf:Nat->TypeInfo} {c0 c1 c2:Cfg} {fuel:Nat}
end Go.AM.PV
namespace Go.AM.PV
open Go Go.AM Go.AM.SX
attribute [local irreducible] pz aQ
variable {E:Env} {gl:List GRow} {inf:Nat->TypeInfo} {c0 c1 c2:Cfg} {fuel:Nat}
theorem HJ {ps:List P} {x:X} {a:At} {p:P} {n sz:Nat} {l:List P} (hx:bT ps x=some p) (h:bG ps a=.lit l) (hn:l.length=n * sz) (h0:0 < n):denF ps [x,.sl a n]=some [fz p,.fx sz n l]:=by
 have h2:bT ps (.sl a n)=some (.fx sz n l):=by
  show (match bG ps a with
   | .lit l=>if l.length=n * (if n=0 then 1 else l.length / n) then some (P.fx (if n=0 then 1 else l.length / n) n l) else none
   | _=>none)=_
  rw [h]
  dsimp only
  have hd:(if n=0 then 1 else l.length / n)=sz:=by rw [if_neg (by omega),hn,Nat.mul_div_cancel_left _ h0]
  rw [hd,if_pos hn]
 unfold denF
 rw [hx]
 unfold denF
 rw [h2]
 rfl
end Go.AM.PV
namespace Go.AM.PV
open Go Go.AM Go.AM.SX
theorem V.len_szs:∀ l:List V,l.length<=V.szs l
 | []=>Nat.le_refl _
 | v::l=>by
  have h:=V.len_szs l
  have h1:=V.sz_pos v
  simp only [V.szs,List.length_cons]
  omega
mutual
theorem V.small_of:∀ (v:V) {n:Nat},v.sz<=n->v.small n
 | .mk k m s l,n,h=>by
  simp only [V.sz] at h
  have h1:=V.len_szs l
  simp only [V.small]
  exact ⟨by omega,V.smalls_of l (by omega),by omega⟩
theorem V.smalls_of:∀ (l:List V) {n:Nat},V.szs l<=n->V.smalls n l
 | [],n,h=>by simp only [V.smalls]
 | v::l,n,h=>by
  simp only [V.szs] at h
  simp only [V.smalls]
  exact ⟨V.small_of v (by omega),V.smalls_of l (by omega)⟩
end
theorem tA:∀ l:List V,(V.vals l).length=l.length
 | []=>rfl
 | v::l=>by simp only [V.vals,List.length_cons,tA l]
theorem tB:∀ l:List V,(V.itms l).length=l.length
 | []=>rfl
 | v::l=>by simp only [V.itms,List.length_cons,tB l]
mutual
theorem lC:∀ (v:V) {n:Nat},v.sz<=n->v.val.small n
 | .mk k m s l,n,h=>by
  simp only [V.sz] at h
  have h1:=V.len_szs l
  have h2:=tC l (n:=n) (by omega)
  have h3:=tD l (n:=n) (by omega)
  have h4:=tA l
  have h5:=tB l
  simp only [V.val]
  repeat' split
  all_goals simp only [Val.small]
  ·omega
  ·exact ⟨by omega,h2⟩
  ·exact ⟨by omega,h3⟩
theorem tC:∀ (l:List V) {n:Nat},V.szs l<=n->Val.smalls n (V.vals l)
 | [],n,h=>by simp only [V.vals,Val.smalls]
 | v::l,n,h=>by
  simp only [V.szs] at h
  simp only [V.vals,Val.smalls]
  exact ⟨lC v (by omega),tC l (by omega)⟩
theorem HK:∀ (v:V) {n:Nat},v.sz<=n->v.itm.small n
 | .mk k m s l,n,h=>by
  have hv:=lC (.mk k m s l) h
  rw [V.itm_eq]
  simp only [V.sz] at h
  dsimp only
  repeat' split
  all_goals simp only [Itm.small]
  ·omega
  ·exact hv
theorem tD:∀ (l:List V) {n:Nat},V.szs l<=n->Itm.smalls n (V.itms l)
 | [],n,h=>by simp only [V.itms,Itm.smalls]
 | v::l,n,h=>by
  simp only [V.szs] at h
  simp only [V.itms,Itm.smalls]
  exact ⟨HK v (by omega),tD l (by omega)⟩
end
variable {E:Env} {gl:List GRow} {inf:Nat->TypeInfo} {c0 c1 c2:Cfg} {fuel:Nat}
end Go.AM.PV
namespace Go.AM.PV
open Go Go.AM Go.AM.SX
def pcs:Nat->List UInt8->List (List UInt8)
 | 0,_=>[]
 | n+1,l=>if l=[] then [] else l.take (Lib.decodeL l).2::pcs n (l.drop (Lib.decodeL l).2)
theorem tE:∀ (n:Nat) (l:List UInt8),(pcs n l).length=(runesF n l).length
 | 0,_=>rfl
 | n+1,l=>by
  simp only [pcs,runesF]
  split
  ·rfl
  ·simp only [List.length_cons,tE n]
theorem tF (s:ByteArray) (n pos:Nat):(aI s n pos).length=(pcs n (s.data.toList.drop pos)).length:=by
 rw [tE,<- oR,List.length_map]
theorem hJ {E:Env} {gl:List GRow} {k:N} {m:Nat} {rv:Rv} {d:Bool} {hs:List Nat} {ps:List P} {xs:List X} {μ:Mu} {Q:aW} {s j off n c i:Nat} (h:denF ps xs=some [.ms j off n c,.c (.int .i64 i)]) (hi:i < n) (hk:pz E gl k m rv d hs (ps++[.lp j (off+i * s)]) μ Q):pz E gl (.op (.idxA s) xs k) m rv d hs ps μ Q:=by
 have e:aS (.idxA s) [.ms j off n c,.c (.int .i64 (i:Int))]=some (.lp j (off+i * s)):=by
  show (if 0<=(i:Int)/\(i:Int) < (n:Int) then some (P.lp j (off+(i:Int).toNat * s)) else none)=_
  rw [if_pos ⟨by omega,by omega⟩,Int.toNat_natCast]
 exact ⟨_,_,h,e,hk⟩
attribute [local irreducible] pz aQ
section
variable {E:Env} {gl:List GRow} {cfg:Cfg} {fuel:Nat}
theorem n8 (hE:SxEnv E) (h111:aC E cfg fuel 111 1=some t111) {s:ByteArray} (hlen:s.size<=1048576):PR E gl 111 [St s] [] (I (aI s s.size 0).length) []:=by
 refine fnZ hE (cfg:=cfg) (fuel:=fuel) h111 (by kernel_rfl) ?_
 unfold t111
 refine gq rfl ?_
 try dsimp only [go_sem]
 refine bB (fun κ vs ν=>∃ (pos n m:Nat),κ=s.size - pos/\vs=[I m]/\ν=[.sit s pos]/\s.size<=pos+n/\m+(aI s n pos).length=(aI s s.size 0).length) rfl s.size
  _ (LeL.refl _) ⟨0,s.size,0,by omega,rfl,rfl,by omega,by omega⟩ ?_
 rintro κ vs ν ⟨pos,n,m,rfl,rfl,rfl,hn,heq⟩
 have hcl:=lP s s.size 0
 try dsimp only [go_sem]
 refine gr (i:=0) (s:=s) (pos:=pos) rfl rfl (fun hlt=>?_) (fun hge=>?_)
 ·obtain ⟨n,rfl⟩:∃ n',n=n'+1:=⟨n - 1,by omega⟩
  have hw:1<=(Utf8.decode s pos).2:=Lib.decode_width_pos s pos hlt
  simp only [aI] at heq
  rw [if_pos hlt,List.length_cons] at heq
  generalize (Utf8.decode s pos).2=wd at hw heq ⊢
  try dsimp only [go_sem]
  try refine aA ?_
  refine aF rfl ?_
  exact ⟨_,by omega,pos+wd,n,m+1,rfl,by first | rfl | (rw [jJ (by omega) (by omega)];rfl),rfl,by omega,by omega⟩
 ·rw [j4 hge,List.length_nil,Nat.add_zero] at heq
  subst heq
  try dsimp only [go_sem]
  try refine aA ?_
  refine aF rfl ?_
  try dsimp only [go_sem]
  repeat (refine aA ?_)
  exact aG 0 rfl (Nat.zero_le _) rfl rfl ⟨rfl,rfl⟩
theorem HL {k:N} {m:Nat} {rv:Rv} {d:Bool} {hs:List Nat} {ps:List P} {xs:List X} {μ μ':Mu} {Q:aW} {t:TypeId} {z:List Value} {b:Nat} {as1:List P} {p:P} (h:denF ps xs=some as1) (hn:bH (.mkSl t z b) as1 μ=some (p,μ')) (hk:pz E gl k m rv d hs (ps++[p]) μ' Q):pz E gl (.op (.mkSl t z b) xs k) m rv d hs ps μ Q:=by
 refine jK (ps':=ps++[p]) (μ':=μ') ?_ hk
 unfold stz
 rw [h]
 dsimp only
 rw [hn]
def pcP (ls:List (List UInt8)):List P:=ls.map fun l=>St ⟨l.toArray⟩
theorem jS (ls:List (List UInt8)):(pcP ls).length=ls.length:=List.length_map _
theorem tG {u:ByteArray} {l:List UInt8} (h:u.data.toList=l):u=⟨l.toArray⟩:=by
 cases u with
 | mk d=>simp only at h;subst h;rfl
theorem tH {all r:List (List UInt8)} {x:List UInt8} {i:Nat} (h:x::r=all.drop i):(pcP all)[i]? = some (St ⟨x.toArray⟩)/\all.drop (i+1)=r/\i < all.length:=by
 have h1:all[i]? = some x:=by
  have:=congrArg (fun l=>l[0]?) h
  simp only [List.getElem?_cons_zero,List.getElem?_drop,Nat.add_zero] at this
  exact this.symm
 refine ⟨by unfold pcP;rw [List.getElem?_map,h1];rfl,?_,(List.getElem?_eq_some_iff.1 h1).1⟩
 rw [<- List.tail_drop,<- h]
 rfl
theorem take_set {cs m:List P} {i:Nat} {x:P} (h:cs.take i=m.take i) (hi:i < cs.length) (hm:m[i]? = some x):(cs.set i x).take (i+1)=m.take (i+1):=by
 rw [List.take_add_one,List.take_add_one,List.getElem?_set_self hi,hm,List.take_set_of_le (Nat.le_refl _),h]
theorem HM:∀ (n:Nat) (l:List UInt8),pcs n l=[]->l.length<=n->l=[]
 | 0,l,_,h=>List.length_eq_zero_iff.1 (Nat.le_zero.1 h)
 | n+1,l,h,_=>by
  simp only [pcs] at h
  split at h
  ·assumption
  ·cases h
theorem HN {u:ByteArray} (h:0 < u.size):Lib.decodeGo u=Lib.decodeL u.data.toList:=by
 unfold Lib.decodeGo
 rw [if_neg (by omega)]
 have:=Lib.decodeL_drop u 0
 rw [List.drop_zero] at this
 exact this.symm
theorem tI (n:Nat):pcs n []=[]:=by cases n <;> rfl
theorem tJ (x:Value):∀ n,zeros [x] n=List.replicate n x
 | 0=>rfl
 | n+1=>by simp only [zeros,List.replicate_succ,tJ x n];rfl
set_option maxHeartbeats 4000000 in
theorem tK (hE:SxEnv E) (h169:aC E cfg fuel 169 2=some t169) {s:ByteArray} (hlen:s.size<=1048576) (hc:PR E gl 111 [St s] [] (I (aI s s.size 0).length) [])
  (hd:∀ u:ByteArray,u.size<=1048576->PR E gl 145 [St u] [] (.c (.tuple #[.int .i32 (Lib.decodeGo u).1,.int .i64 (Lib.decodeGo u).2])) []) :
  PR E gl 169 [St s,I (-1)] [] (.ms 0 0 (pcs s.size s.data.toList).length (pcs s.size s.data.toList).length) [.cells (pcP (pcs s.size s.data.toList))]:=by
 have hN:=tF s s.size 0
 rw [List.drop_zero] at hN
 have hcl:=lP s s.size 0
 rw [hN] at hc hcl
 generalize hall:pcs s.size s.data.toList=all at *
 refine fnZ hE (cfg:=cfg) (fuel:=fuel) h169 (by kernel_rfl) ?_
 unfold t169
 repeat (refine aA ?_)
 refine HL (as1:=[I all.length,I all.length]) (p:=.ms 0 0 all.length all.length) (μ':=[.cells (List.replicate all.length (.c (bs [])))]) rfl ?_ ?_
 ·show (if 0<=(all.length:Int)/\(all.length:Int)<=all.length/\(all.length:Int) * 16<=140737488355328/\(all.length:Int)<=4294967296/\[bs []].all one=true then some (P.ms 0 0 (all.length:Int).toNat (all.length:Int).toNat,[]++[Ob.cells ((zeros [bs []] (all.length:Int).toNat).map .c)]) else none)=_
  rw [if_pos ⟨by omega,by omega,by omega,by omega,rfl⟩,Int.toNat_natCast,tJ,List.map_replicate]
  rfl
 dsimp only [go_sem]
 refine bB (fun κ vs ν=>∃ (i n:Nat) (u:ByteArray) (cs:List P),κ=all.length - i/\vs=[St u,I i]/\ν=[.cells cs]/\cs.length=all.length/\cs.take i=(pcP all).take i/\pcs n u.data.toList=all.drop i/\u.size<=n/\u.size<=1048576/\(i < all.length\/all.length=0)) rfl all.length
  _ (LeL.refl _) ⟨0,s.size,s,_,by omega,rfl,rfl,List.length_replicate,rfl,by rw [hall,List.drop_zero],Nat.le_refl _,hlen,by omega⟩ ?_
 rintro κ vs ν ⟨i,n,u,cs,rfl,rfl,rfl,hcs,hti,hpc,hun,hul,hil⟩
 dsimp only [go_sem]
 repeat (refine aA ?_)
 have hnil:i < all.length->u.data.toList≠[]/\0 < n:=by
  intro h
  have h1:all.drop i≠[]:=by rw [Ne,List.drop_eq_nil_iff];omega
  rw [<- hpc] at h1
  refine ⟨fun e=>h1 (by rw [e,tI]),?_⟩
  cases n with
  | zero=>exact absurd rfl h1
  | succ n=>omega
 refine bS rfl (fun hlt=>?_) (fun hge=>?_)
 ·have hi:i < all.length:=by omega
  obtain ⟨hne,hn0⟩:=hnil hi
  obtain ⟨n,rfl⟩:∃ n',n=n'+1:=⟨n - 1,by omega⟩
  have hus:0 < u.size:=by rw [Lib.size_eq];exact List.length_pos_iff.2 hne
  have hcall:=hd u hul
  rw [HN hus] at hcall
  have hw1:=Lib.decodeL_width u.data.toList
  have hw2:=Lib.decodeL_le u.data.toList hne
  simp only [pcs] at hpc
  rw [if_neg hne] at hpc
  generalize (Lib.decodeL u.data.toList).1=rr at hcall
  generalize (Lib.decodeL u.data.toList).2=w at *
  rw [<- Lib.size_eq] at hw2
  unfold vC
  refine aM rfl (hcall.frame rfl _) (Nat.le_refl _) ?_
  dsimp only [go_sem]
  repeat (refine aA ?_)
  refine rR (s:=u) (h:=w) rfl hw2 ?_
  dsimp only [go_sem]
  refine hJ (s:=1) (i:=i) rfl hi ?_
  dsimp only [go_sem]
  refine fA (p:=.c (.string (u.extract 0 w))) rfl rfl rfl rfl (by omega) ?_
  dsimp only [go_sem]
  refine nM (s:=u) (l:=w) rfl hw2 ?_
  dsimp only [go_sem]
  repeat (refine aA ?_)
  refine aF rfl ?_
  dsimp only [go_sem]
  obtain ⟨q1,q2,_⟩:=tH hpc
  have hx:u.extract 0 w=⟨(u.data.toList.take w).toArray⟩:=tG (by rw [Lib.extract_data,List.drop_zero,Nat.sub_zero])
  rw [<- hx] at q1
  refine ⟨_,by omega,i+1,n,u.extract w u.size,cs.set i (.c (.string (u.extract 0 w))),rfl,rfl,by rw [Nat.zero_add,Nat.mul_one],by rw [List.length_set];exact hcs,take_set hti (by omega) q1,by rw [oV,q2],?_,?_,.inl (by omega)⟩
  ·rw [Lib.ext_size];omega
  ·rw [Lib.ext_size];omega
 ·refine aF rfl ?_
  dsimp only [go_sem]
  rcases hil with hil | h0
  ·obtain ⟨hne,hn0⟩:=hnil hil
   obtain ⟨n,rfl⟩:∃ n',n=n'+1:=⟨n - 1,by omega⟩
   simp only [pcs] at hpc
   rw [if_neg hne] at hpc
   obtain ⟨q1,q2,_⟩:=tH hpc
   have hlast:i+1=all.length:=by omega
   rw [List.drop_eq_nil_of_le (by omega)] at q2
   have hdl:=HM _ _ q2.symm (by rw [List.length_drop,<- Lib.size_eq];have:=Lib.decodeL_width u.data.toList;omega)
   have hx:u=⟨(u.data.toList.take (Lib.decodeL u.data.toList).2).toArray⟩:=tG (by have:=List.take_append_drop (Lib.decodeL u.data.toList).2 u.data.toList;rw [hdl,List.append_nil] at this;exact this.symm)
   rw [<- hx] at q1
   have hfin:cs.set i (St u)=pcP all:=by
    have h1:=take_set hti (by omega) q1
    rw [List.take_of_length_le (by rw [List.length_set];omega),List.take_of_length_le (by rw [jS];omega)] at h1
    exact h1
   unfold o6
   repeat (refine aA ?_)
   rw [show (all.length:Int) - 1=(i:Nat) by omega]
   refine hJ (s:=1) (i:=i) rfl hil ?_
   dsimp only [go_sem]
   refine fA (p:=St u) rfl rfl rfl rfl (by omega) ?_
   dsimp only [go_sem]
   refine aF rfl ⟨rfl,?_⟩
   show [Ob.cells (cs.set (0+i * 1) (St u))]=_
   rw [Nat.zero_add,Nat.mul_one,hfin]
  ·unfold o6
   repeat (refine aA ?_)
   refine aF rfl ⟨rfl,?_⟩
   rw [List.length_eq_zero_iff.1 (hcs.trans h0),List.length_eq_zero_iff.1 h0]
   rfl
theorem HO (hE:SxEnv E) (h169:aC E cfg fuel 169 2=some t169) (h111:aC E cfg fuel 111 1=some t111) {s:ByteArray} (hlen:s.size<=1048576)
  (hd:∀ u:ByteArray,u.size<=1048576->PR E gl 145 [St u] [] (.c (.tuple #[.int .i32 (Lib.decodeGo u).1,.int .i64 (Lib.decodeGo u).2])) []) :
  PR E gl 169 [St s,I (-1)] [] (.sl 1 (pcs s.size s.data.toList).length (pcP (pcs s.size s.data.toList))) []:=by
 have h:=PR.frz (tK hE h169 hlen (n8 hE h111 hlen) hd) (Nat.le_refl _) (by rw [jS];omega) ?_ ?_
 ·rw [List.take_of_length_le (by rw [jS];omega)] at h
  exact h
 ·generalize pcs s.size s.data.toList=l
  induction l with
  | nil=>rfl
  | cons x l ih=>exact ih
 ·intro p hp
  obtain ⟨x,_,rfl⟩:=List.mem_map.1 hp
  rfl
theorem HP (hE:SxEnv E) (h113:aC E cfg fuel 113 1=some t113) (h140:aC E cfg fuel 140 2=some t140) (h158:aC E cfg fuel 158 4=some t158) {s:ByteArray}
  (he:PR E gl 169 [St s,I (-1)] [] (.sl 1 (pcs s.size s.data.toList).length (pcP (pcs s.size s.data.toList))) []):PR E gl 113 [St s] [] (.sl 1 (pcs s.size s.data.toList).length (pcP (pcs s.size s.data.toList))) []:=by
 generalize pcs s.size s.data.toList=l at *
 generalize hq:P.sl 1 l.length (pcP l)=q at *
 have h1:PR E gl 158 [St s,.c (bs []),I 0,I (-1)] [] q []:=by
  subst hq
  refine fnZ hE (cfg:=cfg) (fuel:=fuel) h158 (by kernel_rfl) ?_
  unfold t158
  repeat (refine aA ?_)
  exact aF rfl ⟨rfl,rfl⟩
 have h2:PR E gl 140 [St s,.c (bs [])] [] q []:=by
  subst hq
  refine fnZ hE (cfg:=cfg) (fuel:=fuel) h140 (by kernel_rfl) ?_
  unfold t140
  repeat (refine aA ?_)
  exact aF rfl ⟨rfl,rfl⟩
 subst hq
 refine fnZ hE (cfg:=cfg) (fuel:=fuel) h113 (by kernel_rfl) ?_
 unfold t113
 repeat (refine aA ?_)
 exact aF rfl ⟨rfl,rfl⟩
end
end Go.AM.PV
namespace Go.AM.PV
open Go Go.AM Go.AM.SX
theorem HQ (l:List UInt8) (hne:l≠[]) (hv:¬ ((Lib.decodeL l).1=65533/\(Lib.decodeL l).2=1)) (r:List UInt8):Lib.decodeL (l.take (Lib.decodeL l).2++r)=Lib.decodeL l:=by
 have hl:0 < l.length:=List.length_pos_iff.2 hne
 rw [Lib.decodeL_N l] at hv ⊢
 rcases Lib.decodeN_shape l.length (l.getD 0 0).toNat (l.getD 1 0).toNat (l.getD 2 0).toNat (l.getD 3 0).toNat with ⟨c,e⟩ | ⟨c1,c2,c3,cv,e⟩ | ⟨c1,c2,c3,c4,cv,cs,e⟩ | ⟨c1,c2,c3,c4,c5,cv,cw,e⟩ | e
 ·rw [e]
  dsimp only
  rw [Lib.takeA l hl,Lib.decodeL_N]
  show Lib.decodeN _ (l.getD 0 0).toNat _ _ _=_
  unfold Lib.decodeN
  rw [if_pos c]
 ·rw [e]
  dsimp only
  rw [Lib.takeB l c2,Lib.decodeL_N]
  show Lib.decodeN ([l.getD 0 0,l.getD 1 0]++r).length (l.getD 0 0).toNat (l.getD 1 0).toNat _ _=_
  have hn:1 < ([l.getD 0 0,l.getD 1 0]++r).length:=by simp
  unfold Lib.decodeN
  rw [if_neg (by omega),if_pos ⟨c1,hn,c3⟩,if_pos cv]
 ·rw [e]
  dsimp only
  rw [Lib.takeC l c2,Lib.decodeL_N]
  show Lib.decodeN ([l.getD 0 0,l.getD 1 0,l.getD 2 0]++r).length (l.getD 0 0).toNat (l.getD 1 0).toNat (l.getD 2 0).toNat _=_
  have hn:2 < ([l.getD 0 0,l.getD 1 0,l.getD 2 0]++r).length:=by simp
  have k2:=(l.getD 2 0).toNat_lt
  unfold Lib.decodeN
  rw [if_neg (by omega),if_neg (by omega),if_pos ⟨c1,⟨by omega,c3⟩,hn,c4⟩,if_pos ⟨cv,cs.imp id fun h=>⟨h,by omega⟩⟩]
 ·rw [e]
  dsimp only
  rw [Lib.takeD l c2,Lib.decodeL_N]
  show Lib.decodeN ([l.getD 0 0,l.getD 1 0,l.getD 2 0,l.getD 3 0]++r).length (l.getD 0 0).toNat (l.getD 1 0).toNat (l.getD 2 0).toNat (l.getD 3 0).toNat=_
  have hn:3 < ([l.getD 0 0,l.getD 1 0,l.getD 2 0,l.getD 3 0]++r).length:=by simp
  unfold Lib.decodeN
  rw [if_neg (by omega),if_neg (by omega),if_neg (by omega),if_pos ⟨c1,⟨by omega,c3⟩,⟨by omega,c4⟩,hn,c5⟩,if_pos ⟨cv,.inr ⟨by omega,cw⟩⟩]
 ·exact (hv (by rw [e];exact ⟨rfl,rfl⟩)).elim
def Full (x:List UInt8):Prop:=x≠[]/\∀ r,(Lib.decodeL (x++r)).2=x.length/\¬ ((Lib.decodeL (x++r)).1=65533/\(Lib.decodeL (x++r)).2=1)
theorem HR {l:List UInt8} (hne:l≠[]) (hv:¬ ((Lib.decodeL l).1=65533/\(Lib.decodeL l).2=1)):Full (l.take (Lib.decodeL l).2):=by
 have h1:=Lib.decodeL_width l
 have h2:=Lib.decodeL_le l hne
 have hl:(l.take (Lib.decodeL l).2).length=(Lib.decodeL l).2:=by rw [List.length_take];omega
 refine ⟨fun e=>?_,fun r=>?_⟩
 ·rw [e] at hl
  simp only [List.length_nil] at hl
  omega
 ·rw [HQ l hne hv r,hl]
  exact ⟨rfl,hv⟩
theorem tL:∀ (n:Nat) (l:List UInt8),Lib.validGoD n l=true->∀ x,x∈pcs n l->Full x
 | 0,_,_,x,hx=>by cases hx
 | n+1,l,h,x,hx=>by
  simp only [pcs] at hx
  simp only [Lib.validGoD] at h
  split at hx
  ·cases hx
  ·rename_i hne
   rw [if_neg hne] at h
   split at h
   ·cases h
   ·rename_i hv
    rcases List.mem_cons.1 hx with rfl | hx
    ·exact HR hne hv
    ·exact tL n _ h x hx
theorem tM:∀ (n:Nat) (l:List UInt8),l.length<=n->(pcs n l).flatten=l
 | 0,l,h=>(List.length_eq_zero_iff.1 (Nat.le_zero.1 h)).symm
 | n+1,l,h=>by
  simp only [pcs]
  split
  ·rename_i e;rw [e];rfl
  ·have h1:=Lib.decodeL_width l
   rw [List.flatten_cons,tM n _ (by rw [List.length_drop];omega),List.take_append_drop]
theorem tN:∀ (n:Nat) (xs:List (List UInt8)),(∀ x,x∈xs->Full x)->xs.flatten.length<=n->pcs n xs.flatten=xs
 | n,[],_,_=>tI n
 | n,x::xs,hf,hn=>by
  obtain ⟨h1,h2⟩:=hf x (by simp)
  have hp:=List.length_pos_iff.2 h1
  rw [List.flatten_cons] at hn ⊢
  rw [List.length_append] at hn
  obtain ⟨m,rfl⟩:∃ m,n=m+1:=⟨n - 1,by omega⟩
  simp only [pcs]
  rw [if_neg (by simp [h1]),(h2 _).1,List.take_left' rfl,List.drop_left' rfl,tN m xs (fun y hy=>hf y (by simp [hy])) (by omega)]
theorem tO:∀ (n:Nat) (xs:List (List UInt8)),(∀ x,x∈xs->Full x)->Lib.validGoD n xs.flatten=true
 | 0,_,_=>rfl
 | n+1,[],_=>by simp [Lib.validGoD]
 | n+1,x::xs,hf=>by
  obtain ⟨h1,h2⟩:=hf x (by simp)
  obtain ⟨h3,h4⟩:=h2 xs.flatten
  simp only [Lib.validGoD,List.flatten_cons]
  rw [if_neg (by simp [h1]),if_neg h4,h3,List.drop_left' rfl]
  exact tO n xs fun y hy=>hf y (by simp [hy])
def chs (s:List UInt8):List (List UInt8):=pcs s.length s
theorem n9 {s:List UInt8} (h:Lib.validD s=true):∀ x,x∈chs s->Full x:=tL _ _ h
theorem nc (s:List UInt8):(chs s).flatten=s:=tM _ _ (Nat.le_refl _)
theorem nf {xs:List (List UInt8)} (h:∀ x,x∈xs->Full x):chs xs.flatten=xs:=tN _ _ h (Nat.le_refl _)
theorem tP {xs:List (List UInt8)} (h:∀ x,x∈xs->Full x):Lib.validD xs.flatten=true:=tO _ _ h
theorem HT {s t:List UInt8} (hs:Lib.validD s=true) (ht:Lib.validD t=true):chs (s++t)=chs s++chs t:=by
 have h:∀ x,x∈chs s++chs t->Full x:=fun x hx=>(List.mem_append.1 hx).elim (n9 hs x) (n9 ht x)
 have:=nf h
 rwa [List.flatten_append,nc,nc] at this
theorem HU {x:List UInt8} (h:Full x):chs x=[x]/\Lib.validD x=true:=by
 have h1:∀ y,y∈[x]->Full y:=fun y hy=>by rw [List.mem_singleton] at hy;rw [hy];exact h
 have h2:=nf h1
 have h3:=tP h1
 rw [show [x].flatten=x by simp] at h2 h3
 exact ⟨h2,h3⟩
theorem HV:∀ xs:List (List UInt8),Lib.join xs []=xs.flatten
 | []=>rfl
 | x::xs=>by rw [Lib.join_cons,Lib.joinTail,List.flatten_cons];simp
theorem ni:∀ xs:List (List UInt8),xs.reverse.flatten.length=xs.flatten.length
 | []=>rfl
 | x::xs=>by
  rw [List.reverse_cons,List.flatten_append,List.length_append,ni xs,List.flatten_cons,List.length_append]
  simp [Nat.add_comm]
theorem tQ {x:List UInt8}:∀ {xs:List (List UInt8)},x∈xs->x.length<=xs.flatten.length
 | y::ys,h=>by
  rw [List.flatten_cons,List.length_append]
  rcases List.mem_cons.1 h with rfl | h
  ·omega
  ·have:=tQ h;omega
theorem HW (s:List UInt8):(chs s).length<=s.length:=by
 have h:∀ (n:Nat) (l:List UInt8),(pcs n l).length<=l.length:=by
  intro n
  induction n with
  | zero=>intro l;exact Nat.zero_le _
  | succ n ih =>
   intro l
   simp only [pcs]
   split
   ·exact Nat.zero_le _
   ·rename_i hne
    have h1:=Lib.decodeL_width l
    have h2:=ih (l.drop (Lib.decodeL l).2)
    have h3:=List.length_pos_iff.2 hne
    rw [List.length_drop] at h2
    rw [List.length_cons]
    omega
 exact h _ _
end Go.AM.PV
namespace Go.AM.PV
open Go Go.AM Go.AM.SX Go.Proofs
def gA:List Value->Option (List ByteArray)
 | []=>some []
 | .string s::l=>match gA l with
  | some r=>some (s::r)
  | none=>none
 | _::_=>none
theorem tR:∀ {cs:List Value} {xs:List ByteArray},gA cs=some xs->cs=xs.map .string
 | [],xs,h=>by cases h;rfl
 | v::cs,xs,h=>by
  cases v with
  | string s =>
   simp only [gA] at h
   split at h
   ·rename_i r hr
    cases h
    rw [tR hr]
    rfl
   ·cases h
  | _=>simp only [gA] at h;cases h
def xrJ (f:FuncId) (cs rest:List Value):Option Value :=
 if f=112 then match gA cs,rest with
  | some xs,[.string sep]=>if xs.length<=140737488355328/\(Lib.join (xs.map (·.data.toList)) sep.data.toList).length<=140737488355328 then some (.string ⟨(Lib.join (xs.map (·.data.toList)) sep.data.toList).toArray⟩) else none
  | _,_=>none
 else none
theorem HX:∀ (f:FuncId) (cs rest:List Value) (v:Value),xrJ f cs rest=some v->cs.all aH=true->rest.all aH=true->∀ (w:World) (x:Value),kc w cs x->Calls Tryz.prog f (x::rest).toArray w fun e w'=>e=.returned v/\ke w w':=by
 intro f cs rest v h h8 h9 w x ⟨a,c,hx,hs⟩
 clear h8 h9
 unfold xrJ at h
 split at h
 case isFalse=>cases h
 rename_i hf
 subst hf
 split at h
 case h_2=>cases h
 rename_i xs sep ht
 split at h
 case isFalse=>cases h
 rename_i hb
 cases h
 obtain rfl:=tR ht
 subst hx
 rcases hs with he | ⟨b,o,rfl,h1,h2,h3⟩
 ·obtain rfl:xs=[]:=by simpa using he
  have hc:Calls Tryz.prog 112 #[.slice a 0 c,.string sep] w _:=Any.strings_Join_none Tryz.lays156 Tryz.Builder_Extra_156 a c sep w
  refine hc.mono ?_
  rintro e w' ⟨h5,rfl⟩
  exact ⟨h5,fun _ _=>rfl,Nat.le_refl _,rfl,rfl,rfl⟩
 ·rw [List.length_map] at h2 ⊢
  have hc:Calls Tryz.prog 112 #[.slice (some ⟨b,o,none⟩) xs.length c,.string sep] w _:=Any.strings_Join Tryz.lays156 Tryz.Builder_Extra_156 b o c xs sep w (fun j y hy=>h3 j _ (by rw [List.getElem?_map,hy];rfl)) h1 hb.1 h2 hb.2
  refine hc.mono ?_
  rintro e w' ⟨h5,h6⟩
  exact ⟨h5,h6.block,h6.size,h6.tape,h6.os,h6.output⟩
structure JoinE (E:Env):Prop where
 kn:∀ vs,knw E 112 vs=none
 xj:E.xj.any (Nat.beq 112)=true
 xr:E.xr=xrJ
def bsL (ls:List (List UInt8)):List Value:=ls.map fun l=>bs l
theorem tS (ls:List (List UInt8)):pcP ls=(bsL ls).map .c:=by
 unfold pcP bsL
 rw [List.map_map]
 rfl
theorem HY (ls:List (List UInt8)):gA (bsL ls)=some (ls.map fun l=>⟨l.toArray⟩):=by
 induction ls with
 | nil=>rfl
 | cons x ls ih =>
  show (match gA (bsL ls) with | some r=>some ((⟨x.toArray⟩:ByteArray)::r) | none=>none)=_
  rw [ih]
  rfl
theorem tT (ls:List (List UInt8)):(bsL ls).all aH=true:=by
 rw [List.all_eq_true]
 intro v hv
 obtain ⟨l,_,rfl⟩:=List.mem_map.1 hv
 rfl
theorem tU {ls:List (List UInt8)} (h1:ls.length<=1048576) (h2:ls.flatten.length<=1048576):xrJ 112 (bsL ls) [bs []]=some (bs ls.flatten):=by
 have hm:(ls.map fun l=>(⟨l.toArray⟩:ByteArray)).map (·.data.toList)=ls:=by rw [List.map_map];exact List.map_id _
 unfold xrJ
 rw [if_pos rfl,HY]
 show (if (ls.map fun l=>(⟨l.toArray⟩:ByteArray)).length<=140737488355328/\(Lib.join ((ls.map fun l=>(⟨l.toArray⟩:ByteArray)).map (·.data.toList)) []).length<=140737488355328 then some (Value.string ⟨(Lib.join ((ls.map fun l=>(⟨l.toArray⟩:ByteArray)).map (·.data.toList)) []).toArray⟩) else none)=_
 rw [hm,HV,List.length_map,if_pos ⟨by omega,by omega⟩]
 rfl
section
variable {E:Env} {gl:List GRow}
theorem HZ (J:JoinE E) {ls:List (List UInt8)} (h1:ls.length<=1048576) (h2:ls.flatten.length<=1048576):PR E gl 112 [.sl 1 ls.length (pcP ls),.c (bs [])] [] (St ⟨ls.flatten.toArray⟩) []:=by
 have h:=PR.xj_sl (gl:=gl) (n:=ls.length) (ys:=[bs []]) J.kn J.xj (by rw [J.xr];exact tU h1 h2) (tT ls) rfl rfl []
 rwa [<- tS] at h
theorem H0 (J:JoinE E) {ls:List (List UInt8)} (h1:ls.length<=1048576) (h2:ls.flatten.length<=1048576):PR E gl 112 [.ms 0 0 ls.length ls.length,.c (bs [])] [.cells (pcP ls)] (St ⟨ls.flatten.toArray⟩) [.cells (pcP ls)]:=by
 have h:=PR.xj_ms (gl:=gl) (n:=ls.length) (ys:=[bs []]) J.kn J.xj (by rw [J.xr];exact tU h1 h2) (tT ls) rfl rfl (by unfold bsL;rw [List.length_map])
 rwa [<- tS] at h
end
end Go.AM.PV
namespace Go.AM.PV
open Go Go.AM Go.AM.SX Go.Proofs
noncomputable def E1:Env:={ jy Tryz.prog with ng:=3,known:=k10::(oZ.map k25++wds.map eR),xf:=[64,145],xt:=xtU,xj:=[112],xr:=xrJ }
noncomputable def bD (e:Nat):TypeInfo:=match E1.inf e with
 | some i=>i
 | none=>default
def cf0:Cfg:={ inl:=[],unr:=[] }
def cf1:Cfg:={ inl:=[168,180,190,155],unr:=[] }
def cf2:Cfg:={ inl:=[46],unr:=[] }
set_option maxRecDepth 1000000
set_option maxHeartbeats 0
theorem H2:aC E1 cf0 2000 16 1=some t16:=by kernel_rfl
theorem H3:aC E1 cf0 2000 21 1=some t21:=by kernel_rfl
theorem H4:aC E1 cf0 2000 24 1=some t24:=by kernel_rfl
theorem H5:aC E1 cf0 2000 33 3=some t33:=by kernel_rfl
theorem H6:aC E1 cf0 2000 37 2=some t37:=by kernel_rfl
theorem H7:aC E1 cf0 2000 39 3=some t39:=by kernel_rfl
theorem H8:aC E1 cf0 2000 56 1=some t56:=by kernel_rfl
theorem H9:aC E1 cf0 2000 57 1=some t57:=by kernel_rfl
theorem Ha:aC E1 cf0 2000 62 2=some t62:=by kernel_rfl
theorem Hb:aC E1 cf0 2000 65 3=some t65:=by kernel_rfl
theorem Hc:aC E1 cf0 2000 67 2=some t67:=by kernel_rfl
theorem Hd:aC E1 cf0 2000 95 1=some (t95 bD):=by kernel_rfl
theorem He:aC E1 cf0 2000 96 1=some t96:=by kernel_rfl
theorem Hf:aC E1 cf0 2000 97 1=some t97:=by kernel_rfl
theorem Hg:aC E1 cf0 2000 102 1=some t102:=by kernel_rfl
theorem Hh:aC E1 cf0 2000 105 2=some t105:=by kernel_rfl
theorem Hi:aC E1 cf0 2000 124 1=some t124:=by kernel_rfl
theorem Hj:aC E1 cf0 2000 128 1=some t128:=by kernel_rfl
theorem Hk:aC E1 cf0 2000 130 1=some t130:=by kernel_rfl
theorem Hl:aC E1 cf0 2000 133 1=some t133:=by kernel_rfl
theorem Hm:aC E1 cf0 2000 134 1=some t134:=by kernel_rfl
theorem Hn:aC E1 cf0 2000 146 1=some t146:=by kernel_rfl
theorem Ho:aC E1 cf0 2000 148 1=some t148:=by kernel_rfl
theorem Hp:aC E1 cf0 2000 13 2=some (t13 bD):=by kernel_rfl
theorem Hq:aC E1 cf0 2000 26 2=some t26:=by kernel_rfl
theorem Hr:aC E1 cf0 2000 28 1=some (t28 bD):=by kernel_rfl
theorem Ht:aC E1 cf0 2000 41 2=some t41:=by kernel_rfl
theorem Hu:aC E1 cf0 2000 42 1=some t42:=by kernel_rfl
theorem Hv:aC E1 cf0 2000 43 2=some t43:=by kernel_rfl
theorem Hw:aC E1 cf0 2000 72 1=some t72:=by kernel_rfl
theorem Hx:aC E1 cf0 2000 8 1=some t8:=by kernel_rfl
theorem Hy:aC E1 cf0 2000 15 2=some t15:=by kernel_rfl
theorem Hz:aC E1 cf0 2000 18 2=some t18:=by kernel_rfl
theorem IA:aC E1 cf0 2000 32 2=some t32:=by kernel_rfl
theorem IB:aC E1 cf1 2000 153 2=some t153:=by kernel_rfl
theorem IC:aC E1 cf1 2000 157 1=some t157:=by kernel_rfl
theorem ID:aC E1 cf1 2000 191 1=some t191:=by kernel_rfl
theorem IE:aC E1 cf2 2000 27 1=some (t27 bD):=by kernel_rfl
theorem IF:aC E1 cf0 2000 19 1=some t19:=by kernel_rfl
theorem IG:aC E1 cf0 2000 12 1=some (t12 bD):=by kernel_rfl
theorem IH:aC E1 cf0 2000 58 1=some t58:=by kernel_rfl
theorem II:aC E1 cf0 2000 34 1=some (t34 bD):=by kernel_rfl
theorem IJ:aC E1 cf0 2000 20 1=some t20:=by kernel_rfl
theorem IK:aC E1 cf0 2000 11 1=some (t11 bD):=by kernel_rfl
theorem IL:aC E1 cf0 2000 59 1=some t59:=by kernel_rfl
theorem IM:aC E1 cf0 2000 35 1=some (t35 bD):=by kernel_rfl
theorem IN:(bD 151).size=4:=by kernel_rfl
theorem IP:(bD 151).bytes=32:=by kernel_rfl
theorem tW:(bD 41).size=1:=by kernel_rfl
theorem tX:(bD 41).bytes=16:=by kernel_rfl
theorem tY:(bD 100).size=1:=by kernel_rfl
theorem tZ:(bD 100).bytes=16:=by kernel_rfl
theorem IQ:(bD 35).size=4:=by kernel_rfl
theorem IR:(bD 35).bytes=56:=by kernel_rfl
end Go.AM.PV
namespace Go.AM.PV
open Go Go.AM Go.AM.SX Go.Proofs
set_option maxRecDepth 1000000
theorem nj:Tryz.prog.funcs.all (fun g=>!(g.name == "runtime.NumGoroutine"))=true:=by kernel_rfl
theorem nk:Tryz.prog.follows .mixedOrders=true:=by kernel_rfl
theorem nn:Tryz.prog.funcs.all (fun g=>!(eY.contains g.name)||(Extern.allNextRows.lookup g.origin).isNone)=true:=by kernel_rfl
section
variable (nm:Nm)
theorem tc:EnvOk E00 Tryz.prog nm:=(p6 Tryz.prog [] (fun _ h=>by cases h) nj nk (p5 _ nn)).ng 0
theorem ok0:EnvOk E0 Tryz.prog nm:=(p6 Tryz.prog [] (fun _ h=>by cases h) nj nk (p5 _ nn)).ng 1
theorem td:KnownOk Tryz.prog nm kF:=iR (ok0 nm) (Nat.le_refl 1) RW
theorem okK:EnvOk EK Tryz.prog nm:=(ok0 nm).knows _ fun k hk=>by
 rcases List.mem_cons.1 hk with rfl | hk
 ·exact td nm
 ·exact iR (tc nm) (Nat.zero_le _) fun f=>List.all_eq_true.1 (uw f) k hk
theorem IS:EnvOk EKs Tryz.prog nm:=(ok0 nm).knows _ fun k hk=>by
 rcases List.mem_cons.1 hk with rfl | hk
 ·exact ux nm (by decide) (by decide)
 rcases List.mem_cons.1 hk with rfl | hk
 ·exact ux nm (by decide) (by decide)
 rcases List.mem_cons.1 hk with rfl | hk
 ·exact td nm
 ·exact iR (tc nm) (Nat.zero_le _) fun f=>List.all_eq_true.1 (uw f) k hk
theorem IT (f:Nat->TypeId):(wds.map eR).all (fH EKs f)=true:=by
 unfold wds
 rw [List.map_append,List.map_append,List.all_append,List.all_append,RZ,R4,R5]
 rfl
theorem np:∀ k,k∈k10::(oZ.map k25++wds.map eR)->KnownOk Tryz.prog nm k:=by
 intro k hk
 rcases List.mem_cons.1 hk with rfl | hk
 ·exact iR (okK nm) (Nat.le_refl 1) RX
 rcases List.mem_append.1 hk with hk | hk
 rotate_left
 ·refine iR (IS nm) ?_ fun f=>List.all_eq_true.1 (IT f) k hk
  obtain ⟨w,_,rfl⟩:=List.mem_map.1 hk
  exact Nat.le_refl 1
 ·refine iR (okK nm) ?_ fun f=>List.all_eq_true.1 (RY f) k hk
  obtain ⟨w,_,rfl⟩:=List.mem_map.1 hk
  exact Nat.le_refl 1
theorem ok1:EnvOk E1 Tryz.prog nm:=(((p6 Tryz.prog [] (fun _ h=>by cases h) nj nk (p5 _ nn)).ng 3).knows _ (np nm))|>.xts [64,145] xtU (Gx nm) |>.xrs [112] xrJ HX
end
theorem hE1:SxEnv E1:=SxEnv.of (ok1 .empty) rfl
def glK:List GRow:=[asc,eL,eM]
theorem lD {f:FuncId} {vs:List Value}:∀ {ks:List Known},(ks.all fun k=>!Nat.beq k.f f)=true->cc f vs ks=none
 | [],_=>rfl
 | k::ks,h=>by
  simp only [List.all_cons,Bool.and_eq_true,Bool.not_eq_true'] at h
  show (if Nat.beq k.f f&&gk k.args vs then some k else cc f vs ks)=none
  rw [h.1,Bool.false_and,if_neg (by simp)]
  exact lD h.2
theorem IU:ConvT E1 bD cf0 2000 :=
 { t19:=IF,t12:=IG,t58:=IH,t34:=II,t20:=IJ,t11:=IK,t59:=IL,t35:=IM,val1:=tW,val2:=tX,itm1:=tY,itm2:=tZ,v1:=IQ,v2:=IR }
theorem IV:Knd E1 glK bD cf0 cf1 cf2 2000 :=
 { hE:=hE1,hx:=rfl,hxt:=fun _ _ _ h=>h,hk1:=fun s=>lD (by kernel_rfl),hk2:=fun s=>lD (by kernel_rfl),g1:=by simp [glK],g2:=by simp [glK],hn:=Nat.le_refl 3,i1:=IN,i2:=IP,
   h16:=H2,h21:=H3,h24:=H4,h33:=H5,h37:=H6,h39:=H7,h56:=H8,h57:=H9,h62:=Ha,h65:=Hb,h67:=Hc,h95:=Hd,h96:=He,h97:=Hf,h102:=Hg,h105:=Hh,
   h124:=Hi,h128:=Hj,h130:=Hk,h133:=Hl,h134:=Hm,h146:=Hn,h148:=Ho,h153:=IB,h157:=IC,h191:=ID,
   j1:=tW,j2:=tX,h13:=Hp,h26:=Hq,h27:=IE,h28:=Hr,h41:=Ht,h42:=Hu,h43:=Hv,h72:=Hw,
   conv:=IU,h8:=Hx,h15:=Hy,h18:=Hz,h32:=IA,
   awake:=PR.known (k:=k10) (show knw E1 10 []=some k10 from rfl) (fun r hr=>by
     simp only [k10,List.mem_cons,List.not_mem_nil,or_false] at hr
     subst hr
     exact ⟨by simp [glK],by show 0 < 3;omega⟩) rfl [],
   want:=fun w hw=>by
     simp only [ss,List.mem_cons,List.not_mem_nil,or_false] at hw
     have hl:∀ (l:List UInt8) (r:GRow),r∈(k25 l).looks->r∈glK/\r.g < E1.ng:=fun l r hr=>by
       simp only [k25,List.mem_cons,List.not_mem_nil,or_false] at hr
       subst hr
       exact ⟨by simp [glK],by show 0 < 3;omega⟩
     rcases hw with rfl | rfl | rfl | rfl | rfl | rfl <;> exact PR.known (k:=k25 _) (show knw E1 25 [bs _]=some (k25 _) from rfl) (hl _) rfl [] }
end Go.AM.PV
namespace Go.Proofs.YtilbjefgojocaaaGreatDoor
open Go Go.AM Go.AM.SX Go.AM.PV
set_option maxRecDepth 1000000
section
variable {H:Type}
theorem IW (d:DataW H):1<=Rows.uptoBulk d:=by
 cases d with
 | lit l=>cases l <;> simp [Rows.uptoBulk]
 | nil=>simp [Rows.uptoBulk]
 | ptr d=>simp [Rows.uptoBulk]
 | slice elems spare=>simp [Rows.uptoBulk]
 | agg parts=>simp [Rows.uptoBulk]
 | iface t d=>simp [Rows.uptoBulk]
 | map entries=>simp [Rows.uptoBulk]
 | held h=>simp [Rows.uptoBulk]
theorem te {n:Nat} (ih:∀ (d:DataW H) (ps:List P),Rows.uptoBulk d<=n->Rd Tryz.prog 35 d ps->∃ v:V,ps=v.p/\v.sz<=Rows.uptoBulk d) :
  ∀ (ds:List (DataW H)) (ps:List P),Rows.uptoBulkAll ds<=n->RdL Tryz.prog 35 ds ps->∃ l:List V,ps=V.ps l/\ds.length=l.length/\V.szs l<=Rows.uptoBulkAll ds
 | [],ps,_,h=>by
  cases h
  exact ⟨[],rfl,rfl,Nat.zero_le _⟩
 | d::ds,ps,hn,h=>by
  simp only [Rows.uptoBulkAll] at hn
  cases h with
  | cons _ _ _ p ps h1 h2 =>
   obtain ⟨v,rfl,hv⟩:=ih d p (by omega) h1
   obtain ⟨l,rfl,hl,hs⟩:=te ih ds ps (by omega) h2
   refine ⟨v::l,rfl,by simp [hl],?_⟩
   simp only [V.szs,Rows.uptoBulkAll]
   omega
theorem tg:∃ fs:Array Field,Tryz.prog.underlying 35=some (.struct fs)/\∃ a b c d:Field,fs.toList=[a,b,c,d]/\Tryz.prog.underlying a.type=some (.int .i64)/\Tryz.prog.underlying b.type=some (.int .i64)/\Tryz.prog.underlying c.type=some .string/\Tryz.prog.underlying d.type=some (.slice 35) :=
 ⟨_,Tryz.underlying35,_,_,_,_,rfl,by kernel_rfl,by kernel_rfl,by kernel_rfl,by kernel_rfl⟩
theorem c35:Tryz.prog.cellsOf 35=4:=by kernel_rfl
theorem rdV:∀ (n:Nat) (d:DataW H) (ps:List P),Rows.uptoBulk d<=n->Rd Tryz.prog 35 d ps->∃ v:V,ps=v.p/\v.sz<=Rows.uptoBulk d
 | 0,d,ps,hn,_=>by
  have:=IW d
  omega
 | n+1,d,ps,hn,h=>by
  obtain ⟨fs,hu,fa,fb,fc,fd,hfs,ua,ub,uc,ud⟩:=tg
  obtain ⟨ds,rfl,hF⟩:=Do hu h
  rw [hfs] at hF
  obtain ⟨d1,ds,p1,ps,rfl,rfl,h1,hF⟩:=lB hF
  obtain ⟨d2,ds,p2,ps,rfl,rfl,h2,hF⟩:=lB hF
  obtain ⟨d3,ds,p3,ps,rfl,rfl,h3,hF⟩:=lB hF
  obtain ⟨d4,ds,p4,ps,rfl,rfl,h4,hF⟩:=lB hF
  obtain ⟨rfl,rfl⟩:=Dp hF
  obtain ⟨k,rfl,rfl,_⟩:=nY ua h1
  obtain ⟨m,rfl,rfl,_⟩:=nY ub h2
  obtain ⟨s,rfl,rfl,_⟩:=Dm uc h3
  simp only [Rows.uptoBulk,Rows.uptoBulkAll] at hn ⊢
  have hs:s.data.toList.length=s.size:=by rw [Array.length_toList];rfl
  rcases Dn ud h4 with ⟨rfl,rfl⟩ | ⟨es,rest,qs,rfl,rfl,hl⟩
  ·refine ⟨.mk k m s [],?_,?_⟩
   ·rw [c35];rfl
   ·simp only [V.sz,V.szs,Rows.uptoBulk];omega
  ·simp only [Rows.uptoBulk] at hn ⊢
   obtain ⟨l,rfl,hl1,hl2⟩:=te (n:=n) (fun d ps h1 h2=>rdV n d ps h1 h2) es qs (by omega) hl
   refine ⟨.mk k m s l,?_,?_⟩
   ·rw [c35,hl1];rfl
   ·simp only [V.sz];omega
theorem IX {t:TypeId} {x:TypeDesc} (h:Tryz.prog.underlying t=some x) (hx:∀ fs,x≠.struct fs):∀ fs,Tryz.prog.underlying t≠some (.struct fs):=by
 intro fs e
 rw [h] at e
 exact hx fs (Option.some.inj e)
theorem th {d:DataW H} {p:P} (h:RdV Tryz.prog 35 d p):∃ v:V,p=.agg v.p/\v.sz<=Rows.uptoBulk d:=by
 obtain ⟨fs,hu,_⟩:=tg
 obtain ⟨ps,rfl,h1⟩:=Dr hu h
 obtain ⟨v,rfl,hv⟩:=rdV _ d ps (Nat.le_refl _) h1
 exact ⟨v,rfl,hv⟩
end
def tsV:List TypeId:=[35,2,3,4,9,22]
theorem IY:j8 Tryz.prog tsV=true:=by kernel_rfl
theorem I0:lA glK=true:=by kernel_rfl
theorem I1:glK.all (fun r=>r.cells.all aH)=true:=by kernel_rfl
theorem I2:∀ g:Nat->TypeId,glK.all (fun r=>bX (aq (dr g glK)) r)=true:=by
 intro g
 kernel_rfl
def laidB:List (String×DataW Unit):=Rows.primKindsRow.laid
theorem I3:(laidB.all fun x=>x.2.handleName?.isNone)=true:=by kernel_rfl
theorem I4:Tryz.prog.globalNamed "strings.asciiSpace" = some 0:=by kernel_rfl
theorem I5:Tryz.prog.globalNamed "unicode/utf8.first" = some 1:=by kernel_rfl
theorem I6:Tryz.prog.globalNamed "unicode/utf8.acceptRanges" = some 2:=by kernel_rfl
theorem I7:eK Tryz.prog 3 (((Tryz.prog.globals[0]?).map (·.type)).getD 0) (Rows.laid_strings_asciiSpace (H:=Unit))=some asc.cells:=by kernel_rfl
theorem I8:eK Tryz.prog 3 (((Tryz.prog.globals[1]?).map (·.type)).getD 0) Rows.laid_unicode_utf8_first=some eL.cells:=by kernel_rfl
theorem I9:eK Tryz.prog 3 (((Tryz.prog.globals[2]?).map (·.type)).getD 0) (Rows.laid_unicode_utf8_acceptRanges (H:=Unit))=some eM.cells:=by kernel_rfl
theorem gT (g:Nat) (h:((Tryz.prog.globals[g]?).map (·.type)).isSome=true):(Tryz.prog.globals[g]?).map (·.type)=some (((Tryz.prog.globals[g]?).map (·.type)).getD 0):=by
 cases hh:(Tryz.prog.globals[g]?).map (·.type) with
 | none=>rw [hh] at h;cases h
 | some x=>rfl
theorem Ia {W:World} (h:laidMetH Tryz.prog laidB W):∀ r,r∈glK->∃ t fz,W.heap[r.g]? = some (.cells r.cells.toArray t fz):=by
 rw [MakeChecks.laidMetH_plain _ _ _ I3] at h
 intro r hr
 simp only [glK,List.mem_cons,List.not_mem_nil,or_false] at hr
 rcases hr with rfl | rfl | rfl
 ·exact nX h (x := "strings.asciiSpace") (by simp [laidB,Rows.primKindsRow]) I4 (gT 0 (by kernel_rfl)) I7
 ·exact nX h (x := "unicode/utf8.first") (by simp [laidB,Rows.primKindsRow]) I5 (gT 1 (by kernel_rfl)) I8
 ·exact nX h (x := "unicode/utf8.acceptRanges") (by simp [laidB,Rows.primKindsRow]) I6 (gT 2 (by kernel_rfl)) I9
theorem Ib:laidOutB Tryz.prog=true:=by kernel_rfl
theorem Ic:mapsRowed Tryz.prog=true:=by kernel_rfl
theorem Ie:((List.range Tryz.prog.types.size).all fun t=>match Tryz.prog.underlying t with | some (.slice e)=>decide (0 < Tryz.prog.cellsOf e) | _=>true)=true:=by kernel_rfl
theorem If:ownKnob Tryz.prog.godebug=none:=by kernel_rfl
end Go.Proofs.YtilbjefgojocaaaGreatDoor
namespace Go.Proofs.YtilbjefgojocaaaGreatDoor
open Go Go.AM Go.AM.SX Go.AM.PV
theorem Ig {H:Type} {d:DataW H} {p:P} (h:RdV Tryz.prog 2 d p):∃ n:Int,p=I n:=by
 obtain ⟨n,_,h2,_⟩:=nY Tryz.underlying2 (Ds (IX Tryz.underlying2 (fun _ e=>by cases e)) h)
 exact ⟨n,by simpa using h2⟩
end Go.Proofs.YtilbjefgojocaaaGreatDoor
namespace Go.AM.PV
open Go Go.AM Go.AM.SX
attribute [local irreducible] pz aQ
variable {E:Env} {gl:List GRow} {inf:Nat->TypeInfo} {c0 c1 c2:Cfg} {fuel:Nat}
structure Cln (E:Env) (gl:List GRow) (inf:Nat->TypeInfo) (c0 c1 c2:Cfg) (fuel:Nat):Prop extends Knd E gl inf c0 c1 c2 fuel where
 h47:aC E c0 fuel 47 1=some (t47 inf)
theorem lE {l:List Val} {i:Nat} {v:Val} (h:l[i]? = some v):(Val.ps l)[i]? = some v.p:=by
 rw [Val.ps_map,List.getElem?_map,h];rfl
theorem Ih {l:List Itm} {i:Nat} {v:Itm} (h:l[i]? = some v):(Itm.ps l)[i]? = some v.p:=by
 rw [Itm.ps_map,List.getElem?_map,h];rfl
theorem ti {l:List Val} {i:Nat} {v:Val} (h:l[i]? = some v):Val.ps (l.take (i+1))=Val.ps (l.take i)++[v.p]:=by
 rw [gp h,Val.ps_map,Val.ps_map,List.map_append];rfl
theorem Ii {l:List Itm} {i:Nat} {v:Itm} (h:l[i]? = some v):Itm.ps (l.take (i+1))=Itm.ps (l.take i)++[v.p]:=by
 rw [gp h,Itm.ps_map,Itm.ps_map,List.map_append];rfl
theorem Ij (H:Cln E gl inf c0 c1 c2 fuel) {l:List Val} (hlen:l.length<=1048576) (h28:∀ v,v∈l->PR E gl 28 [v.p] [] v.p []):PR E gl 28 [(Val.list l).p] [] (Val.list l).p []:=by
 refine fnZ H.hE (cfg:=c0) (fuel:=fuel) H.h28 (by kernel_rfl) ?_
 unfold t28
 simp only [Val.p]
 refine aA ?_
 refine bB (fun κ vs ν=>ν=[.cells [.sl 1 l.length (Val.ps l)]]/\∃ i:Nat,κ=l.length - i/\i<=l.length/\vs=[.ow fB 1 i (Val.ps (l.take i)),I i]) rfl l.length
  [.ow fB 1 0 [],I (0:Nat)] (.cons _ _ _ _ (.nilow _ _) (.cons _ _ _ _ (.refl _) .nil)) ⟨rfl,0,by omega,by omega,rfl⟩ ?_
 rintro κ vs ν ⟨rfl,i,rfl,hi,rfl⟩
 dsimp only [go_sem]
 refine aA ?_
 refine bS rfl (fun hlt=>?_) (fun hge=>?_)
 ·have hlt:i < l.length:=by omega
  obtain ⟨v,hv⟩:∃ v,l[i]? = some v:=⟨l[i],List.getElem?_eq_getElem hlt⟩
  refine cm rfl hlt ?_
  dsimp only [go_sem]
  refine dG rfl (by rw [Nat.mul_one];exact lE hv) ?_
  dsimp only [go_sem]
  refine aM (by show some [fz v.p]=some [v.p];rw [bC]) ((h28 v (List.mem_of_getElem? hv)).frame (by simp only [okm.okL,cJ,Bool.and_self]) _) (Nat.le_refl _) ?_
  dsimp only [go_sem]
  refine kr rfl (bC _) (gu _) (fp _) ?_
  dsimp only [go_sem]
  refine eH rfl rfl rfl H.j1 rfl rfl rfl rfl (by rw [H.j2];omega) (by omega) ?_
  dsimp only [go_sem]
  repeat (refine aA ?_)
  refine aF rfl ?_
  dsimp only [go_sem]
  refine ⟨l.length - (i+1),by omega,rfl,i+1,rfl,by omega,?_⟩
  rw [ti hv]
  rfl
 ·obtain rfl:i=l.length:=by omega
  refine aF rfl ?_
  dsimp only [go_sem]
  refine aA ?_
  rw [List.take_length]
  refine aG 0 rfl (Nat.zero_le _) ?_ rfl ⟨rfl,rfl⟩
  show okm.okL 0 [(Val.list l).p]=true
  simp only [okm.okL,cJ,Bool.and_self]
theorem jT (H:Cln E gl inf c0 c1 c2 fuel) {v:Val} (h1:∀ l,v≠.list l) (h2:∀ l,v≠.quot l):PR E gl 28 [v.p] [] v.p []:=by
 refine fnZ H.hE (cfg:=c0) (fuel:=fuel) H.h28 (by kernel_rfl) ?_
 unfold t28
 cases v <;> first
  | exact (h1 _ rfl).elim
  | exact (h2 _ rfl).elim
  | (simp only [Val.p];refine aA ?_;exact aG 0 rfl (Nat.zero_le _) rfl rfl ⟨rfl,rfl⟩)
theorem Ik (H:Cln E gl inf c0 c1 c2 fuel) {l:List Itm} (hlen:l.length<=1048576) (h28:∀ v,Itm.push v∈l->PR E gl 28 [v.p] [] v.p []):PR E gl 47 [.sl 1 l.length (Itm.ps l)] [] (.ow dS 1 l.length (Itm.ps l)) []:=by
 refine fnZ H.hE (cfg:=c0) (fuel:=fuel) H.h47 (by kernel_rfl) ?_
 unfold t47
 refine aA ?_
 refine bB (fun κ vs ν=>ν=[]/\∃ i:Nat,κ=l.length - i/\i<=l.length/\vs=[.ow dS 1 i (Itm.ps (l.take i)),I i]) rfl l.length
  [.ow dS 1 0 [],I (0:Nat)] (.cons _ _ _ _ (.nilow _ _) (.cons _ _ _ _ (.refl _) .nil)) ⟨rfl,0,by omega,by omega,rfl⟩ ?_
 rintro κ vs ν ⟨rfl,i,rfl,hi,rfl⟩
 dsimp only [go_sem]
 refine aA ?_
 refine bS rfl (fun hlt=>?_) (fun hge=>?_)
 ·have hlt:i < l.length:=by omega
  obtain ⟨v,hv⟩:∃ v,l[i]? = some v:=⟨l[i],List.getElem?_eq_getElem hlt⟩
  have hs:=Ii hv
  refine cm rfl hlt ?_
  dsimp only [go_sem]
  refine dG rfl (by rw [Nat.mul_one];exact Ih hv) ?_
  dsimp only [go_sem]
  cases v with
  | nil =>
   simp only [Itm.p] at hs ⊢
   repeat (refine aA ?_)
   refine eH rfl rfl rfl H.conv.itm1 rfl rfl rfl rfl (by rw [H.conv.itm2];omega) (by omega) ?_
   dsimp only [go_sem]
   repeat (refine aA ?_)
   refine aG 0 rfl (Nat.zero_le _) ?_ rfl ⟨l.length - (i+1),by omega,rfl,i+1,rfl,by omega,?_⟩
   ·show okm.okL 0 [.ow dS 1 (i+1) (Itm.ps (l.take i)++[_]),.c (.int .i64 ((i:Int)+1))]=true
    rw [<- hs]
    simp only [okm.okL,okm,dT,Bool.and_self]
   ·rw [hs]
    rfl
  | call s =>
   simp only [Itm.p] at hs ⊢
   repeat (refine aA ?_)
   refine eH rfl rfl rfl H.conv.itm1 rfl rfl rfl rfl (by rw [H.conv.itm2];omega) (by omega) ?_
   dsimp only [go_sem]
   repeat (refine aA ?_)
   refine aG 0 rfl (Nat.zero_le _) ?_ rfl ⟨l.length - (i+1),by omega,rfl,i+1,rfl,by omega,?_⟩
   ·show okm.okL 0 [.ow dS 1 (i+1) (Itm.ps (l.take i)++[_]),.c (.int .i64 ((i:Int)+1))]=true
    rw [<- hs]
    simp only [okm.okL,okm,dT,Bool.and_self]
   ·rw [hs]
    rfl
  | push w =>
   simp only [Itm.p] at hs ⊢
   refine aA ?_
   refine fA rfl rfl rfl (by show (bz w.p&&true)=true;rw [fp];rfl) (by decide) ?_
   dsimp only [go_sem]
   refine aA ?_
   refine aM (by show some [fz (fz w.p)]=some [w.p];rw [bC,bC]) ((h28 w (List.mem_of_getElem? hv)).frame (by simp only [okm.okL,cJ,Bool.and_self]) _) (Nat.le_refl _) ?_
   dsimp only [go_sem]
   refine rN rfl (bC _) (gu _) ?_
   dsimp only [go_sem]
   refine aA ?_
   refine eH rfl rfl rfl H.conv.itm1 rfl rfl rfl rfl (by rw [H.conv.itm2];omega) (by omega) ?_
   dsimp only [go_sem]
   repeat (refine aA ?_)
   refine aG 0 rfl (Nat.zero_le _) ?_ rfl ⟨l.length - (i+1),by omega,rfl,i+1,rfl,by omega,?_⟩
   ·show okm.okL 0 [.ow dS 1 (i+1) (Itm.ps (l.take i)++[_]),.c (.int .i64 ((i:Int)+1))]=true
    rw [<- hs]
    simp only [okm.okL,okm,dT,Bool.and_self]
   ·rw [hs]
    rfl
 ·obtain rfl:i=l.length:=by omega
  refine aF rfl ?_
  dsimp only [go_sem]
  refine aA ?_
  rw [List.take_length]
  exact aG 0 rfl (Nat.zero_le _) (by show okm.okL 0 [.ow dS 1 l.length (Itm.ps l)]=true;simp only [okm.okL,okm,dT,Bool.and_self]) rfl ⟨rfl,rfl⟩
theorem Il (H:Cln E gl inf c0 c1 c2 fuel) {l:List Itm} (hlen:l.length<=1048576) (h28:∀ v,Itm.push v∈l->PR E gl 28 [v.p] [] v.p []):PR E gl 28 [(Val.quot l).p] [] (Val.quot l).p []:=by
 have h47:=(Ik H hlen h28).frame (by simp only [okm.okL,okm,dT,Bool.and_self]) [.cells [.sl 1 l.length (Itm.ps l)]]
 refine fnZ H.hE (cfg:=c0) (fuel:=fuel) H.h28 (by kernel_rfl) ?_
 unfold t28
 simp only [Val.p]
 repeat (refine aA ?_)
 refine aG 0 rfl (Nat.zero_le _) ?_ rfl ⟨rfl,rfl⟩
 show okm.okL 0 [(Val.quot l).p]=true
 simp only [okm.okL,cJ,Bool.and_self]
mutual
theorem tj (H:Cln E gl inf c0 c1 c2 fuel):∀ v:Val,v.small 1048576->PR E gl 28 [v.p] [] v.p []
 | .list l,h=>by
  simp only [Val.small] at h
  exact Ij H h.1 (nq H l h.2)
 | .quot l,h=>by
  simp only [Val.small] at h
  exact Il H h.1 (tk H l h.2)
 | .nil,_=>jT H (fun _ e=>by cases e) (fun _ e=>by cases e)
 | .int _,_=>jT H (fun _ e=>by cases e) (fun _ e=>by cases e)
 | .str _,_=>jT H (fun _ e=>by cases e) (fun _ e=>by cases e)
 | .bool _,_=>jT H (fun _ e=>by cases e) (fun _ e=>by cases e)
 | .box _,_=>jT H (fun _ e=>by cases e) (fun _ e=>by cases e)
theorem nq (H:Cln E gl inf c0 c1 c2 fuel):∀ l:List Val,Val.smalls 1048576 l->∀ v,v∈l->PR E gl 28 [v.p] [] v.p []
 | [],_,v,hm=>by cases hm
 | w::l,h,v,hm=>by
  simp only [Val.smalls] at h
  have hw:=tj H w h.1
  rcases List.mem_cons.1 hm with rfl | hm
  ·exact hw
  ·exact nq H l h.2 v hm
theorem Im (H:Cln E gl inf c0 c1 c2 fuel):∀ v:Itm,v.small 1048576->∀ w,v=.push w->PR E gl 28 [w.p] [] w.p []
 | .push v,h,w,e=>by
  simp only [Itm.small] at h
  cases e
  exact tj H v h
 | .nil,_,w,e=>by cases e
 | .call _,_,w,e=>by cases e
theorem tk (H:Cln E gl inf c0 c1 c2 fuel):∀ l:List Itm,Itm.smalls 1048576 l->∀ v,Itm.push v∈l->PR E gl 28 [v.p] [] v.p []
 | [],_,v,hm=>by cases hm
 | w::l,h,v,hm=>by
  simp only [Itm.smalls] at h
  have hw:=Im H w h.1
  rcases List.mem_cons.1 hm with e | hm
  ·exact hw v e.symm
  ·exact tk H l h.2 v hm
end
theorem Io {E:Env} {gl:List GRow} {a b:N} {m:Nat} {rv:Rv} {d:Bool} {hs:List Nat} {ps:List P} {μ:Mu} {Q:aW} {x:X} {t:Bool} (h:denF ps [x]=some [.c (.bool ((t==t) != true))]) (hb:pz E gl b m rv d hs ps μ Q):pz E gl (.br x a b) m rv d hs ps μ Q :=
 aP h (fun h=>by cases t <;> cases h) fun _=>hb
theorem Ip {E:Env} {gl:List GRow} {a b:N} {m:Nat} {rv:Rv} {d:Bool} {hs:List Nat} {ps:List P} {μ:Mu} {Q:aW} {x:X} {s:ByteArray} (h:denF ps [x]=some [.c (.bool (!(s.data.toList==s.data.toList)))]) (hb:pz E gl b m rv d hs ps μ Q):pz E gl (.br x a b) m rv d hs ps μ Q :=
 aP h (fun h=>by simp at h) fun _=>hb
theorem tn (H:Cln E gl inf c0 c1 c2 fuel) {l:List V} (hlen:l.length<=1048576) (h32:∀ v,v∈l->PR E gl 32 [.agg v.p,.agg v.p] [] (Bo true) []):PR E gl 15 [.sl 4 l.length (V.ps l),.sl 4 l.length (V.ps l)] [] (Bo true) []:=by
 refine fnZ H.hE (cfg:=c0) (fuel:=fuel) H.h15 (by kernel_rfl) ?_
 unfold t15
 refine aA ?_
 refine bB (fun κ vs ν=>ν=[]/\∃ i:Nat,κ=l.length - i/\i<=l.length/\vs=[Bo false,I i]) rfl l.length _ (LeL.refl _) ⟨rfl,0,by omega,by omega,rfl⟩ ?_
 rintro κ vs ν ⟨rfl,i,rfl,hi,rfl⟩
 dsimp only [go_sem]
 refine aA ?_
 refine bS rfl (fun hlt=>?_) (fun hge=>?_)
 ·have hlt:i < l.length:=by omega
  obtain ⟨v,hv⟩:∃ v,l[i]? = some v:=⟨l[i],List.getElem?_eq_getElem hlt⟩
  have h1:=h32 v (List.mem_of_getElem? hv)
  have h2:=V.ps_at l i v hv
  refine aA ?_
  refine ku rfl (by rw [V.ps_length];omega) ?_
  rw [h2]
  dsimp only [go_sem]
  refine cm rfl hlt ?_
  dsimp only [go_sem]
  refine ku rfl (by rw [V.ps_length];omega) ?_
  rw [h2]
  dsimp only [go_sem]
  clear h32 h2 hv
  obtain ⟨k,n,s,m⟩:=v
  simp only [V.p] at h1 ⊢
  repeat (refine aA ?_)
  refine aF rfl ?_
  dsimp only [go_sem]
  exact ⟨l.length - (i+1),by omega,rfl,i+1,rfl,by omega,rfl⟩
 ·obtain rfl:i=l.length:=by omega
  refine aF rfl ?_
  dsimp only [go_sem]
  repeat (refine aA ?_)
  exact aG 0 rfl (Nat.zero_le _) rfl rfl ⟨rfl,rfl⟩
theorem Iq (H:Cln E gl inf c0 c1 c2 fuel) {k n:Int} {s:ByteArray} {l:List V} (h15:PR E gl 15 [.sl 4 l.length (V.ps l),.sl 4 l.length (V.ps l)] [] (Bo true) []):PR E gl 32 [.agg (V.mk k n s l).p,.agg (V.mk k n s l).p] [] (Bo true) []:=by
 have h15:=h15.frame (by simp only [okm.okL,okm,fo,Bool.and_self]) [.cells (V.mk k n s l).p,.cells (V.mk k n s l).p]
 refine fnZ H.hE (cfg:=c0) (fuel:=fuel) H.h32 (by kernel_rfl) ?_
 unfold t32
 simp only [V.p] at h15 ⊢
 refine aA ?_
 repeat' (first | refine Io rfl ?_ | refine Ip rfl ?_ | refine aA ?_ | refine bS rfl (fun h=>?_) (fun h=>?_))
 all_goals first
  | exact aG 0 rfl (Nat.zero_le _) rfl rfl ⟨rfl,rfl⟩
mutual
theorem Ir (H:Cln E gl inf c0 c1 c2 fuel):∀ v:V,v.small 1048576->PR E gl 32 [.agg v.p,.agg v.p] [] (Bo true) []
 | .mk k n s l,h=>by
  simp only [V.small] at h
  exact Iq H (tn H h.1 (nr H l h.2.1))
theorem nr (H:Cln E gl inf c0 c1 c2 fuel):∀ l:List V,V.smalls 1048576 l->∀ v,v∈l->PR E gl 32 [.agg v.p,.agg v.p] [] (Bo true) []
 | [],_,v,hm=>by cases hm
 | w::l,h,v,hm=>by
  simp only [V.smalls] at h
  have hw:=Ir H w h.1
  rcases List.mem_cons.1 hm with rfl | hm
  ·exact hw
  ·exact nr H l h.2 v hm
end
theorem tp (H:Cln E gl inf c0 c1 c2 fuel) {l:List V} (hl:l.length<=1048576) (h:V.smalls 1048576 l):PR E gl 15 [.sl 4 l.length (V.ps l),.sl 4 l.length (V.ps l)] [] (Bo true) [] :=
 tn H hl (nr H l h)
end Go.AM.PV
namespace Go.AM.PV
open Go Go.AM Go.AM.SX
attribute [local irreducible] pz aQ
variable {E:Env} {gl:List GRow} {inf:Nat->TypeInfo} {c0 c1 c2:Cfg} {fuel:Nat}
theorem hO {n:Nat}:∀ {l:List Val},Val.smalls n l->∀ v,v∈l->v.small n
 | [],_,v,hm=>by cases hm
 | w::l,h,v,hm=>by
  simp only [Val.smalls] at h
  rcases List.mem_cons.1 hm with rfl | hm
  ·exact h.1
  ·exact hO h.2 v hm
theorem tq (H:Cln E gl inf c0 c1 c2 fuel) {nmw:List UInt8} {l:List Val} (hl:l.length<=1048576) (hs:Val.smalls 1048576 l) (hg:∀ v,v∈l->v.chk vsR nmR=0) {Q:aW}
  (hk:pz E gl (uq inf) 0 none false [] [.c (bs nmw),.sl 1 l.length (Val.ps l),I l.length,I 2,.c (.slice none 0 0),I 0,I l.length] [] Q) :
  pz E gl (t13 inf) 0 none false [] [.c (bs nmw),.sl 1 l.length (Val.ps l)] [] Q:=by
 unfold t13
 refine aA ?_
 refine bB (fun κ vs ν=>ν=[]/\∃ i:Nat,κ=l.length - i/\i<=l.length/\vs=[.c (.slice none 0 0),I 0,I i]) rfl l.length _ (LeL.refl _) ⟨rfl,0,by omega,by omega,rfl⟩ ?_
 rintro κ vs ν ⟨rfl,i,rfl,hi,rfl⟩
 dsimp only [go_sem]
 refine aA ?_
 refine bS rfl (fun hlt=>?_) (fun hge=>?_)
 ·have hlt:i < l.length:=by omega
  obtain ⟨v,hv⟩:∃ v,l[i]? = some v:=⟨l[i],List.getElem?_eq_getElem hlt⟩
  have hm:=List.mem_of_getElem? hv
  have hc:=H.check v (hO hs v hm)
  rw [hg v hm] at hc
  refine cm rfl hlt ?_
  dsimp only [go_sem]
  refine dG rfl (by rw [Nat.mul_one];exact lE hv) ?_
  dsimp only [go_sem]
  refine aM (by show some [fz v.p]=some [v.p];rw [bC]) hc (Nat.le_refl _) ?_
  dsimp only [go_sem]
  repeat (refine aA ?_)
  refine aF rfl ?_
  dsimp only [go_sem]
  exact ⟨l.length - (i+1),by omega,rfl,i+1,rfl,by omega,rfl⟩
 ·obtain rfl:i=l.length:=by omega
  refine aF rfl ?_
  dsimp only [go_sem]
  refine aA ?_
  exact hk
theorem tu {v:Val} (h:¬ v.chk vsR nmR=0):v.chk vsR nmR=1:=by
 unfold Val.chk at h ⊢
 split
 ·rename_i h1;rw [if_pos h1] at h;exact (h rfl).elim
 ·rfl
theorem Is (H:Cln E gl inf c0 c1 c2 fuel) (nmw:List UInt8) {l:List Val} (hl:l.length<=1048576) (hs:Val.smalls 1048576 l) {j:Nat} {u:Val} (hj:l[j]? = some u) (hu:¬ u.chk vsR nmR=0) (hb:∀ (i:Nat) (v:Val),i < j->l[i]? = some v->v.chk vsR nmR=0) :
  PR E gl 13 [.c (bs nmw),.sl 1 l.length (Val.ps l)] [] (.tup [.c (.slice none 0 0),I 1]) []:=by
 refine fnZ H.hE (cfg:=c0) (fuel:=fuel) H.h13 (by kernel_rfl) ?_
 unfold t13
 refine aA ?_
 refine bB (fun κ vs ν=>ν=[]/\∃ i:Nat,κ=l.length - i/\i<=j/\vs=[.c (.slice none 0 0),I 0,I i]) rfl l.length _ (LeL.refl _) ⟨rfl,0,by omega,by omega,rfl⟩ ?_
 rintro κ vs ν ⟨rfl,i,rfl,hi,rfl⟩
 dsimp only [go_sem]
 refine aA ?_
 refine bS rfl (fun hlt=>?_) (fun hge=>?_)
 ·have hlt:i < l.length:=by omega
  obtain ⟨v,hv⟩:∃ v,l[i]? = some v:=⟨l[i],List.getElem?_eq_getElem hlt⟩
  have hm:=List.mem_of_getElem? hv
  have hc:=H.check v (hO hs v hm)
  refine cm rfl hlt ?_
  dsimp only [go_sem]
  refine dG rfl (by rw [Nat.mul_one];exact lE hv) ?_
  dsimp only [go_sem]
  rcases Nat.lt_or_ge i j with hij | hij
  ·rw [hb i v hij hv] at hc
   refine aM (by show some [fz v.p]=some [v.p];rw [bC]) hc (Nat.le_refl _) ?_
   dsimp only [go_sem]
   repeat (refine aA ?_)
   refine aF rfl ?_
   dsimp only [go_sem]
   exact ⟨l.length - (i+1),by omega,rfl,i+1,rfl,by omega,rfl⟩
  ·obtain rfl:i=j:=by omega
   rw [hj] at hv
   cases hv
   rw [tu hu] at hc
   refine aM (by show some [fz u.p]=some [u.p];rw [bC]) hc (Nat.le_refl _) ?_
   dsimp only [go_sem]
   repeat (refine aA ?_)
   refine aF rfl ?_
   dsimp only [go_sem]
   repeat (refine aA ?_)
   exact aG 0 rfl (Nat.zero_le _) rfl rfl ⟨rfl,rfl⟩
 ·have hjl:j < l.length:=(List.getElem?_eq_some_iff.1 hj).1
  omega
theorem uA:∀ {l:List Val},(¬ ∀ v,v∈l->v.chk vsR nmR=0)->∃ (j:Nat) (u:Val),l[j]? = some u/\¬ u.chk vsR nmR=0/\∀ (i:Nat) (v:Val),i < j->l[i]? = some v->v.chk vsR nmR=0
 | [],h=>(h fun v hv=>by cases hv).elim
 | w::l,h=>by
  by_cases hw:w.chk vsR nmR=0
  ·obtain ⟨j,u,h1,h2,h3⟩:=uA (l:=l) fun h2=>h fun v hv=>by
    rcases List.mem_cons.1 hv with rfl | hv
    ·exact hw
    ·exact h2 v hv
   refine ⟨j+1,u,by rw [List.getElem?_cons_succ];exact h1,h2,fun i v hi hv=>?_⟩
   cases i with
   | zero=>simp only [List.getElem?_cons_zero,Option.some.injEq] at hv;subst hv;exact hw
   | succ i=>exact h3 i v (by omega) (by rw [List.getElem?_cons_succ] at hv;exact hv)
  ·exact ⟨0,w,rfl,hw,fun i v hi=>absurd hi (by omega)⟩
theorem uB (H:Cln E gl inf c0 c1 c2 fuel) (nmw:List UInt8) {l:List Val} (hl:l.length<=1048576) (hs:Val.smalls 1048576 l) (hb:¬ ∀ v,v∈l->v.chk vsR nmR=0) :
  PR E gl 13 [.c (bs nmw),.sl 1 l.length (Val.ps l)] [] (.tup [.c (.slice none 0 0),I 1]) []:=by
 obtain ⟨j,u,h1,h2,h3⟩:=uA hb
 exact Is H nmw hl hs h1 h2 h3
theorem uC {l:List Val} {k:Nat} (_hk:k<=l.length):((Val.ps l).drop ((l.length - k) * 1)).take ((l.length - (l.length - k)) * 1)=Val.ps (l.drop (l.length - k)):=by
 rw [Nat.mul_one,Nat.mul_one,Val.ps_map,<- List.map_drop,<- Val.ps_map]
 refine List.take_of_length_le ?_
 rw [Val.ps_map,List.length_map,List.length_drop]
 exact Nat.le_refl _
section
variable {k:N} {m:Nat} {rv:Rv} {d:Bool} {hs:List Nat} {ps:List P} {μ:Mu} {Q:aW} {xs:List X}
theorem uD {sz n j n':Nat} {i:Int} {l l':List P} (h:denF ps xs=some [.sl sz n l,.c (.int .i64 i)]) (hj:i=(j:Nat)) (hi:j<=n) (hn:n - j=n') (hl:(l.drop (j * sz)).take ((n - j) * sz)=l') (hk:pz E gl k m rv d hs (ps++[.sl sz n' l']) μ Q):pz E gl (.op (.subL sz true false false) xs k) m rv d hs ps μ Q:=by
 subst hj hn hl
 exact yb h hi hk
theorem It {sz n j:Nat} {i:Int} {l l':List P} (h:denF ps xs=some [.sl sz n l,.c (.int .i64 i)]) (hj:i=(j:Nat)) (hi:j<=n) (hl:l.take (j * sz)=l') (hk:pz E gl k m rv d hs (ps++[.sl sz j l']) μ Q):pz E gl (.op (.subL sz false true false) xs k) m rv d hs ps μ Q:=by
 subst hj hl
 exact ye h hi hk
end
theorem Iu (l:List Val) (n:Nat):(Val.ps l).take (n * 1)=Val.ps (l.take n):=by
 rw [Nat.mul_one,Val.ps_map,<- List.map_take,<- Val.ps_map]
theorem nu (H:Cln E gl inf c0 c1 c2 fuel) {nmw ks:List UInt8} {l:List Val} (hl:l.length<=1048576) (hs:Val.smalls 1048576 l) (hg:∀ v,v∈l->v.chk vsR nmR=0)
  (hwant:PR E gl 25 [.c (bs nmw)] [] (.c (.tuple #[bs ks,.bool true])) []) (hk:ks.toArray.size<=l.length) {q:P} {e:Int} (he:e≠0)
  (ha:PR E gl 26 [.c (bs nmw),.sl 1 ks.toArray.size (Val.ps (l.drop (l.length - ks.toArray.size)))] [] (.tup [q,I e]) []) :
  PR E gl 13 [.c (bs nmw),.sl 1 l.length (Val.ps l)] [] (.tup [.c (.slice none 0 0),I e]) []:=by
 refine fnZ H.hE (cfg:=c0) (fuel:=fuel) H.h13 (by kernel_rfl) ?_
 refine tq H hl hs hg ?_
 repeat (refine aA ?_)
 refine uD (j:=l.length - ks.toArray.size) (n':=ks.toArray.size) rfl (by omega) (by omega) (by omega) (uC hk) ?_
 dsimp only [go_sem]
 repeat (refine aA ?_)
 exact aG 0 rfl (Nat.zero_le _) rfl rfl ⟨rfl,rfl⟩
theorem uE (l m:List Val):Val.ps l++Val.ps m=Val.ps (l++m):=by
 rw [Val.ps_map,Val.ps_map,Val.ps_map,List.map_append]
theorem lF {n:Nat}:∀ {l m:List Val},Val.smalls n l->Val.smalls n m->Val.smalls n (l++m)
 | [],m,_,h=>h
 | v::l,m,h,k=>by
  simp only [Val.smalls] at h
  simp only [List.cons_append,Val.smalls]
  exact ⟨h.1,lF h.2 k⟩
theorem smalls_of {n:Nat}:∀ {l:List Val},(∀ v,v∈l->v.small n)->Val.smalls n l
 | [],_=>by simp only [Val.smalls]
 | v::l,h=>by
  simp only [Val.smalls]
  exact ⟨h v (by simp),smalls_of fun w hw=>h w (by simp [hw])⟩
set_option maxHeartbeats 4000000 in
theorem jU (H:Cln E gl inf c0 c1 c2 fuel) {nmw ks:List UInt8} {l:List Val} (hl:l.length<=1048576) (hs:Val.smalls 1048576 l) (hg:∀ v,v∈l->v.chk vsR nmR=0)
  (hwant:PR E gl 25 [.c (bs nmw)] [] (.c (.tuple #[bs ks,.bool true])) []) (hk:ks.toArray.size<=l.length) {q:P} {outs:List Val} (hq:q=.sl 1 outs.length (Val.ps outs)\/q=.fx 1 outs.length (Val.ps outs))
  (ha:PR E gl 26 [.c (bs nmw),.sl 1 ks.toArray.size (Val.ps (l.drop (l.length - ks.toArray.size)))] [] (.tup [q,I 0]) [])
  (hol:outs.length<=1048576) (hos:Val.smalls 1048576 outs) {L:List Val} (hL:L=l.take (l.length - ks.toArray.size)++outs) :
  PR E gl 13 [.c (bs nmw),.sl 1 l.length (Val.ps l)] [] (.tup [.sl 1 L.length (Val.ps L),I 0]) []:=by
 have hcl:=nq H L (by rw [hL];exact lF (smalls_of fun v hv=>hO hs v (List.mem_of_mem_take hv)) hos)
 have hn:l.length - ks.toArray.size+outs.length=L.length:=by rw [hL,List.length_append,List.length_take];omega
 have hLs:L.length<=2097152:=by omega
 have hcat:PR E gl 27 [.fx 1 2 [.sl 1 (l.length - ks.toArray.size) (Val.ps (l.take (l.length - ks.toArray.size))),q]] [] (.ow 41 1 L.length (Val.ps L)) []:=by
  rw [<- hn,hL,<- uE]
  rcases hq with rfl | rfl
  ·exact oX (gl:=gl) H.hE H.h27 H.j1 H.j2 (SlP.sl _ _) (SlP.sl _ _) (by omega) (by omega) []
  ·exact oX (gl:=gl) H.hE H.h27 H.j1 H.j2 (SlP.sl _ _) (SlP.fx _ _) (by omega) (by omega) []
 clear hL hn
 refine fnZ H.hE (cfg:=c0) (fuel:=fuel) H.h13 (by kernel_rfl) ?_
 refine tq H hl hs hg ?_
 repeat (refine aA ?_)
 refine uD (j:=l.length - ks.toArray.size) (n':=ks.toArray.size) rfl (by omega) (by omega) (by omega) (uC hk) ?_
 dsimp only [go_sem]
 repeat (refine aA ?_)
 refine It (j:=l.length - ks.toArray.size) rfl (by omega) (by omega) (Iu l _) ?_
 dsimp only [go_sem]
 rcases hq with rfl | rfl
 all_goals
  repeat (refine aA ?_)
  refine aM (jR rfl rfl (by decide)) hcat (Nat.le_refl _) ?_
  dsimp only [go_sem]
  repeat (refine aA ?_)
 all_goals
  refine bB (fun κ vs ν=>ν=[]/\∃ i:Nat,κ=L.length - i/\i<=L.length/\vs=[.ow fB 1 i (Val.ps (L.take i)),I i]) rfl L.length
   [.ow fB 1 0 [],I (0:Nat)] (.cons _ _ _ _ (.nilow _ _) (.cons _ _ _ _ (.refl _) .nil)) ⟨rfl,0,by omega,by omega,rfl⟩ ?_
  clear ha hcat hwant
  rintro κ vs ν ⟨rfl,i,rfl,hi,rfl⟩
  dsimp only [go_sem]
  refine aA ?_
  refine bS rfl (fun hlt=>?_) (fun hge=>?_)
  ·have hlt:i < L.length:=by omega
   obtain ⟨v,hv⟩:∃ v,L[i]? = some v:=⟨L[i],List.getElem?_eq_getElem hlt⟩
   refine cm rfl hlt ?_
   dsimp only [go_sem]
   refine dG rfl (by rw [Nat.mul_one];exact lE hv) ?_
   dsimp only [go_sem]
   refine aM (by show some [fz v.p]=some [v.p];rw [bC]) (hcl v (List.mem_of_getElem? hv)) (Nat.le_refl _) ?_
   dsimp only [go_sem]
   refine kr rfl (bC _) (gu _) (fp _) ?_
   dsimp only [go_sem]
   refine eH rfl rfl rfl H.j1 rfl rfl rfl rfl (by rw [H.j2];omega) (by omega) ?_
   dsimp only [go_sem]
   clear hcl
   repeat (refine aA ?_)
   refine aF rfl ?_
   dsimp only [go_sem]
   refine ⟨L.length - (i+1),by omega,rfl,i+1,rfl,by omega,?_⟩
   rw [ti hv]
   rfl
  ·obtain rfl:i=L.length:=by omega
   refine aF rfl ?_
   dsimp only [go_sem]
   refine aA ?_
   rw [List.take_length]
   refine aG 0 rfl (Nat.zero_le _) ?_ rfl ⟨rfl,rfl⟩
   show okm.okL 0 [.tup [.sl 1 L.length (Val.ps L),I 0]]=true
   simp only [okm.okL,okm,bu,Bool.and_self]
end Go.AM.PV
namespace Go.AM.PV
open Go Go.AM Go.AM.SX
def uF (T:N) (hs:List Nat) (ps:List P):Option (N×P):=match T with
 | .self x k=>match denF ps [x] with
  | some [p]=>some (k,p)
  | _=>none
 | .chk i r xs x k=>match denF ps [x] with
  | some [p]=>if eV r then some (k,p) else match denF ps xs with
   | some as1=>if dv r as1 then (match x,hs[i]? with
    | .at (.n j),some nv=>if Nat.ble nv j then some (k,p) else none
    | _,_=>none) else some (k,p)
   | none=>none
  | _=>none
 | _=>none
theorem bN {E:Env} {gl:List GRow} {T T':N} {m:Nat} {rv:Rv} {d:Bool} {hs:List Nat} {ps:List P} {μ:Mu} {Q:aW} {p:P} (h:uF T hs ps=some (T',p)) (hp0:shal 40 p=true) (hk:pz E gl T' m rv d hs ps μ Q):pz E gl T m rv d hs ps μ Q:=by
 unfold uF at h
 split at h
 ·split at h
  ·rename_i q hq
   cases h;exact ⟨⟨p,hq,hp0⟩,hk⟩
  ·cases h
 ·split at h
  ·rename_i q hq
   split at h
   ·rename_i hm;cases h;exact ⟨⟨⟨p,hq,hp0⟩,.inl hm⟩,hk⟩
   ·split at h
    ·rename_i as1 ha
     split at h
     ·split at h
      ·rename_i j nv hv
       split at h
       ·rename_i hb;cases h;exact ⟨⟨⟨p,hq,hp0⟩,.inr (.inr ⟨nv,j,hv,rfl,Nat.le_of_ble_eq_true hb⟩)⟩,hk⟩
       ·cases h
      ·cases h
     ·rename_i hl
      cases h
      exact ⟨⟨⟨p,hq,hp0⟩,.inr (.inl ⟨as1,ha,by simpa using hl⟩)⟩,hk⟩
    ·cases h
  ·cases h
 ·cases h
attribute [local irreducible] pz aQ
variable {E:Env} {gl:List GRow} {inf:Nat->TypeInfo} {c0 c1 c2:Cfg} {fuel:Nat}
structure Wds (E:Env) (gl:List GRow) (inf:Nat->TypeInfo) (c0 c1 c2:Cfg) (fuel:Nat):Prop extends Cln E gl inf c0 c1 c2 fuel where
 h44:aC E c0 fuel 44 2=some t44
 h45:aC E c0 fuel 45 2=some t45
 h73:aC E c0 fuel 73 2=some t73
 h17:aC E c0 fuel 17 2=some t17
theorem bF {v:Val} (h:v.chk vsR nmR=0):∃ t q,v.p=.ifc t q/\shal 40 (.ifc t q)=true:=by
 cases v with
 | nil=>exact absurd h (by decide)
 | int n=>exact ⟨_,_,rfl,rfl⟩
 | str n=>exact ⟨_,_,rfl,rfl⟩
 | bool n=>exact ⟨_,_,rfl,rfl⟩
 | list n=>exact ⟨_,_,rfl,rfl⟩
 | quot n=>exact ⟨_,_,rfl,rfl⟩
 | box n=>exact ⟨_,_,rfl,rfl⟩
end Go.AM.PV
namespace Go.AM.PV
open Go Go.AM Go.AM.SX
theorem uG {l:List P} {i:Nat} {x:P} (h:l[i]? = some x):l.set (0+i * 1) x=l:=by
 rw [Nat.zero_add,Nat.mul_one]
 apply List.ext_getElem?
 intro k
 rw [List.getElem?_set]
 split
 ·rename_i e
  subst e
  split
  ·exact h.symm
  ·rename_i e;rw [List.getElem?_eq_none (by omega)]
 ·rfl
def oA (p:P):Prop:=fz p=p/\aX p=[p]/\bz p=true/\shal 40 p=true
attribute [local irreducible] pz aQ
section
variable {E:Env} {gl:List GRow} {cfg:Cfg} {fuel:Nat}
set_option maxHeartbeats 4000000 in
theorem uH (hE:SxEnv E) {f:Nat} (h114:aC E cfg fuel f 1=some t114) {ls:List P} (hp:∀ p,p∈ls->oA p) (hl:ls.length<=1048576):PR E gl f [.ms 0 0 ls.length ls.length] [.cells ls] (.tup []) [.cells ls.reverse]:=by
 refine fnZ hE (cfg:=cfg) (fuel:=fuel) h114 (by kernel_rfl) ?_
 unfold t114
 repeat (refine aA ?_)
 refine bB (fun κ vs ν=>∃ (i:Nat) (j:Int) (ms:List P),κ=ls.length - i/\j=(ls.length:Int) - 1 - i/\2 * i<=ls.length/\vs=[I i,I j]/\ν=[.cells ms]/\ms.length=ls.length/\∀ k,k < ls.length->ms[k]? = if k < i\/ls.length - 1 - k < i then ls[ls.length - 1 - k]? else ls[k]?) rfl ls.length
  _ (LeL.refl _) ⟨0,(ls.length:Int) - 1,ls,by omega,by omega,by omega,rfl,rfl,rfl,fun k hk=>by rw [if_neg (by omega)]⟩ ?_
 rintro κ vs ν ⟨i,j,ms,rfl,hj,hi2,rfl,rfl,hms,hcs⟩
 dsimp only [go_sem]
 refine aA ?_
 refine bS rfl (fun hlt=>?_) (fun hge=>?_)
 ·obtain ⟨jn,rfl⟩:∃ jn:Nat,j=(jn:Int):=⟨j.toNat,by omega⟩
  have hin:i < ls.length:=by omega
  have hjn:jn < ls.length:=by omega
  obtain ⟨x,hx⟩:∃ x,ms[i]? = some x:=⟨ms[i]'(by omega),List.getElem?_eq_getElem _⟩
  obtain ⟨y,hy⟩:∃ y,ms[jn]? = some y:=⟨ms[jn]'(by omega),List.getElem?_eq_getElem _⟩
  have ci:=hcs i hin
  have cj:=hcs jn hjn
  rw [if_neg (by omega)] at ci cj
  obtain ⟨x1,x2,x3,x4⟩:=hp x (List.mem_of_getElem? (ci.symm.trans hx))
  obtain ⟨y1,y2,y3,y4⟩:=hp y (List.mem_of_getElem? (cj.symm.trans hy))
  rw [<- x1] at x4
  rw [<- y1] at y4
  try unfold sg
  repeat (first | refine aA ?_ | refine ya ?_ | refine nK ?_)
  refine hJ (s:=1) (i:=jn) rfl hjn ?_
  dsimp only [go_sem]
  refine rM (p:=y) rfl rfl (by rw [Nat.zero_add,Nat.mul_one];exact hy) (.inl rfl) ?_
  dsimp only [go_sem]
  rw [y1,uG hy]
  refine hJ (s:=1) (i:=i) rfl hin ?_
  dsimp only [go_sem]
  refine rM (p:=x) rfl rfl (by rw [Nat.zero_add,Nat.mul_one];exact hx) (.inl rfl) ?_
  dsimp only [go_sem]
  rw [x1,uG hx]
  unfold sd
  refine hJ (s:=1) (i:=i) rfl hin ?_
  dsimp only [go_sem]
  refine fA (p:=y) rfl rfl (by rw [y2];rfl) (by rw [y2,List.all_cons,y3];rfl) (by omega) ?_
  dsimp only [go_sem]
  rw [y2]
  simp only [y1]
  dsimp only [go_sem]
  refine nK ?_
  refine hJ (s:=1) (i:=jn) rfl hjn ?_
  dsimp only [go_sem]
  refine fA (p:=x) rfl rfl (by rw [x2];rfl) (by rw [x2,List.all_cons,x3];rfl) (by rw [List.length_set];omega) ?_
  dsimp only [go_sem]
  rw [x2]
  simp only [x1]
  dsimp only [go_sem]
  refine nK ?_
  repeat (first | refine aA ?_ | refine bN rfl (by assumption) ?_ | refine bN rfl rfl ?_)
  refine aF rfl ?_
  dsimp only [go_sem]
  refine ⟨_,by omega,i+1,(jn:Int) - 1,(ms.set i y).set jn x,rfl,by omega,by omega,rfl,by rw [Nat.zero_add,Nat.mul_one,Nat.zero_add,Nat.mul_one],by rw [List.length_set,List.length_set];exact hms,fun k hk=>?_⟩
  rw [List.getElem?_set,List.getElem?_set,List.length_set]
  by_cases e1:jn=k
  ·rw [if_pos e1,if_pos (by omega),if_pos (by omega),<- hx,ci,show ls.length - 1 - k=i by omega]
  ·rw [if_neg e1]
   by_cases e2:i=k
   ·rw [if_pos e2,if_pos (by omega),if_pos (by omega),<- hy,cj,show ls.length - 1 - k=jn by omega]
   ·rw [if_neg e2,hcs k hk]
    by_cases e3:k < i\/ls.length - 1 - k < i
    ·rw [if_pos e3,if_pos (by omega)]
    ·rw [if_neg e3,if_neg (by omega)]
 ·have hend:ms=ls.reverse:=by
   apply List.ext_getElem?
   intro k
   by_cases hk:k < ls.length
   ·rw [hcs k hk,List.getElem?_reverse hk]
    split
    ·rfl
    ·rw [show ls.length - 1 - k=k by omega]
   ·rw [List.getElem?_eq_none (by omega),List.getElem?_eq_none (by rw [List.length_reverse];omega)]
  subst hend
  refine aF rfl ?_
  dsimp only [go_sem]
  repeat (refine aA ?_)
  exact aF rfl ⟨rfl,rfl⟩
end
end Go.AM.PV
namespace Go.AM.PV
open Go Go.AM Go.AM.SX
attribute [local irreducible] pz aQ
section
variable {E:Env} {gl:List GRow} {cfg:Cfg} {fuel:Nat}
def Val.plen:Val->Nat
 | .str s=>(pcs s.size s.data.toList).length
 | .list l=>l.length
 | .quot l=>l.length
 | _=>0
theorem Iv (hE:SxEnv E) (h78:aC E cfg fuel 78 1=some t78) (h111:aC E cfg fuel 111 1=some t111) (v:Val) (hv:v.small 1048576):PR E gl 78 [v.p] [] (I v.plen) []:=by
 cases v with
 | str s =>
  have hc:=n8 (gl:=gl) hE h111 (s:=s) hv
  have hN:=tF s s.size 0
  rw [List.drop_zero] at hN
  rw [hN] at hc
  simp only [Val.p,Val.plen]
  refine fnZ hE (cfg:=cfg) (fuel:=fuel) h78 (by kernel_rfl) ?_
  unfold t78
  repeat (refine aA ?_)
  exact aG 0 rfl (Nat.zero_le _) rfl rfl ⟨rfl,rfl⟩
 | _ =>
  simp only [Val.p,Val.plen]
  refine fnZ hE (cfg:=cfg) (fuel:=fuel) h78 (by kernel_rfl) ?_
  unfold t78
  repeat (refine aA ?_)
  exact aG 0 rfl (Nat.zero_le _) rfl rfl ⟨rfl,rfl⟩
theorem Iw (hE:SxEnv E) (h80:aC E cfg fuel 80 3=some t80) {v:Val} (hl:PR E gl 78 [v.p] [] (I v.plen) []) {a b:Int} (h:¬ (0<=a/\a<=b/\b<=v.plen)):PR E gl 80 [I a,I b,v.p] [] (.tup [.c .nilIface,I 4]) []:=by
 have hf:PV.fz v.p=v.p:=bC v
 generalize v.p=q at *
 refine fnZ hE (cfg:=cfg) (fuel:=fuel) h80 (by kernel_rfl) ?_
 unfold t80
 refine aA ?_
 refine bS rfl (fun h1=>?_) (fun h1=>?_)
 ·repeat (refine aA ?_)
  exact aG 0 rfl (Nat.zero_le _) rfl rfl ⟨rfl,rfl⟩
 refine aA ?_
 refine bS rfl (fun h2=>?_) (fun h2=>?_)
 ·repeat (refine aA ?_)
  exact aG 0 rfl (Nat.zero_le _) rfl rfl ⟨rfl,rfl⟩
 try refine aA ?_
 refine aM (by show some [PV.fz q]=some [q];rw [hf]) hl (Nat.le_refl _) ?_
 dsimp only [go_sem]
 repeat (refine aA ?_)
 exact aG 0 rfl (Nat.zero_le _) rfl rfl ⟨rfl,rfl⟩
theorem Ix (l:List Val) (a n:Nat):((Val.ps l).drop (a * 1)).take (n * 1)=Val.ps ((l.drop a).take n):=by
 rw [Nat.mul_one,Nat.mul_one,Val.ps_map,Val.ps_map,List.map_take,List.map_drop]
theorem oB (hE:SxEnv E) (h80:aC E cfg fuel 80 3=some t80) {l:List Val} (hl:PR E gl 78 [(Val.list l).p] [] (I (Val.list l).plen) []) {a b:Nat} (h1:a<=b) (h2:b<=l.length):PR E gl 80 [I a,I b,(Val.list l).p] [] (.tup [(Val.list ((l.drop a).take (b - a))).p,I 0]) []:=by
 have hn:((l.drop a).take (b - a)).length=b - a:=by rw [List.length_take,List.length_drop];omega
 simp only [Val.p,Val.plen] at hl ⊢
 rw [hn]
 refine fnZ hE (cfg:=cfg) (fuel:=fuel) h80 (by kernel_rfl) ?_
 unfold t80
 repeat (refine aA ?_)
 refine rS (i:=a) (j:=b) rfl h1 h2 ?_
 dsimp only [go_sem]
 rw [Ix]
 generalize hk:(l.drop a).take (b - a)=k at *
 repeat (refine aA ?_)
 refine aG 0 rfl (Nat.zero_le _) ?_ rfl ⟨rfl,rfl⟩
 show okm.okL 0 [.tup [.ifc jN (.agg [.sl 1 (b - a) (Val.ps k)]),I 0]]=true
 simp only [okm.okL,okm,bu,Bool.and_self]
end
end Go.AM.PV
namespace Go.AM.PV
open Go Go.AM Go.AM.SX
theorem Iy {E:Env} {gl:List GRow} {k:N} {m:Nat} {rv:Rv} {d:Bool} {hs:List Nat} {ps:List P} {xs:List X} {μ:Mu} {Q:aW} {s t:ByteArray} (h:denF ps xs=some [.c (.string s),.c (.string t)]) (hl:s.size+t.size<=2097152) (hk:pz E gl k m rv d hs (ps++[St (s++t)]) μ Q):pz E gl (.op (.bin .add) xs k) m rv d hs ps μ Q:=by
 refine ⟨_,St (s++t),h,?_,hk⟩
 unfold aS bc
 simp only [iI,unc,aB,fP,cU,if_true,p9]
 rw [if_neg (by show ¬ ((s.size+t.size:Nat):Int) > 9223372036854775807;omega)]
attribute [local irreducible] pz aQ
variable {E:Env} {gl:List GRow} {inf:Nat->TypeInfo} {c0 c1 c2:Cfg} {fuel:Nat}
theorem Iz (hE:SxEnv E) (h79:aC E c0 fuel 79 2=some t79) {s t:ByteArray} (hs:s.size<=1048576) (ht:t.size<=1048576):PR E gl 79 [(Val.str s).p,(Val.str t).p] [] (.tup [(Val.str (s++t)).p,I 0]) []:=by
 simp only [Val.p]
 refine fnZ hE (cfg:=c0) (fuel:=fuel) h79 (by kernel_rfl) ?_
 unfold t79
 repeat (refine aA ?_)
 refine Iy (s:=s) (t:=t) rfl (by omega) ?_
 dsimp only [go_sem]
 repeat (refine aA ?_)
 exact aG 0 rfl (Nat.zero_le _) rfl rfl ⟨rfl,rfl⟩
theorem JA (H:Wds E gl inf c0 c1 c2 fuel) (h79:aC E c0 fuel 79 2=some t79) {l k:List Val} (hl:l.length<=1048576) (hk:k.length<=1048576):PR E gl 79 [(Val.list l).p,(Val.list k).p] [] (.tup [(Val.list (l++k)).p,I 0]) []:=by
 have hcat:PR E gl 27 [.fx 1 2 [.sl 1 l.length (Val.ps l),.sl 1 k.length (Val.ps k)]] [] (.ow 41 1 (l.length+k.length) (Val.ps l++Val.ps k)) [] :=
  oX (gl:=gl) H.hE H.h27 H.j1 H.j2 (SlP.sl _ _) (SlP.sl _ _) (by omega) (by omega) []
 rw [uE,<- List.length_append] at hcat
 replace hcat:=hcat.frame (by simp only [okm.okL,okm,bu,Bool.and_self]) [.cells [.sl 1 l.length (Val.ps l)],.cells [.sl 1 k.length (Val.ps k)]]
 simp only [Val.p]
 refine fnZ H.hE (cfg:=c0) (fuel:=fuel) h79 (by kernel_rfl) ?_
 unfold t79
 repeat (first | refine aA ?_ | refine aM (jR rfl rfl (by decide)) hcat (Nat.le_refl _) ?_)
 refine aG 0 rfl (Nat.zero_le _) ?_ rfl ⟨rfl,rfl⟩
 show okm.okL 0 [.tup [.ifc jN (.agg [.sl 1 (l++k).length (Val.ps (l++k))]),I 0]]=true
 simp only [okm.okL,okm,bu,Bool.and_self]
theorem JB (l m:List Itm):Itm.ps l++Itm.ps m=Itm.ps (l++m):=by
 induction l with
 | nil=>rfl
 | cons x l ih=>simp only [Itm.ps,List.cons_append,ih]
theorem JC (H:Wds E gl inf c0 c1 c2 fuel) (h79:aC E c0 fuel 79 2=some t79) {c3:Cfg} (h82:aC E c3 fuel 82 1=some (t82 inf)) (k1:(inf 100).size=1) (k2:(inf 100).bytes=16) {l k:List Itm} (hl:l.length<=1048576) (hk:k.length<=1048576):PR E gl 79 [(Val.quot l).p,(Val.quot k).p] [] (.tup [(Val.quot (l++k)).p,I 0]) []:=by
 have hcat:PR E gl 82 [.fx 1 2 [.sl 1 l.length (Itm.ps l),.sl 1 k.length (Itm.ps k)]] [] (.ow 100 1 (l.length+k.length) (Itm.ps l++Itm.ps k)) [] :=
  GB (gl:=gl) H.hE h82 k1 k2 (SlP.sl _ _) (SlP.sl _ _) (by omega) (by omega) []
 rw [JB,<- List.length_append] at hcat
 replace hcat:=hcat.frame (by simp only [okm.okL,okm,dT,Bool.and_self]) [.cells [.sl 1 l.length (Itm.ps l)],.cells [.sl 1 k.length (Itm.ps k)]]
 simp only [Val.p]
 refine fnZ H.hE (cfg:=c0) (fuel:=fuel) h79 (by kernel_rfl) ?_
 unfold t79
 repeat (first | refine aA ?_ | refine aM (jR rfl rfl (by decide)) hcat (Nat.le_refl _) ?_)
 refine aG 0 rfl (Nat.zero_le _) ?_ rfl ⟨rfl,rfl⟩
 show okm.okL 0 [.tup [.ifc sV (.agg [.sl 1 (l++k).length (Itm.ps (l++k))]),I 0]]=true
 simp only [okm.okL,okm,dT,Bool.and_self]
end Go.AM.PV
namespace Go.AM.PV
open Go Go.AM Go.AM.SX
structure Lst (E:Env) (gl:List GRow) (inf:Nat->TypeInfo) (c0 c1 c2 c3:Cfg) (fuel:Nat):Prop extends Wds E gl inf c0 c1 c2 fuel where
 join:JoinE E
 h75:aC E c0 fuel 75 1=some t75
 h78:aC E c0 fuel 78 1=some t78
 h79:aC E c0 fuel 79 2=some t79
 h80:aC E c0 fuel 80 3=some t80
 h81:aC E c0 fuel 81 1=some t81
 h82:aC E c3 fuel 82 1=some (t82 inf)
 h111:aC E c0 fuel 111 1=some t111
 h113:aC E c0 fuel 113 1=some t113
 h114:aC E c0 fuel 114 1=some t114
 h115:aC E c0 fuel 115 1=some (t115 inf)
 h116:aC E c0 fuel 116 1=some t114
 h140:aC E c0 fuel 140 2=some t140
 h158:aC E c0 fuel 158 4=some t158
 h169:aC E c0 fuel 169 2=some t169
 k1:(inf 100).size=1
 k2:(inf 100).bytes=16
attribute [local irreducible] pz aQ
def chB (s:ByteArray):List (List UInt8):=pcs s.size s.data.toList
theorem gB (s:ByteArray):chB s=chs s.data.toList:=by unfold chB chs;rw [Lib.size_eq]
theorem lG (s:ByteArray):(chB s).flatten=s.data.toList:=by rw [gB];exact nc _
theorem hU (s:ByteArray):(chB s).length<=s.size:=by rw [gB,Lib.size_eq];exact HW _
theorem uI (ls:List (List UInt8)):∀ p,p∈pcP ls->oA p:=by
 intro p hp
 obtain ⟨x,_,rfl⟩:=List.mem_map.1 hp
 exact ⟨rfl,rfl,rfl,rfl⟩
theorem hY (ls:List (List UInt8)):okm.okL 0 (pcP ls)=true:=by
 induction ls with
 | nil=>rfl
 | cons x l ih=>exact ih
theorem jV (ls:List (List UInt8)):∀ p,p∈pcP ls->PV.fz p=p:=fun p hp=>(uI ls p hp).1
theorem JD (ls:List (List UInt8)):(pcP ls).reverse=pcP ls.reverse:=by unfold pcP;rw [List.map_reverse]
theorem JE (ls:List (List UInt8)) (a n:Nat):((pcP ls).drop (a * 1)).take (n * 1)=pcP ((ls.drop a).take n):=by
 unfold pcP
 rw [Nat.mul_one,Nat.mul_one,List.map_take,List.map_drop]
theorem JF (ls:List (List UInt8)) (a n:Nat):((ls.drop a).take n).flatten.length<=ls.flatten.length:=by
 have h1:ls.flatten.length=(ls.take a).flatten.length+(ls.drop a).flatten.length:=by
  rw [<- List.length_append,<- List.flatten_append,List.take_append_drop]
 have h2:(ls.drop a).flatten.length=((ls.drop a).take n).flatten.length+((ls.drop a).drop n).flatten.length:=by
  rw [<- List.length_append,<- List.flatten_append,List.take_append_drop]
 omega
section
variable {E:Env} {gl:List GRow} {inf:Nat->TypeInfo} {c0 c1 c2 c3:Cfg} {fuel:Nat}
variable (H:Lst E gl inf c0 c1 c2 c3 fuel)
include H
theorem fE {v:Val} (hv:v.small 1048576):PR E gl 78 [v.p] [] (I v.plen) []:=Iv H.hE H.h78 H.h111 v hv
theorem JG {s:ByteArray} (hs:s.size<=1048576):PR E gl 113 [St s] [] (.sl 1 (chB s).length (pcP (chB s))) [] :=
 HP H.hE H.h113 H.h140 H.h158 (HO H.hE H.h169 H.h111 hs fun u _=>H.toNms.decode u)
theorem JH {s:ByteArray} (hs:s.size<=1048576):PR E gl 113 [St s] [] (.ms 0 0 (chB s).length (chB s).length) [.cells (pcP (chB s))]:=by
 have he:PR E gl 169 [St s,I (-1)] [] (.ms 0 0 (chB s).length (chB s).length) [.cells (pcP (chB s))]:=tK H.hE H.h169 hs (n8 H.hE H.h111 hs) fun u _=>H.toNms.decode u
 generalize chB s=l at *
 have h1:PR E gl 158 [St s,.c (bs []),I 0,I (-1)] [] (.ms 0 0 l.length l.length) [.cells (pcP l)]:=by
  refine fnZ H.hE (cfg:=c0) (fuel:=fuel) H.h158 (by kernel_rfl) ?_
  unfold t158
  repeat (refine aA ?_)
  exact aF rfl ⟨rfl,rfl⟩
 have h2:PR E gl 140 [St s,.c (bs [])] [] (.ms 0 0 l.length l.length) [.cells (pcP l)]:=by
  refine fnZ H.hE (cfg:=c0) (fuel:=fuel) H.h140 (by kernel_rfl) ?_
  unfold t140
  repeat (refine aA ?_)
  exact aF rfl ⟨rfl,rfl⟩
 refine fnZ H.hE (cfg:=c0) (fuel:=fuel) H.h113 (by kernel_rfl) ?_
 unfold t113
 repeat (refine aA ?_)
 exact aF rfl ⟨rfl,rfl⟩
theorem oC {s:ByteArray} (hs:s.size<=1048576) {a b:Nat} (h1:a<=b) (h2:b<=(chB s).length):PR E gl 80 [I a,I b,(Val.str s).p] [] (.tup [(Val.str ⟨(((chB s).drop a).take (b - a)).flatten.toArray⟩).p,I 0]) []:=by
 have hl:PR E gl 78 [(Val.str s).p] [] (I (chB s).length) []:=fE H (v:=.str s) hs
 have hc:=PR.frame (JG H hs) rfl [.cells [St s]]
 have hn:(((chB s).drop a).take (b - a)).length=b - a:=by rw [List.length_take,List.length_drop];omega
 have hle:=hU s
 have hflat:=JF (chB s) a (b - a)
 rw [lG,<- Lib.size_eq] at hflat
 have hcut:=JE (chB s) a (b - a)
 have hj:=PR.frame (HZ (gl:=gl) H.join (ls:=((chB s).drop a).take (b - a)) (by omega) (by omega)) (by simp only [okm.okL,okm,hY,Bool.and_self]) [.cells [St s]]
 rw [hn] at hj
 generalize chB s=l at *
 generalize (l.drop a).take (b - a)=k at *
 simp only [Val.p] at *
 clear hflat hle
 refine fnZ H.hE (cfg:=c0) (fuel:=fuel) H.h80 (by kernel_rfl) ?_
 unfold t80
 repeat (refine aA ?_)
 refine rS (i:=a) (j:=b) rfl h1 h2 ?_
 dsimp only [go_sem]
 rw [hcut]
 repeat (refine aA ?_)
 exact aG 0 rfl (Nat.zero_le _) rfl rfl ⟨rfl,rfl⟩
theorem uJ {s:ByteArray} (hs:s.size<=1048576):PR E gl 81 [(Val.str s).p] [] (Val.str ⟨(chB s).reverse.flatten.toArray⟩).p []:=by
 have hle:=hU s
 have hfl:=ni (chB s)
 rw [lG,<- Lib.size_eq] at hfl
 have hc:=PR.frameN (JH H hs) rfl (hY _) (jV _) [.cells [St s]]
 have hr:=uH (gl:=gl) H.hE H.h114 (uI (chB s)) (by rw [jS];omega)
 rw [jS,JD] at hr
 have hr2:=PR.frame1 (i:=1) (μ:=[.cells [St s],.cells (pcP (chB s))]) (qs:=[.ms 1 0 (chB s).length (chB s).length]) hr (.cons _ _ _ _ (.ms _ _ _) .nil) rfl (hY _) (hY _) (jV _) (jV _) rfl
 have hj:=H0 (gl:=gl) H.join (ls:=(chB s).reverse) (by rw [List.length_reverse];omega) (by omega)
 rw [List.length_reverse] at hj
 have hj2:=PR.frame1 (i:=1) (μ:=[.cells [St s],.cells (pcP (chB s).reverse)]) (qs:=[.ms 1 0 (chB s).length (chB s).length,.c (bs [])]) hj (.cons _ _ _ _ (.ms _ _ _) (.cons _ _ _ _ (.no _ rfl) .nil)) rfl (hY _) (hY _) (jV _) (jV _) rfl
 clear hr hj hfl hle
 generalize chB s=l at *
 simp only [Val.p] at *
 refine fnZ H.hE (cfg:=c0) (fuel:=fuel) H.h81 (by kernel_rfl) ?_
 unfold t81
 repeat (refine aA ?_)
 exact aG 0 rfl (Nat.zero_le _) rfl rfl ⟨rfl,rfl⟩
theorem JI {l:List Val} (hc:∀ v,v∈l->v.chk vsR nmR=0):∀ p,p∈Val.ps l->oA p:=by
 have _:=H
 intro p hp
 rw [Val.ps_map] at hp
 obtain ⟨v,hv,rfl⟩:=List.mem_map.1 hp
 obtain ⟨t,q,h1,h2⟩:=bF (hc v hv)
 exact ⟨bC v,gu v,fp v,by rw [h1];exact h2⟩
theorem uK {l:List Val} (hl:l.length<=1048576) (hc:∀ v,v∈l->v.chk vsR nmR=0):PR E gl 81 [(Val.list l).p] [] (Val.list l.reverse).p []:=by
 have hfz:∀ (l:List Val) (p:P),p∈Val.ps l->PV.fz p=p:=by
  intro l p hp
  rw [Val.ps_map] at hp
  obtain ⟨v,_,rfl⟩:=List.mem_map.1 hp
  exact bC v
 rcases Nat.eq_zero_or_pos l.length with h0 | h0
 ·obtain rfl:=List.length_eq_zero_iff.1 h0
  have h1:=PR.frame (Fj (gl:=gl) H.hE H.h115 H.j1 H.j2) rfl [.cells [.c (bs [])]]
  have h2:PR E gl 116 [.sl 1 0 []] [] (.tup []) []:=by
   refine fnZ H.hE (cfg:=c0) (fuel:=fuel) H.h116 (by kernel_rfl) ?_
   unfold t114
   repeat (first | refine ai ?_ | refine aA ?_)
   exact ⟨rfl,rfl⟩
  have h3:=PR.frame h2 rfl [.cells [.c (bs [])]]
  clear h2
  simp only [Val.p,List.reverse_nil,List.length_nil,Val.ps]
  refine fnZ H.hE (cfg:=c0) (fuel:=fuel) H.h81 (by kernel_rfl) ?_
  unfold t81
  repeat (refine aA ?_)
  exact aG 0 rfl (Nat.zero_le _) rfl rfl ⟨rfl,rfl⟩
 ·have hn:(Val.ps l).length=l.length:=by rw [Val.ps_map,List.length_map]
  have hrv:(Val.ps l).reverse=Val.ps l.reverse:=by rw [Val.ps_map,Val.ps_map,List.map_reverse]
  have h1:=PR.frameN (Fi (gl:=gl) (l:=Val.ps l) H.hE H.h115 H.j1 H.j2 h0 hl) (by simp only [okm.okL,okm,bu,Bool.and_self]) (bu l) (hfz l) [.cells [.c (bs [])]]
  have h2:=uH (gl:=gl) H.hE H.h116 (JI H hc) (by rw [hn];exact hl)
  rw [hn,hrv] at h2
  have h3:=PR.frame1 (i:=1) (μ:=[.cells [.c (bs [])],.cells (Val.ps l)]) (qs:=[.ms 1 0 l.length l.length]) h2 (.cons _ _ _ _ (.ms _ _ _) .nil) rfl (bu _) (bu _) (hfz _) (hfz _) rfl
  have h4:PR E gl 81 [(Val.list l).p] [] (.ifc jN (.agg [.ms 1 0 l.length l.length])) [.cells [.c (bs [])],.cells (Val.ps l.reverse)]:=by
   clear h2
   simp only [Val.p]
   refine fnZ H.hE (cfg:=c0) (fuel:=fuel) H.h81 (by kernel_rfl) ?_
   unfold t81
   repeat (refine aA ?_)
   exact aF rfl ⟨rfl,rfl⟩
  have h5:=PR.frzI h4 (i:=1) rfl (by rw [Val.ps_map,List.length_map,List.length_reverse]) (bu _) (hfz _)
  simp only [Val.p]
  rw [List.length_reverse]
  exact h5
end
end Go.AM.PV
namespace Go.AM.PV
open Go Go.AM Go.AM.SX
attribute [local irreducible] pz aQ
variable {E:Env} {gl:List GRow} {inf:Nat->TypeInfo} {c0 c1 c2 c3:Cfg} {fuel:Nat}
def Val.isA:Val->Bool
 | .str _ | .list _ | .quot _=>true
 | _=>false
def Val.isE:Val->Bool
 | .str _ | .list _=>true
 | _=>false
theorem gC (H:Dos E gl inf c0 c1 c2 fuel) (v:Val):PR E gl 41 [.c (.int .u8 97),v.p] [] (Bo v.isA) []:=by
 have h:=eO H v
 cases v <;>
 ·simp only [Val.p,Val.letter,Val.isA,Val.isE] at h ⊢
  refine fnZ H.hE (cfg:=c0) (fuel:=fuel) H.h41 (by kernel_rfl) ?_
  unfold t41
  repeat (refine aA ?_)
  exact aF rfl ⟨rfl,rfl⟩
theorem lH (H:Dos E gl inf c0 c1 c2 fuel) (v:Val):PR E gl 41 [.c (.int .u8 101),v.p] [] (Bo v.isE) []:=by
 have h:=eO H v
 cases v <;>
 ·simp only [Val.p,Val.letter,Val.isA,Val.isE] at h ⊢
  refine fnZ H.hE (cfg:=c0) (fuel:=fuel) H.h41 (by kernel_rfl) ?_
  unfold t41
  repeat (refine aA ?_)
  exact aF rfl ⟨rfl,rfl⟩
theorem lI (H:Dos E gl inf c0 c1 c2 fuel) (n:Int):PR E gl 41 [.c (.int .u8 110),(Val.int n).p] [] (Bo true) []:=by
 have h:=eO H (Val.int n)
 simp only [Val.p,Val.letter] at h ⊢
 refine fnZ H.hE (cfg:=c0) (fuel:=fuel) H.h41 (by kernel_rfl) ?_
 unfold t41
 repeat (refine aA ?_)
 exact aF rfl ⟨rfl,rfl⟩
abbrev ba:List UInt8:=[108,101,110,103,116,104]
theorem JJ (H:Wds E gl inf c0 c1 c2 fuel) (q:P):PR E gl 43 [.c (bs ba),q] [] (.c (.slice none 0 0)) []:=by
 refine fnZ H.hE (cfg:=c0) (fuel:=fuel) H.h43 (by kernel_rfl) ?_
 unfold t43
 repeat (refine aA ?_)
 exact aF rfl ⟨rfl,rfl⟩
theorem JK (H:Wds E gl inf c0 c1 c2 fuel) (q:P):PR E gl 44 [.c (bs ba),q] [] (.tup [.c (.slice none 0 0),I 0]) []:=by
 refine fnZ H.hE (cfg:=c0) (fuel:=fuel) H.h44 (by kernel_rfl) ?_
 unfold t44
 repeat (refine aA ?_)
 exact aF rfl ⟨rfl,rfl⟩
theorem JL (H:Wds E gl inf c0 c1 c2 fuel) {t0 tr:TypeId} {q0 qr:P} (z0:shal 40 (.ifc t0 q0)=true) (f0:PR E gl 41 [.c (.int .u8 97),.ifc t0 q0] [] (Bo true) []) (hr:PR E gl 45 [.c (bs ba),.sl 1 1 [.ifc t0 q0]] [] (.tup [.fx 1 1 [.ifc tr qr],I 0]) []) (ck:PR E gl 24 [.ifc tr qr] [] (I 0) []) (hw:PR E gl 25 [.c (bs ba)] [] (.c (.tuple #[bs [97],.bool true])) []) :
  PR E gl 26 [.c (bs ba),.sl 1 1 [.ifc t0 q0]] [] (.tup [.fx 1 1 [.ifc tr qr],I 0]) []:=by
 have hm:=JJ H (.sl 1 1 [.ifc t0 q0])
 have hn:=JK H (.sl 1 1 [.ifc t0 q0])
 refine fnZ H.hE (cfg:=c0) (fuel:=fuel) H.h26 (by kernel_rfl) ?_
 unfold t26
 refine aA ?_
 rw [show aV .i64 (((#[(97:UInt8)].size:Nat):Int) - 1)=0 from rfl]
 repeat (first | refine ai ?_ | refine aA ?_ | refine bN rfl (by assumption) ?_ | refine cX rfl ?_ | refine cg rfl ?_)
 exact ⟨rfl,rfl⟩
abbrev cL:List UInt8:=[114,101,118,101,114,115,101]
theorem JM (H:Wds E gl inf c0 c1 c2 fuel) (q:P):PR E gl 43 [.c (bs cL),q] [] (.c (.slice none 0 0)) []:=by
 refine fnZ H.hE (cfg:=c0) (fuel:=fuel) H.h43 (by kernel_rfl) ?_
 unfold t43
 repeat (refine aA ?_)
 exact aF rfl ⟨rfl,rfl⟩
theorem JN (H:Wds E gl inf c0 c1 c2 fuel) (q:P):PR E gl 44 [.c (bs cL),q] [] (.tup [.c (.slice none 0 0),I 0]) []:=by
 refine fnZ H.hE (cfg:=c0) (fuel:=fuel) H.h44 (by kernel_rfl) ?_
 unfold t44
 repeat (refine aA ?_)
 exact aF rfl ⟨rfl,rfl⟩
theorem JO (H:Wds E gl inf c0 c1 c2 fuel) {t0 tr:TypeId} {q0 qr:P} (z0:shal 40 (.ifc t0 q0)=true) (f0:PR E gl 41 [.c (.int .u8 101),.ifc t0 q0] [] (Bo true) []) (hr:PR E gl 45 [.c (bs cL),.sl 1 1 [.ifc t0 q0]] [] (.tup [.fx 1 1 [.ifc tr qr],I 0]) []) (ck:PR E gl 24 [.ifc tr qr] [] (I 0) []) (hw:PR E gl 25 [.c (bs cL)] [] (.c (.tuple #[bs [101],.bool true])) []) :
  PR E gl 26 [.c (bs cL),.sl 1 1 [.ifc t0 q0]] [] (.tup [.fx 1 1 [.ifc tr qr],I 0]) []:=by
 have hm:=JM H (.sl 1 1 [.ifc t0 q0])
 have hn:=JN H (.sl 1 1 [.ifc t0 q0])
 refine fnZ H.hE (cfg:=c0) (fuel:=fuel) H.h26 (by kernel_rfl) ?_
 unfold t26
 refine aA ?_
 rw [show aV .i64 (((#[(101:UInt8)].size:Nat):Int) - 1)=0 from rfl]
 repeat (first | refine ai ?_ | refine aA ?_ | refine bN rfl (by assumption) ?_ | refine cX rfl ?_ | refine cg rfl ?_)
 exact ⟨rfl,rfl⟩
abbrev ae:List UInt8:=[97,112,112,101,110,100]
theorem uL (H:Wds E gl inf c0 c1 c2 fuel) (q:P):PR E gl 43 [.c (bs ae),q] [] (.c (.slice none 0 0)) []:=by
 refine fnZ H.hE (cfg:=c0) (fuel:=fuel) H.h43 (by kernel_rfl) ?_
 unfold t43
 repeat (refine aA ?_)
 exact aF rfl ⟨rfl,rfl⟩
theorem uM (H:Wds E gl inf c0 c1 c2 fuel) (q:P):PR E gl 44 [.c (bs ae),q] [] (.tup [.c (.slice none 0 0),I 0]) []:=by
 refine fnZ H.hE (cfg:=c0) (fuel:=fuel) H.h44 (by kernel_rfl) ?_
 unfold t44
 repeat (refine aA ?_)
 exact aF rfl ⟨rfl,rfl⟩
theorem JP (H:Wds E gl inf c0 c1 c2 fuel) {t0 t1 tr:TypeId} {q0 q1 qr:P} (z0:shal 40 (.ifc t0 q0)=true) (z1:shal 40 (.ifc t1 q1)=true) {L0 L1:Int} (hL:(L0 != L1)=false) (e0:PR E gl 42 [.ifc t0 q0] [] (.c (.int .u8 L0)) []) (e1:PR E gl 42 [.ifc t1 q1] [] (.c (.int .u8 L1)) []) (f0:PR E gl 41 [.c (.int .u8 97),.ifc t0 q0] [] (Bo true) []) (f1:PR E gl 41 [.c (.int .u8 97),.ifc t1 q1] [] (Bo true) []) (hr:PR E gl 45 [.c (bs ae),.sl 1 2 [.ifc t0 q0,.ifc t1 q1]] [] (.tup [.fx 1 1 [.ifc tr qr],I 0]) []) (ck:PR E gl 24 [.ifc tr qr] [] (I 0) []) (hw:PR E gl 25 [.c (bs ae)] [] (.c (.tuple #[bs [97,97],.bool true])) []) :
  PR E gl 26 [.c (bs ae),.sl 1 2 [.ifc t0 q0,.ifc t1 q1]] [] (.tup [.fx 1 1 [.ifc tr qr],I 0]) []:=by
 have hm:=uL H (.sl 1 2 [.ifc t0 q0,.ifc t1 q1])
 have hn:=uM H (.sl 1 2 [.ifc t0 q0,.ifc t1 q1])
 refine fnZ H.hE (cfg:=c0) (fuel:=fuel) H.h26 (by kernel_rfl) ?_
 unfold t26
 refine aA ?_
 rw [show aV .i64 (((#[(97:UInt8),97].size:Nat):Int) - 1)=1 from rfl]
 repeat (first | refine ai ?_ | refine aA ?_ | refine bN rfl (by assumption) ?_ | refine cX rfl ?_ | refine cg rfl ?_)
 exact ⟨rfl,rfl⟩
theorem JQ (H:Wds E gl inf c0 c1 c2 fuel) {t0 t1 tr:TypeId} {q0 q1 qr:P} (z0:shal 40 (.ifc t0 q0)=true) (z1:shal 40 (.ifc t1 q1)=true) {L0 L1:Int} (hL:(L0 != L1)=false) (e0:PR E gl 42 [.ifc t0 q0] [] (.c (.int .u8 L0)) []) (e1:PR E gl 42 [.ifc t1 q1] [] (.c (.int .u8 L1)) []) (f0:PR E gl 41 [.c (.int .u8 97),.ifc t0 q0] [] (Bo true) []) (f1:PR E gl 41 [.c (.int .u8 97),.ifc t1 q1] [] (Bo true) []) (hr:PR E gl 45 [.c (bs ae),.sl 1 2 [.ifc t0 q0,.ifc t1 q1]] [] (.tup [.fx 1 1 [.ifc tr qr],I 0]) []) (ck:PR E gl 24 [.ifc tr qr] [] (I 1) []) (hw:PR E gl 25 [.c (bs ae)] [] (.c (.tuple #[bs [97,97],.bool true])) []) :
  PR E gl 26 [.c (bs ae),.sl 1 2 [.ifc t0 q0,.ifc t1 q1]] [] (.tup [.c (.slice none 0 0),I 11]) []:=by
 have hm:=uL H (.sl 1 2 [.ifc t0 q0,.ifc t1 q1])
 have hn:=uM H (.sl 1 2 [.ifc t0 q0,.ifc t1 q1])
 refine fnZ H.hE (cfg:=c0) (fuel:=fuel) H.h26 (by kernel_rfl) ?_
 unfold t26
 refine aA ?_
 rw [show aV .i64 (((#[(97:UInt8),97].size:Nat):Int) - 1)=1 from rfl]
 repeat (first | refine ai ?_ | refine aA ?_ | refine bN rfl (by assumption) ?_ | refine cX rfl ?_ | refine cg rfl ?_)
 exact ⟨rfl,rfl⟩
abbrev cM:List UInt8:=[115,108,105,99,101]
theorem JR (H:Wds E gl inf c0 c1 c2 fuel) (q:P):PR E gl 43 [.c (bs cM),q] [] (.c (.slice none 0 0)) []:=by
 refine fnZ H.hE (cfg:=c0) (fuel:=fuel) H.h43 (by kernel_rfl) ?_
 unfold t43
 repeat (refine aA ?_)
 exact aF rfl ⟨rfl,rfl⟩
theorem JS (H:Wds E gl inf c0 c1 c2 fuel) (q:P):PR E gl 44 [.c (bs cM),q] [] (.tup [.c (.slice none 0 0),I 0]) []:=by
 refine fnZ H.hE (cfg:=c0) (fuel:=fuel) H.h44 (by kernel_rfl) ?_
 unfold t44
 repeat (refine aA ?_)
 exact aF rfl ⟨rfl,rfl⟩
theorem JT (H:Wds E gl inf c0 c1 c2 fuel) {t0 t1 t2 tr:TypeId} {q0 q1 q2 qr:P} (z0:shal 40 (.ifc t0 q0)=true) (z1:shal 40 (.ifc t1 q1)=true) (z2:shal 40 (.ifc t2 q2)=true) (f0:PR E gl 41 [.c (.int .u8 110),.ifc t0 q0] [] (Bo true) []) (f1:PR E gl 41 [.c (.int .u8 110),.ifc t1 q1] [] (Bo true) []) (f2:PR E gl 41 [.c (.int .u8 101),.ifc t2 q2] [] (Bo true) []) (hr:PR E gl 45 [.c (bs cM),.sl 1 3 [.ifc t0 q0,.ifc t1 q1,.ifc t2 q2]] [] (.tup [.fx 1 1 [.ifc tr qr],I 0]) []) (ck:PR E gl 24 [.ifc tr qr] [] (I 0) []) (hw:PR E gl 25 [.c (bs cM)] [] (.c (.tuple #[bs [110,110,101],.bool true])) []) :
  PR E gl 26 [.c (bs cM),.sl 1 3 [.ifc t0 q0,.ifc t1 q1,.ifc t2 q2]] [] (.tup [.fx 1 1 [.ifc tr qr],I 0]) []:=by
 have hm:=JR H (.sl 1 3 [.ifc t0 q0,.ifc t1 q1,.ifc t2 q2])
 have hn:=JS H (.sl 1 3 [.ifc t0 q0,.ifc t1 q1,.ifc t2 q2])
 refine fnZ H.hE (cfg:=c0) (fuel:=fuel) H.h26 (by kernel_rfl) ?_
 unfold t26
 refine aA ?_
 rw [show aV .i64 (((#[(110:UInt8),110,101].size:Nat):Int) - 1)=2 from rfl]
 repeat (first | refine ai ?_ | refine aA ?_ | refine bN rfl (by assumption) ?_ | refine cX rfl ?_ | refine cg rfl ?_)
 exact ⟨rfl,rfl⟩
abbrev a8:List UInt8:=[110,116,104]
theorem uN (H:Wds E gl inf c0 c1 c2 fuel) (q:P):PR E gl 43 [.c (bs a8),q] [] (.c (.slice none 0 0)) []:=by
 refine fnZ H.hE (cfg:=c0) (fuel:=fuel) H.h43 (by kernel_rfl) ?_
 unfold t43
 repeat (refine aA ?_)
 exact aF rfl ⟨rfl,rfl⟩
theorem uO (H:Wds E gl inf c0 c1 c2 fuel) (q:P):PR E gl 44 [.c (bs a8),q] [] (.tup [.c (.slice none 0 0),I 0]) []:=by
 refine fnZ H.hE (cfg:=c0) (fuel:=fuel) H.h44 (by kernel_rfl) ?_
 unfold t44
 repeat (refine aA ?_)
 exact aF rfl ⟨rfl,rfl⟩
theorem JU (H:Wds E gl inf c0 c1 c2 fuel) {t0 t1 tr:TypeId} {q0 q1 qr:P} (z0:shal 40 (.ifc t0 q0)=true) (z1:shal 40 (.ifc t1 q1)=true) (f0:PR E gl 41 [.c (.int .u8 110),.ifc t0 q0] [] (Bo true) []) (f1:PR E gl 41 [.c (.int .u8 101),.ifc t1 q1] [] (Bo true) []) (hr:PR E gl 45 [.c (bs a8),.sl 1 2 [.ifc t0 q0,.ifc t1 q1]] [] (.tup [.fx 1 1 [.ifc tr qr],I 0]) []) (ck:PR E gl 24 [.ifc tr qr] [] (I 0) []) (hw:PR E gl 25 [.c (bs a8)] [] (.c (.tuple #[bs [110,101],.bool true])) []) :
  PR E gl 26 [.c (bs a8),.sl 1 2 [.ifc t0 q0,.ifc t1 q1]] [] (.tup [.fx 1 1 [.ifc tr qr],I 0]) []:=by
 have hm:=uN H (.sl 1 2 [.ifc t0 q0,.ifc t1 q1])
 have hn:=uO H (.sl 1 2 [.ifc t0 q0,.ifc t1 q1])
 refine fnZ H.hE (cfg:=c0) (fuel:=fuel) H.h26 (by kernel_rfl) ?_
 unfold t26
 refine aA ?_
 rw [show aV .i64 (((#[(110:UInt8),101].size:Nat):Int) - 1)=1 from rfl]
 repeat (first | refine ai ?_ | refine aA ?_ | refine bN rfl (by assumption) ?_ | refine cX rfl ?_ | refine cg rfl ?_)
 exact ⟨rfl,rfl⟩
theorem JV (H:Wds E gl inf c0 c1 c2 fuel) {t0 t1:TypeId} {q0 q1:P} (z0:shal 40 (.ifc t0 q0)=true) (z1:shal 40 (.ifc t1 q1)=true) (f0:PR E gl 41 [.c (.int .u8 110),.ifc t0 q0] [] (Bo true) []) (f1:PR E gl 41 [.c (.int .u8 101),.ifc t1 q1] [] (Bo true) []) (hr:PR E gl 45 [.c (bs a8),.sl 1 2 [.ifc t0 q0,.ifc t1 q1]] [] (.tup [.fx 1 1 [.c .nilIface],I 4]) []) (hw:PR E gl 25 [.c (bs a8)] [] (.c (.tuple #[bs [110,101],.bool true])) []) :
  PR E gl 26 [.c (bs a8),.sl 1 2 [.ifc t0 q0,.ifc t1 q1]] [] (.tup [.c (.slice none 0 0),I 4]) []:=by
 have hm:=uN H (.sl 1 2 [.ifc t0 q0,.ifc t1 q1])
 have hn:=uO H (.sl 1 2 [.ifc t0 q0,.ifc t1 q1])
 refine fnZ H.hE (cfg:=c0) (fuel:=fuel) H.h26 (by kernel_rfl) ?_
 unfold t26
 refine aA ?_
 rw [show aV .i64 (((#[(110:UInt8),101].size:Nat):Int) - 1)=1 from rfl]
 repeat (first | refine ai ?_ | refine aA ?_ | refine bN rfl (by assumption) ?_ | refine cX rfl ?_ | refine cg rfl ?_)
 exact ⟨rfl,rfl⟩
section
variable (H:Wds E gl inf c0 c1 c2 fuel) {t0 t1:TypeId} {q0 q1:P} (z0:shal 40 (.ifc t0 q0)=true) (z1:shal 40 (.ifc t1 q1)=true) (hw:PR E gl 25 [.c (bs ae)] [] (.c (.tuple #[bs [97,97],.bool true])) [])
include H z0 z1 hw
theorem JW (f1:PR E gl 41 [.c (.int .u8 97),.ifc t1 q1] [] (Bo false) []):PR E gl 26 [.c (bs ae),.sl 1 2 [.ifc t0 q0,.ifc t1 q1]] [] (.tup [.c (.slice none 0 0),I 17]) []:=by
 have _:=z0
 refine fnZ H.hE (cfg:=c0) (fuel:=fuel) H.h26 (by kernel_rfl) ?_
 unfold t26
 refine aA ?_
 rw [show aV .i64 (((#[(97:UInt8),97].size:Nat):Int) - 1)=1 from rfl]
 repeat (first | refine ai ?_ | refine aA ?_ | refine bN rfl (by assumption) ?_ | refine cX rfl ?_ | refine cg rfl ?_)
 exact ⟨rfl,rfl⟩
theorem JX (f1:PR E gl 41 [.c (.int .u8 97),.ifc t1 q1] [] (Bo true) []) (f0:PR E gl 41 [.c (.int .u8 97),.ifc t0 q0] [] (Bo false) []):PR E gl 26 [.c (bs ae),.sl 1 2 [.ifc t0 q0,.ifc t1 q1]] [] (.tup [.c (.slice none 0 0),I 17]) []:=by
 refine fnZ H.hE (cfg:=c0) (fuel:=fuel) H.h26 (by kernel_rfl) ?_
 unfold t26
 refine aA ?_
 rw [show aV .i64 (((#[(97:UInt8),97].size:Nat):Int) - 1)=1 from rfl]
 repeat (first | refine ai ?_ | refine aA ?_ | refine bN rfl (by assumption) ?_ | refine cX rfl ?_ | refine cg rfl ?_)
 exact ⟨rfl,rfl⟩
theorem JY {L0 L1:Int} (hL:(L0 != L1)=true) (e0:PR E gl 42 [.ifc t0 q0] [] (.c (.int .u8 L0)) []) (e1:PR E gl 42 [.ifc t1 q1] [] (.c (.int .u8 L1)) []) (f1:PR E gl 41 [.c (.int .u8 97),.ifc t1 q1] [] (Bo true) []) (f0:PR E gl 41 [.c (.int .u8 97),.ifc t0 q0] [] (Bo true) []):PR E gl 26 [.c (bs ae),.sl 1 2 [.ifc t0 q0,.ifc t1 q1]] [] (.tup [.c (.slice none 0 0),I 17]) []:=by
 refine fnZ H.hE (cfg:=c0) (fuel:=fuel) H.h26 (by kernel_rfl) ?_
 unfold t26
 refine aA ?_
 rw [show aV .i64 (((#[(97:UInt8),97].size:Nat):Int) - 1)=1 from rfl]
 repeat (first | refine ai ?_ | refine aA ?_ | refine bN rfl (by assumption) ?_ | refine cX rfl ?_ | refine cg rfl ?_)
 exact ⟨rfl,rfl⟩
end
end Go.AM.PV
namespace Go.AM.PV
open Go Go.AM Go.AM.SX
attribute [local irreducible] pz aQ
variable {E:Env} {gl:List GRow} {inf:Nat->TypeInfo} {c0 c1 c2:Cfg} {fuel:Nat}
theorem uP {E:Env} {gl:List GRow} {k:N} {m:Nat} {rv:Rv} {d:Bool} {hs:List Nat} {ps:List P} {μ:Mu} {Q:aW} {a:At} {n:Nat} {l:List P} {v:Value} (h:bG ps a=.lit l) (hn:l.length=n) (h0:Nat.blt 0 n=true) (hk:pz E gl k m rv d hs (ps++[.tup [.fx 1 n l,.c v]]) μ Q):pz E gl (.op .tup [.sl a n,.at (.v v)] k) m rv d hs ps μ Q:=by
 have h1:=jR h hn (Nat.le_of_ble_eq_true h0)
 have h2:denF ps [.sl a n,.at (.v v)]=some [.fx 1 n l,.c v]:=by
  unfold denF at h1 ⊢
  cases hx:bT ps (.sl a n) with
  | none=>rw [hx] at h1;cases h1
  | some p =>
   rw [hx] at h1
   have h3:some [fz p]=some [.fx 1 n l]:=h1
   have h4:fz p=.fx 1 n l:=by simpa using h3
   show some [fz p,fz (.c v)]=_
   rw [h4]
   rfl
 refine jK (ps':=ps++[.tup [.fx 1 n l,.c v]]) (μ':=μ) ?_ hk
 unfold stz
 rw [h2]
 rfl
end Go.AM.PV
namespace Go.AM.PV
open Go Go.AM Go.AM.SX
attribute [local irreducible] pz aQ
section
variable {E:Env} {gl:List GRow} {cfg:Cfg} {fuel:Nat}
def JZ (n:Int):ByteArray:=⟨(Lib.itoa n).toArray⟩
end
end Go.AM.PV
namespace Go.AM.PV
open Go Go.AM Go.AM.SX
attribute [local irreducible] pz aQ
variable {E:Env} {gl:List GRow} {inf:Nat->TypeInfo} {c0 c1 c2:Cfg} {fuel:Nat}
structure Txs (E:Env) (gl:List GRow) (inf:Nat->TypeInfo) (c0 c1 c2:Cfg) (fuel:Nat):Prop extends Wds E gl inf c0 c1 c2 fuel where
 h6:aC E c0 fuel 6 3=some t6
 h83:aC E c0 fuel 83 1=some t83
 h84:aC E c0 fuel 84 1=some t84
 itoa:∀ n:Int,-1152921504606846976<=n->n<=1152921504606846975->PR E gl 118 [I n,I 10] [] (St (JZ n)) []
theorem J0 {E:Env} {gl:List GRow} {k:N} {m:Nat} {rv:Rv} {d:Bool} {hs:List Nat} {ps:List P} {μ:Mu} {Q:aW} {a:At} {n:Nat} {l:List P} {y:X} {q:P} (h:bG ps a=.lit l) (hn:l.length=n) (h0:Nat.blt 0 n=true) (hy:bT ps y=some q) (hk:pz E gl k m rv d hs (ps++[.tup [.fx 1 n l,fz q]]) μ Q):pz E gl (.op .tup [.sl a n,y] k) m rv d hs ps μ Q:=by
 have h1:=jR h hn (Nat.le_of_ble_eq_true h0)
 have h2:denF ps [.sl a n,y]=some [.fx 1 n l,fz q]:=by
  unfold denF at h1 ⊢
  cases hx:bT ps (.sl a n) with
  | none=>rw [hx] at h1;cases h1
  | some p =>
   rw [hx] at h1
   have h3:some [fz p]=some [.fx 1 n l]:=h1
   have h4:fz p=.fx 1 n l:=by simpa using h3
   have h5:denF ps [y]=some [fz q]:=by
    unfold denF
    rw [hy]
    rfl
   rw [h5,<- h4]
 refine jK (ps':=ps++[.tup [.fx 1 n l,fz q]]) (μ':=μ) ?_ hk
 unfold stz
 rw [h2]
 rfl
theorem jW {n:Int} (h0:-1152921504606846976<=n) (h1:n<=1152921504606846975):(Val.int n).chk vsR nmR=0:=by
 unfold Val.chk
 simp only [Val.meas,gate]
 rw [decide_eq_true (show n>=-1152921504606846976 from h0),decide_eq_true h1]
 rfl
end Go.AM.PV
namespace Go.AM.PV
open Go Go.AM Go.AM.SX
attribute [local irreducible] pz aQ
section
variable {E:Env} {gl:List GRow} {inf:Nat->TypeInfo} {c0 c1 c2 c3:Cfg} {fuel:Nat}
variable (H:Lst E gl inf c0 c1 c2 c3 fuel)
include H
theorem lJ {t:TypeId} {q:P} (e:Int) (μ:Mu):PR E gl 73 [.ifc t q,I e] μ (.tup [.fx 1 1 [.ifc t q],I e]) μ:=by
 refine fnZ H.hE (cfg:=c0) (fuel:=fuel) H.h73 (by kernel_rfl) ?_
 unfold t73
 repeat (refine aA ?_)
 refine J0 rfl rfl rfl rfl ?_
 dsimp only [go_sem]
 exact aF rfl ⟨rfl,rfl⟩
theorem J1 (e:Int) (μ:Mu):PR E gl 73 [.c .nilIface,I e] μ (.tup [.fx 1 1 [.c .nilIface],I e]) μ:=by
 refine fnZ H.hE (cfg:=c0) (fuel:=fuel) H.h73 (by kernel_rfl) ?_
 unfold t73
 repeat (refine aA ?_)
 exact aF rfl ⟨rfl,rfl⟩
theorem jX (n:Int):PR E gl 75 [.ifc af (.agg [I n])] [] (I n) []:=by
 refine fnZ H.hE (cfg:=c0) (fuel:=fuel) H.h75 (by kernel_rfl) ?_
 unfold t75
 repeat (refine aA ?_)
 exact aF rfl ⟨rfl,rfl⟩
theorem J2 {t:TypeId} {q:P} {n:Int} (h:PR E gl 78 [.ifc t q] [] (I n) []):PR E gl 45 [.c (bs ba),.sl 1 1 [.ifc t q]] [] (.tup [.fx 1 1 [.ifc af (.agg [I n])],I 0]) []:=by
 refine fnZ H.hE (cfg:=c0) (fuel:=fuel) H.h45 (by kernel_rfl) ?_
 unfold t45
 repeat (refine aA ?_)
 refine uP rfl rfl rfl ?_
 dsimp only [go_sem]
 exact aF rfl ⟨rfl,rfl⟩
theorem J3 {t tr:TypeId} {q qr:P} (h:PR E gl 81 [.ifc t q] [] (.ifc tr qr) []):PR E gl 45 [.c (bs cL),.sl 1 1 [.ifc t q]] [] (.tup [.fx 1 1 [.ifc tr qr],I 0]) []:=by
 refine fnZ H.hE (cfg:=c0) (fuel:=fuel) H.h45 (by kernel_rfl) ?_
 unfold t45
 repeat (refine aA ?_)
 refine uP rfl rfl rfl ?_
 dsimp only [go_sem]
 exact aF rfl ⟨rfl,rfl⟩
theorem uQ {t0 t1 tr:TypeId} {q0 q1 qr:P} (z0:shal 40 (.ifc t0 q0)=true) (z1:shal 40 (.ifc t1 q1)=true) (zr:shal 40 (.ifc tr qr)=true) (h:PR E gl 79 [.ifc t0 q0,.ifc t1 q1] [] (.tup [.ifc tr qr,I 0]) []):PR E gl 45 [.c (bs ae),.sl 1 2 [.ifc t0 q0,.ifc t1 q1]] [] (.tup [.fx 1 1 [.ifc tr qr],I 0]) []:=by
 have h1:=lJ (t:=tr) (q:=qr) H 0 []
 refine fnZ H.hE (cfg:=c0) (fuel:=fuel) H.h45 (by kernel_rfl) ?_
 unfold t45
 repeat (first | refine ai ?_ | refine aA ?_ | refine bN rfl (by assumption) ?_)
 exact ⟨rfl,rfl⟩
theorem J4 {a b:Int} {t tr:TypeId} {q qr:P} (z0:shal 40 (.ifc t q)=true) (zr:shal 40 (.ifc tr qr)=true) (h:PR E gl 80 [I a,I b,.ifc t q] [] (.tup [.ifc tr qr,I 0]) []):PR E gl 45 [.c (bs cM),.sl 1 3 [.ifc af (.agg [I a]),.ifc af (.agg [I b]),.ifc t q]] [] (.tup [.fx 1 1 [.ifc tr qr],I 0]) []:=by
 have h1:=lJ (t:=tr) (q:=qr) H 0 []
 have ha:=jX H a
 have hb:=jX H b
 refine fnZ H.hE (cfg:=c0) (fuel:=fuel) H.h45 (by kernel_rfl) ?_
 unfold t45
 repeat (first | refine ai ?_ | refine aA ?_ | refine bN rfl (by assumption) ?_)
 exact ⟨rfl,rfl⟩
theorem J5 {n:Int} (h0:-1152921504606846976<=n) (hn:n<=1152921504606846975) {t:TypeId} {q qr:P} (hok:okm.okL 0 [.tup [.fx 1 1 [.ifc jM qr],I 0]]=true) (h:PR E gl 80 [I n,I (n+1),.ifc t q] [] (.tup [.ifc jM qr,I 0]) []):PR E gl 45 [.c (bs a8),.sl 1 2 [.ifc af (.agg [I n]),.ifc t q]] [] (.tup [.fx 1 1 [.ifc jM qr],I 0]) []:=by
 have h1:=lJ (t:=jM) (q:=qr) H 0 [.cells [.c (.slice none 0 0)]]
 have ha:=jX H n
 have hw:aV .i64 (n+1)=n+1:=bM (by omega) (by omega)
 refine fnZ H.hE (cfg:=c0) (fuel:=fuel) H.h45 (by kernel_rfl) ?_
 unfold t45
 repeat (first | refine aA ?_ | refine bN rfl (by assumption) ?_ | (rw [hw];dsimp only [go_sem]))
 exact aG 0 rfl (Nat.zero_le _) hok rfl ⟨rfl,rfl⟩
theorem J6 {n:Int} (h0:-1152921504606846976<=n) (hn:n<=1152921504606846975) {t tr:TypeId} {q qr:P} (hok:okm.okL 0 [.tup [.fx 1 1 [.ifc tr qr],I 0]]=true) (h:PR E gl 80 [I n,I (n+1),.ifc t q] [] (.tup [.ifc jN (.agg [.sl 1 1 [.ifc tr qr]]),I 0]) []):PR E gl 45 [.c (bs a8),.sl 1 2 [.ifc af (.agg [I n]),.ifc t q]] [] (.tup [.fx 1 1 [.ifc tr qr],I 0]) []:=by
 have h1:=lJ (t:=tr) (q:=qr) H 0 [.cells [.sl 1 1 [.ifc tr qr]]]
 have ha:=jX H n
 have hw:aV .i64 (n+1)=n+1:=bM (by omega) (by omega)
 refine fnZ H.hE (cfg:=c0) (fuel:=fuel) H.h45 (by kernel_rfl) ?_
 unfold t45
 repeat (first | refine aA ?_ | refine bN rfl (by assumption) ?_ | (rw [hw];dsimp only [go_sem]))
 exact aG 0 rfl (Nat.zero_le _) hok rfl ⟨rfl,rfl⟩
theorem J7 {n:Int} (h0:-1152921504606846976<=n) (hn:n<=1152921504606846975) {t:TypeId} {q:P} (h:PR E gl 80 [I n,I (n+1),.ifc t q] [] (.tup [.c .nilIface,I 4]) []):PR E gl 45 [.c (bs a8),.sl 1 2 [.ifc af (.agg [I n]),.ifc t q]] [] (.tup [.fx 1 1 [.c .nilIface],I 4]) []:=by
 have h1:=J1 H 4 [.cells [.c (.slice none 0 0)]]
 have ha:=jX H n
 have hw:aV .i64 (n+1)=n+1:=bM (by omega) (by omega)
 refine fnZ H.hE (cfg:=c0) (fuel:=fuel) H.h45 (by kernel_rfl) ?_
 unfold t45
 repeat (first | refine aA ?_ | refine bN rfl (by assumption) ?_ | (rw [hw];dsimp only [go_sem]))
 exact aG 0 rfl (Nat.zero_le _) rfl rfl ⟨rfl,rfl⟩
end
end Go.AM.PV
namespace Go.AM.PV
open Go Go.AM Go.AM.SX
section
variable (vs nm:ByteArray->Bool)
mutual
def Val.good:Val->Bool
 | .nil=>false
 | .int n=>decide (n>=-1152921504606846976)&&decide (n<=1152921504606846975)
 | .str s=>decide ((s.size:Int)<=4096)&&vs s
 | .bool _=>true
 | .box n=>decide (n>=1)&&decide (n<=1048576)
 | .list l=>Val.goods l
 | .quot l=>Itm.goods l
def Val.goods:List Val->Bool
 | []=>true
 | v::l=>v.good&&Val.goods l
def Itm.good:Itm->Bool
 | .nil=>false
 | .push v=>v.good
 | .call s=>nm s
def Itm.goods:List Itm->Bool
 | []=>true
 | v::l=>v.good&&Itm.goods l
end
mutual
def Val.cost:Val->Int
 | .nil=>1
 | .int _=>1
 | .str _=>1
 | .bool _=>1
 | .box _=>1
 | .list l=>Val.costs l+1
 | .quot l=>Itm.costs l+1
def Val.costs:List Val->Int
 | []=>0
 | v::l=>v.cost+Val.costs l
def Itm.cost:Itm->Int
 | .nil=>1
 | .push v=>v.cost
 | .call _=>1
def Itm.costs:List Itm->Int
 | []=>0
 | v::l=>v.cost+Itm.costs l
end
mutual
def Val.dep:Val->Int
 | .nil=>0
 | .int _=>0
 | .str _=>0
 | .bool _=>0
 | .box _=>0
 | .list l=>Val.deps l+1
 | .quot l=>Itm.deps l+1
def Val.deps:List Val->Int
 | []=>0
 | v::l=>max v.dep (Val.deps l)
def Itm.dep:Itm->Int
 | .nil=>0
 | .push v=>v.dep
 | .call _=>0
def Itm.deps:List Itm->Int
 | []=>0
 | v::l=>max v.dep (Itm.deps l)
end
theorem gD:∀ l:List Val,0<=Val.deps l
 | []=>Int.le_refl _
 | v::l=>by have:=gD l;simp only [Val.deps];omega
theorem lK:∀ l:List Itm,0<=Itm.deps l
 | []=>Int.le_refl _
 | v::l=>by have:=lK l;simp only [Itm.deps];omega
theorem Val.dep_nn (v:Val):0<=v.dep:=by
 cases v <;> simp only [Val.dep] <;> first
  | exact Int.le_refl _
  | (have:=gD ‹_›;omega)
  | (have:=lK ‹_›;omega)
theorem Itm.dep_nn (v:Itm):0<=v.dep:=by
 cases v with
 | push v=>exact v.dep_nn
 | _=>exact Int.le_refl _
mutual
theorem oD:∀ v:Val,1<=v.cost
 | .nil=>Int.le_refl _
 | .int _=>Int.le_refl _
 | .str _=>Int.le_refl _
 | .bool _=>Int.le_refl _
 | .box _=>Int.le_refl _
 | .list l=>by have:=hZ l;simp only [Val.cost];omega
 | .quot l=>by have:=jY l;simp only [Val.cost];omega
theorem hZ:∀ l:List Val,(l.length:Int)<=Val.costs l
 | []=>Int.le_refl _
 | v::l=>by have:=oD v;have:=hZ l;simp only [Val.costs,List.length_cons];omega
theorem J8:∀ v:Itm,1<=v.cost
 | .nil=>Int.le_refl _
 | .push v=>oD v
 | .call _=>Int.le_refl _
theorem jY:∀ l:List Itm,(l.length:Int)<=Itm.costs l
 | []=>Int.le_refl _
 | v::l=>by have:=J8 v;have:=jY l;simp only [Itm.costs,List.length_cons];omega
end
theorem oE {left nest:Int} {r:Int->Int×Bool×Int} (h:(gate left nest r).2.1=true):1<=left/\gate left nest r=r (left - 1):=by
 unfold gate at h ⊢
 split at h
 ·cases h
 ·rename_i h1
  split at h
  ·cases h
  ·rename_i h2
   rw [if_neg h1,if_neg h2]
   exact ⟨by omega,rfl⟩
theorem oF {left nest:Int} {r:Int->Int×Bool×Int} (h:1<=left) (hn:nest<=32):gate left nest r=r (left - 1):=by
 unfold gate
 rw [if_neg (by omega),if_neg (by omega)]
theorem uR {x:Int×Bool×Int} (h:(eJ x).2.1=true):x.2.1=true/\eJ x=(x.1+1,true,x.2.2):=by
 unfold eJ at h ⊢
 split at h
 ·rename_i h1
  have h:decide (x.1 < 32)=true:=h
  rw [if_pos h1,h]
  exact ⟨h1,rfl⟩
 ·cases h
theorem jZ {left nest:Int} {b:Bool} (h:(gate left nest fun lf=>(0,b,lf)).2.1=true):b=true/\gate left nest (fun lf=>(0,b,lf))=(0,true,left - 1)/\1<=left:=by
 obtain ⟨h1,h2⟩:=oE h
 rw [h2] at h
 have h:b=true:=h
 rw [h2]
 subst h
 exact ⟨rfl,rfl,h1⟩
mutual
theorem Val.fwd:∀ (v:Val) {left nest:Int},(v.meas vs nm left nest).2.1=true->v.good vs nm=true/\v.meas vs nm left nest=(v.dep,true,left - v.cost)/\v.cost<=left
 | .nil,_,_,h=>jZ h
 | .int _,_,_,h=>jZ h
 | .str _,_,_,h=>jZ h
 | .bool _,_,_,h=>jZ h
 | .box _,_,_,h=>jZ h
 | .list l,left,nest,h=>by
  simp only [Val.meas] at h ⊢
  obtain ⟨h1,h2⟩:=oE h
  rw [h2] at h ⊢
  obtain ⟨h3,h4⟩:=uR h
  obtain ⟨h5,h6,h7⟩:=Val.fwdL l (by omega) (Int.le_refl 0) h3
  have:=gD l
  rw [h4,h6]
  simp only [Val.good,Val.dep,Val.cost]
  exact ⟨h5,by rw [Int.max_eq_right this,show left - 1 - Val.costs l=left - (Val.costs l+1) by omega],by omega⟩
 | .quot l,left,nest,h=>by
  simp only [Val.meas] at h ⊢
  obtain ⟨h1,h2⟩:=oE h
  rw [h2] at h ⊢
  obtain ⟨h3,h4⟩:=uR h
  obtain ⟨h5,h6,h7⟩:=Itm.fwdL l (by omega) (Int.le_refl 0) h3
  have:=lK l
  rw [h4,h6]
  simp only [Val.good,Val.dep,Val.cost]
  exact ⟨h5,by rw [Int.max_eq_right this,show left - 1 - Itm.costs l=left - (Itm.costs l+1) by omega],by omega⟩
theorem Val.fwdL:∀ (l:List Val) {lf nest d:Int},0<=lf->0<=d->(Val.measL vs nm l lf nest d).2.1=true->Val.goods vs nm l=true/\Val.measL vs nm l lf nest d=(max d (Val.deps l),true,lf - Val.costs l)/\Val.costs l<=lf
 | [],lf,nest,d,h0,hd,h=>⟨rfl,by show (d,true,lf)=(max d 0,true,lf - 0);rw [show max d 0=d by omega,show lf - 0=lf by omega],h0⟩
 | v::l,lf,nest,d,h0,hd0,h=>by
  simp only [Val.measL] at h ⊢
  split at h
  ·rename_i h1
   obtain ⟨h2,h3,h4⟩:=Val.fwd v h1
   rw [h3] at h ⊢
   have hd:=v.dep_nn
   obtain ⟨h5,h6,h7⟩:=Val.fwdL l (by show 0<=lf - v.cost;omega) (by show 0<=max d v.dep;omega) h
   have h7:Val.costs l<=lf - v.cost:=h7
   rw [if_pos rfl,h6]
   simp only [Val.goods,Val.deps,Val.costs]
   exact ⟨by rw [h2,h5];rfl,by rw [show max (max d v.dep) (Val.deps l)=max d (max v.dep (Val.deps l)) by omega,show lf - v.cost - Val.costs l=lf - (v.cost+Val.costs l) by omega],by omega⟩
  ·cases h
theorem Itm.fwd:∀ (v:Itm) {left nest:Int},(v.meas vs nm left nest).2.1=true->v.good vs nm=true/\v.meas vs nm left nest=(v.dep,true,left - v.cost)/\v.cost<=left
 | .nil,_,_,h=>by simp only [Itm.meas] at h;cases h
 | .push v,_,_,h=>Val.fwd v h
 | .call s,left,nest,h=>by
  simp only [Itm.meas] at h ⊢
  rw [h]
  rw [Bool.and_eq_true,decide_eq_true_iff] at h
  exact ⟨h.2,rfl,by simp only [Itm.cost];omega⟩
theorem Itm.fwdL:∀ (l:List Itm) {lf nest d:Int},0<=lf->0<=d->(Itm.measL vs nm l lf nest d).2.1=true->Itm.goods vs nm l=true/\Itm.measL vs nm l lf nest d=(max d (Itm.deps l),true,lf - Itm.costs l)/\Itm.costs l<=lf
 | [],lf,nest,d,h0,hd,h=>⟨rfl,by show (d,true,lf)=(max d 0,true,lf - 0);rw [show max d 0=d by omega,show lf - 0=lf by omega],h0⟩
 | v::l,lf,nest,d,h0,hd0,h=>by
  simp only [Itm.measL] at h ⊢
  split at h
  ·rename_i h1
   obtain ⟨h2,h3,h4⟩:=Itm.fwd v h1
   rw [h3] at h ⊢
   have hd:=v.dep_nn
   obtain ⟨h5,h6,h7⟩:=Itm.fwdL l (by show 0<=lf - v.cost;omega) (by show 0<=max d v.dep;omega) h
   have h7:Itm.costs l<=lf - v.cost:=h7
   rw [if_pos rfl,h6]
   simp only [Itm.goods,Itm.deps,Itm.costs]
   exact ⟨by rw [h2,h5];rfl,by rw [show max (max d v.dep) (Itm.deps l)=max d (max v.dep (Itm.deps l)) by omega,show lf - v.cost - Itm.costs l=lf - (v.cost+Itm.costs l) by omega],by omega⟩
  ·cases h
end
theorem lL {left nest:Int} {b:Bool} (hb:b=true) (h:1<=left) (hn:0+nest<=32):gate left nest (fun lf=>(0,b,lf))=(0,true,left - 1):=by
 rw [oF h (by omega),hb]
mutual
theorem Val.bwd:∀ (v:Val) {left nest:Int},v.good vs nm=true->v.cost<=left->v.dep+nest<=32->0<=nest->v.meas vs nm left nest=(v.dep,true,left - v.cost)
 | .nil,_,_,h,_,_,_=>by simp only [Val.good] at h;cases h
 | .int _,_,_,h,h1,h2,_=>lL h h1 h2
 | .str _,_,_,h,h1,h2,_=>lL h h1 h2
 | .bool _,_,_,h,h1,h2,_=>lL h h1 h2
 | .box _,_,_,h,h1,h2,_=>lL h h1 h2
 | .list l,left,nest,h,h1,h2,h3=>by
  simp only [Val.good] at h
  simp only [Val.cost] at h1
  simp only [Val.dep] at h2
  have k1:=gD l
  have k2:=hZ l
  simp only [Val.meas]
  rw [oF (by omega) (by omega),Val.bwdL l h (by omega) (by omega) (by omega) (Int.le_refl 0)]
  unfold eJ
  rw [if_pos rfl]
  simp only [Val.dep,Val.cost]
  rw [Int.max_eq_right k1,decide_eq_true (by omega),show left - 1 - Val.costs l=left - (Val.costs l+1) by omega]
 | .quot l,left,nest,h,h1,h2,h3=>by
  simp only [Val.good] at h
  simp only [Val.cost] at h1
  simp only [Val.dep] at h2
  have k1:=lK l
  have k2:=jY l
  simp only [Val.meas]
  rw [oF (by omega) (by omega),Itm.bwdL l h (by omega) (by omega) (by omega) (Int.le_refl 0)]
  unfold eJ
  rw [if_pos rfl]
  simp only [Val.dep,Val.cost]
  rw [Int.max_eq_right k1,decide_eq_true (by omega),show left - 1 - Itm.costs l=left - (Itm.costs l+1) by omega]
theorem Val.bwdL:∀ (l:List Val) {lf nest d:Int},Val.goods vs nm l=true->Val.costs l<=lf->Val.deps l+nest<=32->0<=nest->0<=d->Val.measL vs nm l lf nest d=(max d (Val.deps l),true,lf - Val.costs l)
 | [],lf,nest,d,_,_,_,_,hd=>by show (d,true,lf)=(max d 0,true,lf - 0);rw [show max d 0=d by omega,show lf - 0=lf by omega]
 | v::l,lf,nest,d,h,h1,h2,h3,hd=>by
  simp only [Val.goods,Bool.and_eq_true] at h
  simp only [Val.costs] at h1
  simp only [Val.deps] at h2
  have k2:=hZ l
  have k3:=v.dep_nn
  simp only [Val.measL]
  rw [Val.bwd v h.1 (by omega) (by omega) h3,if_pos rfl,Val.bwdL l h.2 (by show _<=lf - v.cost;omega) (by omega) h3 (by show 0<=max d v.dep;omega)]
  simp only [Val.deps,Val.costs]
  rw [show max (max d v.dep) (Val.deps l)=max d (max v.dep (Val.deps l)) by omega,show lf - v.cost - Val.costs l=lf - (v.cost+Val.costs l) by omega]
theorem Itm.bwd:∀ (v:Itm) {left nest:Int},v.good vs nm=true->v.cost<=left->v.dep+nest<=32->0<=nest->v.meas vs nm left nest=(v.dep,true,left - v.cost)
 | .nil,_,_,h,_,_,_=>by simp only [Itm.good] at h;cases h
 | .push v,_,_,h,h1,h2,h3=>Val.bwd v h h1 h2 h3
 | .call s,left,nest,h,h1,h2,_=>by
  simp only [Itm.good] at h
  simp only [Itm.cost] at h1
  simp only [Itm.meas,h,decide_eq_true (show left - 1>=0 by omega)]
  rfl
theorem Itm.bwdL:∀ (l:List Itm) {lf nest d:Int},Itm.goods vs nm l=true->Itm.costs l<=lf->Itm.deps l+nest<=32->0<=nest->0<=d->Itm.measL vs nm l lf nest d=(max d (Itm.deps l),true,lf - Itm.costs l)
 | [],lf,nest,d,_,_,_,_,hd=>by show (d,true,lf)=(max d 0,true,lf - 0);rw [show max d 0=d by omega,show lf - 0=lf by omega]
 | v::l,lf,nest,d,h,h1,h2,h3,hd=>by
  simp only [Itm.goods,Bool.and_eq_true] at h
  simp only [Itm.costs] at h1
  simp only [Itm.deps] at h2
  have k2:=jY l
  have k3:=v.dep_nn
  simp only [Itm.measL]
  rw [Itm.bwd v h.1 (by omega) (by omega) h3,if_pos rfl,Itm.bwdL l h.2 (by show _<=lf - v.cost;omega) (by omega) h3 (by show 0<=max d v.dep;omega)]
  simp only [Itm.deps,Itm.costs]
  rw [show max (max d v.dep) (Itm.deps l)=max d (max v.dep (Itm.deps l)) by omega,show lf - v.cost - Itm.costs l=lf - (v.cost+Itm.costs l) by omega]
end
end
theorem j0 (v:Val):v.chk vsR nmR=0<->v.good vsR nmR=true/\v.cost<=1024/\v.dep<=32:=by
 unfold Val.chk
 constructor
 ·intro h
  split at h
  ·rename_i h1
   obtain ⟨h2,h3,h4⟩:=Val.fwd vsR nmR v h1
   have h5:=(Val.bnd vsR nmR v (left:=1024) (nest:=0) (by omega)).2.2.2.2 h1
   rw [h3] at h5
   exact ⟨h2,h4,h5.2⟩
  ·cases h
 ·rintro ⟨h1,h2,h3⟩
  rw [Val.bwd vsR nmR v h1 h2 (by omega) (Int.le_refl 0)]
  rfl
section
variable {vs nm:ByteArray->Bool}
theorem J9 (l k:List Val):Val.goods vs nm (l++k)=(Val.goods vs nm l&&Val.goods vs nm k):=by
 induction l with
 | nil=>simp [Val.goods]
 | cons v l ih=>simp only [List.cons_append,Val.goods,ih,Bool.and_assoc]
theorem Ja (l k:List Val):Val.costs (l++k)=Val.costs l+Val.costs k:=by
 induction l with
 | nil=>simp [Val.costs]
 | cons v l ih=>simp only [List.cons_append,Val.costs,ih];omega
theorem Jb (l k:List Val):Val.deps (l++k)=max (Val.deps l) (Val.deps k):=by
 induction l with
 | nil=>have:=gD k;simp only [List.nil_append,Val.deps];omega
 | cons v l ih=>simp only [List.cons_append,Val.deps,ih];omega
theorem Jc (l:List Val):Val.goods vs nm l.reverse=Val.goods vs nm l:=by
 induction l with
 | nil=>rfl
 | cons v l ih=>rw [List.reverse_cons,J9,ih];simp only [Val.goods,Bool.true_and,Bool.and_true];exact Bool.and_comm _ _
theorem Jd (l:List Val):Val.costs l.reverse=Val.costs l:=by
 induction l with
 | nil=>rfl
 | cons v l ih=>rw [List.reverse_cons,Ja,ih];simp only [Val.costs];omega
theorem Je (l:List Val):Val.deps l.reverse=Val.deps l:=by
 induction l with
 | nil=>rfl
 | cons v l ih=>have:=gD l;have:=v.dep_nn;rw [List.reverse_cons,Jb,ih];simp only [Val.deps];omega
theorem uS {x:Val}:∀ {l:List Val},x∈l->Val.goods vs nm l=true->x.good vs nm=true/\x.cost<=Val.costs l/\x.dep<=Val.deps l
 | v::l,hx,h=>by
  simp only [Val.goods,Bool.and_eq_true] at h
  simp only [Val.costs,Val.deps]
  have h1:=hZ l
  have h2:=gD l
  have h3:=oD v
  rcases List.mem_cons.1 hx with rfl | hx
  ·exact ⟨h.1,by omega,by omega⟩
  ·obtain ⟨a,b,c⟩:=uS hx h.2
   exact ⟨a,by omega,by omega⟩
end
theorem Jf {l:List Val} (h:(Val.list l).chk vsR nmR=0):(Val.list l.reverse).chk vsR nmR=0:=by
 rw [j0] at h ⊢
 simp only [Val.good,Val.cost,Val.dep] at h ⊢
 rw [Jc,Jd,Je]
 exact h
theorem Jg {l:List Val} {x:Val} (h:(Val.list l).chk vsR nmR=0) (hx:x∈l):x.chk vsR nmR=0:=by
 rw [j0] at h ⊢
 simp only [Val.good,Val.cost,Val.dep] at h
 obtain ⟨a,b,c⟩:=uS hx h.1
 exact ⟨a,by omega,by omega⟩
theorem oG {l:List Val} (h:(Val.list l).chk vsR nmR=0):l.length<=1024:=by
 rw [j0] at h
 simp only [Val.cost] at h
 have:=hZ l
 omega
theorem oH {l:List Itm} (h:(Val.quot l).chk vsR nmR=0):l.length<=1024:=by
 rw [j0] at h
 simp only [Val.cost] at h
 have:=jY l
 omega
theorem lM (s:ByteArray):(Val.str s).chk vsR nmR=0<->s.size<=4096/\Lib.validD s.data.toList=true:=by
 rw [j0]
 simp only [Val.good,Val.cost,Val.dep,Bool.and_eq_true,decide_eq_true_iff,vsR]
 exact ⟨fun h=>⟨by omega,h.1.2⟩,fun h=>⟨⟨by omega,h.2⟩,by omega,by omega⟩⟩
end Go.AM.PV
namespace Go.AM.PV
open Go Go.AM Go.AM.SX
attribute [local irreducible] pz aQ
def dU:List (List UInt8×List UInt8):=[(ae,[97,97]),(ba,[97]),(cM,[110,110,101]),(cL,[101]),(a8,[110,101])]
def Val.app:Val->Val->Option Val
 | .str s,.str t=>some (.str (s++t))
 | .list l,.list k=>some (.list (l++k))
 | .quot l,.quot k=>some (.quot (l++k))
 | _,_=>none
theorem Jh (v:Val) (e:Int):okm.okL 0 [.tup [.fx 1 1 [v.p],I e]]=true:=by
 simp only [okm.okL,okm,cJ,Bool.and_self]
section
variable {E:Env} {gl:List GRow} {inf:Nat->TypeInfo} {c0 c1 c2 c3:Cfg} {fuel:Nat}
variable (H:Lst E gl inf c0 c1 c2 c3 fuel) (W:∀ w,w∈dU->PR E gl 25 [.c (bs w.1)] [] (.c (.tuple #[bs w.2,.bool true])) [])
include H W
theorem oI {v:Val} (hs:v.small 1048576) (hc:v.chk vsR nmR=0) (hA:v.isA=true) (hp:v.plen<=1048576):PR E gl 13 [.c (bs ba),.sl 1 1 (Val.ps [v])] [] (.tup [.sl 1 1 (Val.ps [.int v.plen]),I 0]) []:=by
 have hi:(Val.int v.plen).chk vsR nmR=0:=jW (by omega) (by omega)
 have f:=gC H.toDos v
 have hl:=fE H hs
 have ck:=H.check (.int v.plen) trivial
 rw [hA] at f
 rw [hi] at ck
 have hw:=W (ba,[97]) (by simp [dU])
 refine jU (nmw:=ba) (ks:=[97]) (l:=[v]) (outs:=[.int v.plen]) (L:=[.int v.plen]) H.toCln (show 1<=1048576 by decide) ⟨hs,trivial⟩
  (by simp only [List.mem_cons,List.not_mem_nil,or_false];rintro u rfl;exact hc) hw (show 1<=1 by decide) (.inr rfl) ?_ (show 1<=1048576 by decide) ⟨trivial,trivial⟩ rfl
 obtain ⟨t,q,e,z⟩:=bF hc
 show PR E gl 26 [.c (bs ba),.sl 1 1 [v.p]] [] (.tup [.fx 1 1 [(Val.int v.plen).p],I 0]) []
 rw [e] at f hl ⊢
 exact JL H.toWds z f (J2 H hl) ck hw
theorem uT {v r:Val} (hs:v.small 1048576) (hc:v.chk vsR nmR=0) (hE:v.isE=true) (rs:r.small 1048576) (rc:r.chk vsR nmR=0) (h:PR E gl 81 [v.p] [] r.p []):PR E gl 13 [.c (bs cL),.sl 1 1 (Val.ps [v])] [] (.tup [.sl 1 1 (Val.ps [r]),I 0]) []:=by
 have f:=lH H.toDos v
 have ck:=H.check r rs
 rw [hE] at f
 rw [rc] at ck
 have hw:=W (cL,[101]) (by simp [dU])
 refine jU (nmw:=cL) (ks:=[101]) (l:=[v]) (outs:=[r]) (L:=[r]) H.toCln (show 1<=1048576 by decide) ⟨hs,trivial⟩
  (by simp only [List.mem_cons,List.not_mem_nil,or_false];rintro u rfl;exact hc) hw (show 1<=1 by decide) (.inr rfl) ?_ (show 1<=1048576 by decide) ⟨rs,trivial⟩ rfl
 obtain ⟨t,q,e,z⟩:=bF hc
 obtain ⟨tr,qr,er,zr⟩:=bF rc
 show PR E gl 26 [.c (bs cL),.sl 1 1 [v.p]] [] (.tup [.fx 1 1 [r.p],I 0]) []
 rw [e] at f h ⊢
 rw [er] at h ck ⊢
 exact JO H.toWds z f (J3 H h) ck hw
theorem uU {v r:Val} {a b:Nat} (ha:a<=1048576) (hb:b<=1048576) (hs:v.small 1048576) (hc:v.chk vsR nmR=0) (hE:v.isE=true) (rs:r.small 1048576) (rc:r.chk vsR nmR=0) (h:PR E gl 80 [I a,I b,v.p] [] (.tup [r.p,I 0]) []) :
  PR E gl 13 [.c (bs cM),.sl 1 3 (Val.ps [.int a,.int b,v])] [] (.tup [.sl 1 1 (Val.ps [r]),I 0]) []:=by
 have f:=lH H.toDos v
 have ck:=H.check r rs
 rw [hE] at f
 rw [rc] at ck
 have hw:=W (cM,[110,110,101]) (by simp [dU])
 refine jU (nmw:=cM) (ks:=[110,110,101]) (l:=[.int a,.int b,v]) (outs:=[r]) (L:=[r]) H.toCln (show 3<=1048576 by decide) ⟨trivial,trivial,hs,trivial⟩
  (by simp only [List.mem_cons,List.not_mem_nil,or_false];rintro u (rfl | rfl | rfl);exact jW (by omega) (by omega);exact jW (by omega) (by omega);exact hc) hw (show 3<=3 by decide) (.inr rfl) ?_ (show 1<=1048576 by decide) ⟨rs,trivial⟩ rfl
 obtain ⟨t,q,e,z⟩:=bF hc
 obtain ⟨tr,qr,er,zr⟩:=bF rc
 show PR E gl 26 [.c (bs cM),.sl 1 3 [(Val.int a).p,(Val.int b).p,v.p]] [] (.tup [.fx 1 1 [r.p],I 0]) []
 rw [e] at f h ⊢
 rw [er] at h ck ⊢
 exact JT H.toWds rfl rfl z (lI H.toDos a) (lI H.toDos b) f (J4 H z zr h) ck hw
theorem oJ {v r:Val} {n:Int} (h0:-1152921504606846976<=n) (h1:n<=1152921504606846975) (hs:v.small 1048576) (hc:v.chk vsR nmR=0) (hE:v.isE=true) (rs:r.small 1048576) (rc:r.chk vsR nmR=0)
  (hr:PR E gl 45 [.c (bs a8),.sl 1 2 [(Val.int n).p,v.p]] [] (.tup [.fx 1 1 [r.p],I 0]) []):PR E gl 13 [.c (bs a8),.sl 1 2 (Val.ps [.int n,v])] [] (.tup [.sl 1 1 (Val.ps [r]),I 0]) []:=by
 have f:=lH H.toDos v
 have ck:=H.check r rs
 rw [hE] at f
 rw [rc] at ck
 have hw:=W (a8,[110,101]) (by simp [dU])
 refine jU (nmw:=a8) (ks:=[110,101]) (l:=[.int n,v]) (outs:=[r]) (L:=[r]) H.toCln (show 2<=1048576 by decide) ⟨trivial,hs,trivial⟩
  (by simp only [List.mem_cons,List.not_mem_nil,or_false];rintro u (rfl | rfl);exact jW h0 h1;exact hc) hw (show 2<=2 by decide) (.inr rfl) ?_ (show 1<=1048576 by decide) ⟨rs,trivial⟩ rfl
 obtain ⟨t,q,e,z⟩:=bF hc
 obtain ⟨tr,qr,er,zr⟩:=bF rc
 show PR E gl 26 [.c (bs a8),.sl 1 2 [(Val.int n).p,v.p]] [] (.tup [.fx 1 1 [r.p],I 0]) []
 rw [e] at f hr ⊢
 rw [er] at hr ck ⊢
 exact JU H.toWds rfl z (lI H.toDos n) f hr ck hw
theorem uV {v:Val} {n:Int} (h0:-1152921504606846976<=n) (h1:n<=1152921504606846975) (hs:v.small 1048576) (hc:v.chk vsR nmR=0) (hE:v.isE=true) (hn:¬ (0<=n/\n+1<=v.plen)) :
  PR E gl 13 [.c (bs a8),.sl 1 2 (Val.ps [.int n,v])] [] (.tup [.c (.slice none 0 0),I 4]) []:=by
 have f:=lH H.toDos v
 rw [hE] at f
 have hw:=W (a8,[110,101]) (by simp [dU])
 have he:=Iw (gl:=gl) H.hE H.h80 (fE H hs) (a:=n) (b:=n+1) (by omega)
 refine nu (nmw:=a8) (ks:=[110,101]) (l:=[.int n,v]) H.toCln (show 2<=1048576 by decide) ⟨trivial,hs,trivial⟩
  (by simp only [List.mem_cons,List.not_mem_nil,or_false];rintro u (rfl | rfl);exact jW h0 h1;exact hc) hw (show 2<=2 by decide) (by decide) (q:=.c (.slice none 0 0)) ?_
 obtain ⟨t,q,e,z⟩:=bF hc
 show PR E gl 26 [.c (bs a8),.sl 1 2 [(Val.int n).p,v.p]] [] (.tup [.c (.slice none 0 0),I 4]) []
 rw [e] at f he ⊢
 exact JV H.toWds rfl z (lI H.toDos n) f (J7 H h0 h1 he) hw
theorem Ji {v w r:Val} (sv:v.small 1048576) (cv:v.chk vsR nmR=0) (sw:w.small 1048576) (cw:w.chk vsR nmR=0) (hr:v.app w=some r) (rs:r.small 1048576) (rc:r.chk vsR nmR=0) (h:PR E gl 79 [v.p,w.p] [] (.tup [r.p,I 0]) []) :
  PR E gl 13 [.c (bs ae),.sl 1 2 (Val.ps [v,w])] [] (.tup [.sl 1 1 (Val.ps [r]),I 0]) []:=by
 have f0:=gC H.toDos v
 have f1:=gC H.toDos w
 have l0:=eO H.toDos v
 have l1:=eO H.toDos w
 have hA:v.isA=true/\w.isA=true/\(v.letter != w.letter)=false:=by
  cases v <;> cases w <;> first
   | (simp only [Val.app] at hr;cases hr;done)
   | exact ⟨rfl,rfl,rfl⟩
 have ck:=H.check r rs
 rw [hA.1] at f0
 rw [hA.2.1] at f1
 rw [rc] at ck
 have hw:=W (ae,[97,97]) (by simp [dU])
 refine jU (nmw:=ae) (ks:=[97,97]) (l:=[v,w]) (outs:=[r]) (L:=[r]) H.toCln (show 2<=1048576 by decide) ⟨sv,sw,trivial⟩
  (by simp only [List.mem_cons,List.not_mem_nil,or_false];rintro u (rfl | rfl);exact cv;exact cw) hw (show 2<=2 by decide) (.inr rfl) ?_ (show 1<=1048576 by decide) ⟨rs,trivial⟩ rfl
 obtain ⟨t0,q0,e0,z0⟩:=bF cv
 obtain ⟨t1,q1,e1,z1⟩:=bF cw
 obtain ⟨tr,qr,er,zr⟩:=bF rc
 show PR E gl 26 [.c (bs ae),.sl 1 2 [v.p,w.p]] [] (.tup [.fx 1 1 [r.p],I 0]) []
 rw [e0] at f0 l0 h ⊢
 rw [e1] at f1 l1 h ⊢
 rw [er] at h ck ⊢
 exact JP H.toWds z0 z1 hA.2.2 l0 l1 f0 f1 (uQ H z0 z1 zr h) ck hw
theorem Jj {v w r:Val} (sv:v.small 1048576) (cv:v.chk vsR nmR=0) (sw:w.small 1048576) (cw:w.chk vsR nmR=0) (hr:v.app w=some r) (rs:r.small 1048576) (rc:¬ r.chk vsR nmR=0) (h:PR E gl 79 [v.p,w.p] [] (.tup [r.p,I 0]) []) :
  PR E gl 13 [.c (bs ae),.sl 1 2 (Val.ps [v,w])] [] (.tup [.c (.slice none 0 0),I 11]) []:=by
 have f0:=gC H.toDos v
 have f1:=gC H.toDos w
 have l0:=eO H.toDos v
 have l1:=eO H.toDos w
 have hA:v.isA=true/\w.isA=true/\(v.letter != w.letter)=false/\∃ t q,r.p=.ifc t q/\shal 40 (.ifc t q)=true:=by
  cases v <;> cases w <;> first
   | (simp only [Val.app] at hr;cases hr;done)
   | (simp only [Val.app,Option.some.injEq] at hr;subst hr;exact ⟨rfl,rfl,rfl,_,_,rfl,rfl⟩)
 have ck:=H.check r rs
 rw [hA.1] at f0
 rw [hA.2.1] at f1
 rw [tu rc] at ck
 have hw:=W (ae,[97,97]) (by simp [dU])
 refine nu (nmw:=ae) (ks:=[97,97]) (l:=[v,w]) H.toCln (show 2<=1048576 by decide) ⟨sv,sw,trivial⟩
  (by simp only [List.mem_cons,List.not_mem_nil,or_false];rintro u (rfl | rfl);exact cv;exact cw) hw (show 2<=2 by decide) (by decide) (q:=.c (.slice none 0 0)) ?_
 obtain ⟨t0,q0,e0,z0⟩:=bF cv
 obtain ⟨t1,q1,e1,z1⟩:=bF cw
 obtain ⟨_,_,_,tr,qr,er,zr⟩:=hA
 show PR E gl 26 [.c (bs ae),.sl 1 2 [v.p,w.p]] [] (.tup [.c (.slice none 0 0),I 11]) []
 rw [e0] at f0 l0 h ⊢
 rw [e1] at f1 l1 h ⊢
 rw [er] at h ck
 exact JQ H.toWds z0 z1 (by assumption) l0 l1 f0 f1 (uQ H z0 z1 zr h) ck hw
theorem Jk {v w:Val} (sv:v.small 1048576) (cv:v.chk vsR nmR=0) (sw:w.small 1048576) (cw:w.chk vsR nmR=0) (hr:v.app w=none):PR E gl 13 [.c (bs ae),.sl 1 2 (Val.ps [v,w])] [] (.tup [.c (.slice none 0 0),I 17]) []:=by
 have f0:=gC H.toDos v
 have f1:=gC H.toDos w
 have l0:=eO H.toDos v
 have l1:=eO H.toDos w
 have hA:w.isA=false\/(w.isA=true/\v.isA=false)\/(w.isA=true/\v.isA=true/\(v.letter != w.letter)=true):=by
  cases v <;> cases w <;> first
   | (simp only [Val.app] at hr;cases hr;done)
   | exact .inl rfl
   | exact .inr (.inl ⟨rfl,rfl⟩)
   | exact .inr (.inr ⟨rfl,rfl,rfl⟩)
 have hw:=W (ae,[97,97]) (by simp [dU])
 refine nu (nmw:=ae) (ks:=[97,97]) (l:=[v,w]) H.toCln (show 2<=1048576 by decide) ⟨sv,sw,trivial⟩
  (by simp only [List.mem_cons,List.not_mem_nil,or_false];rintro u (rfl | rfl);exact cv;exact cw) hw (show 2<=2 by decide) (by decide) (q:=.c (.slice none 0 0)) ?_
 obtain ⟨t0,q0,e0,z0⟩:=bF cv
 obtain ⟨t1,q1,e1,z1⟩:=bF cw
 show PR E gl 26 [.c (bs ae),.sl 1 2 [v.p,w.p]] [] (.tup [.c (.slice none 0 0),I 17]) []
 rw [e0] at f0 l0 ⊢
 rw [e1] at f1 l1 ⊢
 rcases hA with hA | ⟨h1,h2⟩ | ⟨h1,h2,h3⟩
 ·rw [hA] at f1
  exact JW H.toWds z0 z1 hw f1
 ·rw [h1] at f1
  rw [h2] at f0
  exact JX H.toWds z0 z1 hw f1 f0
 ·rw [h1] at f1
  rw [h2] at f0
  exact JY H.toWds z0 z1 hw h3 l0 l1 f1 f0
end
end Go.AM.PV
namespace Go.AM.PV
open Go Go.AM Go.AM.SX
theorem uW (s t:ByteArray):(s++t).data.toList=s.data.toList++t.data.toList:=by
 rw [ByteArray.data_append,Array.toList_append]
theorem Jl {s t:ByteArray} (hs:Lib.validD s.data.toList=true) (ht:Lib.validD t.data.toList=true):chB (s++t)=chB s++chB t:=by
 rw [gB,gB,gB,uW,HT hs ht]
theorem oK (s:ByteArray):(⟨(chB s).flatten.toArray⟩:ByteArray)=s:=by
 rw [lG]
theorem Jm {xs:List (List UInt8)} (h:∀ x,x∈xs->Full x):chB ⟨xs.flatten.toArray⟩=xs:=by
 rw [gB]
 exact nf h
structure LstOut (E:Env) (gl:List GRow) (v w r:Val):Prop where
 len:r.plen=v.plen+w.plen
 le:r.plen<=1048576
 e:v.isE=true/\w.isE=true/\r.isE=true
 front:PR E gl 80 [I (0:Nat),I v.plen,r.p] [] (.tup [v.p,I 0]) []
 back:PR E gl 80 [I v.plen,I r.plen,r.p] [] (.tup [w.p,I 0]) []
 rev:∃ u:Val,u.small 1048576/\u.chk vsR nmR=0/\u.isE=true/\PR E gl 81 [r.p] [] u.p []/\PR E gl 81 [u.p] [] r.p []
 nth:∀ n:Nat,n < r.plen->∃ x:Val,x.small 1048576/\x.chk vsR nmR=0/\PR E gl 45 [.c (bs a8),.sl 1 2 [(Val.int n).p,r.p]] [] (.tup [.fx 1 1 [x.p],I 0]) [] /\
  (n < v.plen->PR E gl 45 [.c (bs a8),.sl 1 2 [(Val.int n).p,v.p]] [] (.tup [.fx 1 1 [x.p],I 0]) []) /\
  (v.plen<=n->PR E gl 45 [.c (bs a8),.sl 1 2 [(Val.int (n - v.plen:Nat)).p,w.p]] [] (.tup [.fx 1 1 [x.p],I 0]) [])
section
variable {E:Env} {gl:List GRow} {inf:Nat->TypeInfo} {c0 c1 c2 c3:Cfg} {fuel:Nat}
variable (H:Lst E gl inf c0 c1 c2 c3 fuel)
include H
theorem oL {s:ByteArray} (hs:s.size<=1048576) {n:Nat} {c:List UInt8} (hc:(chB s)[n]? = some c):PR E gl 45 [.c (bs a8),.sl 1 2 [(Val.int n).p,(Val.str s).p]] [] (.tup [.fx 1 1 [(Val.str ⟨c.toArray⟩).p],I 0]) []:=by
 have hlt:n < (chB s).length:=(List.getElem?_eq_some_iff.1 hc).1
 have hle:=hU s
 have h:=oC H hs (a:=n) (b:=n+1) (by omega) (by omega)
 have hcut:((chB s).drop n).take (n+1 - n)=[c]:=by
  rw [show n+1 - n=1 by omega,List.take_one,List.head?_drop,hc]
  rfl
 rw [hcut,show [c].flatten=c by simp] at h
 exact J5 H (by omega) (by omega) rfl h
theorem oM {l:List Val} (hl:PR E gl 78 [(Val.list l).p] [] (I (Val.list l).plen) []) (hle:l.length<=1048576) {n:Nat} {x:Val} (hx:l[n]? = some x) (xc:x.chk vsR nmR=0):PR E gl 45 [.c (bs a8),.sl 1 2 [(Val.int n).p,(Val.list l).p]] [] (.tup [.fx 1 1 [x.p],I 0]) []:=by
 have hlt:n < l.length:=(List.getElem?_eq_some_iff.1 hx).1
 have h:=oB (gl:=gl) H.hE H.h80 hl (a:=n) (b:=n+1) (by omega) (by omega)
 have hcut:(l.drop n).take (n+1 - n)=[x]:=by
  rw [show n+1 - n=1 by omega,List.take_one,List.head?_drop,hx]
  rfl
 rw [hcut] at h
 obtain ⟨t,q,e,z⟩:=bF xc
 simp only [Val.p,Val.ps,List.length_cons,List.length_nil] at h
 have ho:=Jh x 0
 rw [e] at h ho ⊢
 exact J6 H (by omega) (by omega) ho h
theorem Jn {s t:ByteArray} (cs:(Val.str s).chk vsR nmR=0) (ct:(Val.str t).chk vsR nmR=0) (cr:(Val.str (s++t)).chk vsR nmR=0):LstOut E gl (.str s) (.str t) (.str (s++t)):=by
 rw [lM] at cs ct cr
 have happ:=Jl cs.2 ct.2
 have hl1:=hU s
 have hl2:=hU t
 have hl3:=hU (s++t)
 have hp:∀ u:ByteArray,(Val.str u).plen=(chB u).length:=fun _=>rfl
 have hfull:∀ x,x∈chB (s++t)->Full x:=fun x hx=>n9 cr.2 x (by rw [<- gB];exact hx)
 have hfl:(chB (s++t)).flatten.length=(s++t).size:=by rw [lG,Lib.size_eq]
 have hfr:∀ x,x∈(chB (s++t)).reverse->Full x:=fun x hx=>hfull x (List.mem_reverse.1 hx)
 have hrs:(⟨(chB (s++t)).reverse.flatten.toArray⟩:ByteArray).size=(s++t).size:=by
  show (chB (s++t)).reverse.flatten.length=_
  rw [ni,hfl]
 refine { len:=by rw [hp,hp,hp,happ,List.length_append],le:=by rw [hp];omega,e:=⟨rfl,rfl,rfl⟩,front:=?_,back:=?_,rev:=?_,nth:=?_ }
 ·rw [hp]
  have h:=oC H (s:=s++t) (by omega) (a:=0) (b:=(chB s).length) (Nat.zero_le _) (by rw [happ,List.length_append];omega)
  rw [happ,List.drop_zero,Nat.sub_zero,List.take_left' rfl,oK] at h
  exact h
 ·rw [hp,hp]
  have h:=oC H (s:=s++t) (by omega) (a:=(chB s).length) (b:=(chB (s++t)).length) (by rw [happ,List.length_append];omega) (Nat.le_refl _)
  have hcut:((chB (s++t)).drop (chB s).length).take ((chB (s++t)).length - (chB s).length)=chB t:=by
   rw [happ,List.drop_left' rfl,List.length_append]
   exact List.take_of_length_le (by omega)
  rw [hcut,oK] at h
  exact h
 ·refine ⟨.str ⟨(chB (s++t)).reverse.flatten.toArray⟩,?_,?_,rfl,uJ H (by omega),?_⟩
  ·simp only [Val.small];omega
  ·rw [lM]
   exact ⟨by omega,tP hfr⟩
  ·have h:=uJ H (s:=⟨(chB (s++t)).reverse.flatten.toArray⟩) (by omega)
   rw [Jm hfr,List.reverse_reverse,oK] at h
   exact h
 ·intro n hn
  rw [hp] at hn
  obtain ⟨c,hc⟩:∃ c,(chB (s++t))[n]? = some c:=⟨_,List.getElem?_eq_getElem hn⟩
  have hm:=List.mem_of_getElem? hc
  have hcl:=tQ hm
  have hcs:(⟨c.toArray⟩:ByteArray).size=c.length:=rfl
  refine ⟨.str ⟨c.toArray⟩,?_,?_,oL H (by omega) hc,fun h=>?_,fun h=>?_⟩
  ·simp only [Val.small];omega
  ·rw [lM]
   exact ⟨by omega,(HU (hfull c hm)).2⟩
  ·rw [hp] at h
   refine oL H (by omega) ?_
   rw [happ,List.getElem?_append_left h] at hc
   exact hc
  ·rw [hp] at h ⊢
   refine oL H (by omega) ?_
   rw [happ,List.getElem?_append_right h] at hc
   exact hc
theorem Jo {l k:List Val} (cr:(Val.list (l++k)).chk vsR nmR=0) (sl:(Val.list l).small 1048576) (sk:(Val.list k).small 1048576):LstOut E gl (.list l) (.list k) (.list (l++k)):=by
 have hlen:=oG cr
 have happ:(l++k).length=l.length+k.length:=List.length_append
 have sl2:=sl
 have sk2:=sk
 simp only [Val.small] at sl2 sk2
 have sr:(Val.list (l++k)).small 1048576:=by
  simp only [Val.small]
  exact ⟨by omega,lF sl2.2 sk2.2⟩
 have sr2:=sr
 simp only [Val.small] at sr2
 have hrl:(l++k).reverse.length=(l++k).length:=List.length_reverse
 have hal:∀ v,v∈l++k->v.chk vsR nmR=0:=fun v hv=>Jg cr hv
 refine { len:=happ,le:=by show (l++k).length<=_;omega,e:=⟨rfl,rfl,rfl⟩,front:=?_,back:=?_,rev:=?_,nth:=?_ }
 ·have h:=oB (gl:=gl) H.hE H.h80 (fE H sr) (a:=0) (b:=l.length) (Nat.zero_le _) (by omega)
  rw [List.drop_zero,Nat.sub_zero,List.take_left' rfl] at h
  exact h
 ·have h:=oB (gl:=gl) H.hE H.h80 (fE H sr) (a:=l.length) (b:=(l++k).length) (by omega) (Nat.le_refl _)
  have hcut:((l++k).drop l.length).take ((l++k).length - l.length)=k:=by
   rw [List.drop_left' rfl]
   exact List.take_of_length_le (by omega)
  rw [hcut] at h
  exact h
 ·refine ⟨.list (l++k).reverse,?_,Jf cr,rfl,uK H (by omega) hal,?_⟩
  ·simp only [Val.small]
   exact ⟨by omega,smalls_of fun v hv=>hO sr2.2 v (List.mem_reverse.1 hv)⟩
  ·have h:=uK H (l:=(l++k).reverse) (by omega) fun v hv=>hal v (List.mem_reverse.1 hv)
   rw [List.reverse_reverse] at h
   exact h
 ·intro n hn
  have hn:n < (l++k).length:=hn
  obtain ⟨x,hx⟩:∃ x,(l++k)[n]? = some x:=⟨_,List.getElem?_eq_getElem hn⟩
  have hm:=List.mem_of_getElem? hx
  have xc:=hal x hm
  refine ⟨x,hO sr2.2 x hm,xc,oM H (fE H sr) (by omega) hx xc,fun h=>?_,fun h=>?_⟩
  ·have h:n < l.length:=h
   refine oM H (fE H sl) (by omega) ?_ xc
   rw [List.getElem?_append_left h] at hx
   exact hx
  ·have h:l.length<=n:=h
   refine oM H (fE H sk) (by omega) ?_ xc
   rw [List.getElem?_append_right h] at hx
   exact hx
end
end Go.AM.PV
namespace Go.AM.PV
open Go Go.AM Go.AM.SX
attribute [local irreducible] pz aQ
variable {E:Env} {gl:List GRow} {inf:Nat->TypeInfo} {c0 c1 c2:Cfg} {fuel:Nat}
theorem oN {ps:List P} {a:At} {n sz:Nat} {l:List P} (h:bG ps a=.lit l) (hn:l.length=n * sz) (h0:0 < n):bT ps (.sl a n)=some (.fx sz n l):=by
 show (match bG ps a with
  | .lit l=>if l.length=n * (if n=0 then 1 else l.length / n) then some (P.fx (if n=0 then 1 else l.length / n) n l) else none
  | _=>none)=_
 rw [h]
 dsimp only
 have hd:(if n=0 then 1 else l.length / n)=sz:=by rw [if_neg (by omega),hn,Nat.mul_div_cancel_left _ h0]
 rw [hd,if_pos hn]
theorem dt {ps:List P} {a b:At} {n m sz tz:Nat} {l k:List P} (h:bG ps a=.lit l) (hn:l.length=n * sz) (h0:0 < n) (h':bG ps b=.lit k) (hm:k.length=m * tz) (h1:0 < m):denF ps [.sl a n,.sl b m]=some [.fx sz n l,.fx tz m k]:=by
 unfold denF
 rw [oN h hn h0]
 unfold denF
 rw [oN h' hm h1]
 rfl
section
variable (H:Txs E gl inf c0 c1 c2 fuel)
include H
end
end Go.AM.PV
