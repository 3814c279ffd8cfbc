/- The law PrimStacks returns true, and what was there stays, wherever its arguments and the listed variables are of bulk at most 1048576. No condition beyond the statement's own. -/
import Derived.Test.YtilbjefgojocaaaGreatDoorProg
import Derived.Ground.NamesProg
import Derived.WalkKit
import Derived.WalkMore
import Derived.Below
import Derived.Shelf.Unicode.ValidAny
import Derived.Shelf.Unicode.DecodeAny
import Derived.Test.YtilbjefgojocaaaGreatDoorPvAuto
import Derived.Test.YtilbjefgojocaaaGreatDoorPvRead
import Derived.Test.YtilbjefgojocaaaGreatDoorPbBad
import Derived.Test.YtilbjefgojocaaaGreatDoorPbTree7
import Derived.Test.YtilbjefgojocaaaGreatDoorRows
import Derived.ProofKit
import Derived.Test.YtilbjefgojocaaaGreatDoorTie
import Derived.Test.YtilbjefgojocaaaGreatDoorCards
import Derived.OpenShut
import Derived.LaidMore
import Derived.Lay
import Derived.SevenTiedAt
import Derived.Stop.Joined
import Derived.Deep.DeepHandedRow
import Derived.JoinedCond
namespace Go.Proofs
open Go.Shelf
def Tryz.laysValid_ren : Go.Shelf.Ren := ⟨fun | 196 => 64 | 259 => 101 | n => n, fun | 9 => 9 | 4 => 4 | 3 => 3 | 5 => 5 | 12 => 12 | 119 => 154 | 0 => 0 | 46 => 107 | 139 => 160 | 138 => 159 | 53 => 165 | n => n, fun | 3 => 1 | 4 => 2 | n => n⟩
theorem Tryz.laysValid : Go.Proofs.Lays.n196 Tryz.prog Tryz.laysValid_ren := {
 mixed := by kernel_rfl
 f196 := Tryz.func64.trans (congrArg some (by kernel_rfl))
 f259 := Tryz.func101.trans (congrArg some (by kernel_rfl))
 t0 := Tryz.underlying0
 a0 := Tryz.isAgg0
 z0 := Tryz.sizeOf0
 v0 := Tryz.zeroValue0
 t3 := Tryz.underlying3
 a3 := Tryz.isAgg3
 z3 := Tryz.sizeOf3
 v3 := Tryz.zeroValue3
 t4 := Tryz.underlying4
 a4 := Tryz.isAgg4
 z4 := Tryz.sizeOf4
 v4 := Tryz.zeroValue4
 t5 := Tryz.underlying5
 a5 := Tryz.isAgg5
 z5 := Tryz.sizeOf5
 v5 := Tryz.zeroValue5
 t9 := Tryz.underlying9
 a9 := Tryz.isAgg9
 z9 := Tryz.sizeOf9
 v9 := Tryz.zeroValue9
 t12 := Tryz.underlying12
 a12 := Tryz.isAgg12
 z12 := Tryz.sizeOf12
 v12 := Tryz.zeroValue12
 t46 := Tryz.underlying107
 a46 := Tryz.isAgg107
 z46 := Tryz.sizeOf107
 v46 := Tryz.zeroValue107
 t53 := Tryz.underlying165
 a53 := Tryz.isAgg165
 z53 := Tryz.sizeOf165
 v53 := Tryz.zeroValue165
 t119 := Tryz.underlying154
 a119 := Tryz.isAgg154
 z119 := Tryz.sizeOf154
 t138 := Tryz.underlying159
 a138 := Tryz.isAgg159
 z138 := Tryz.sizeOf159
 v138 := Tryz.zeroValue159
 t139 := Tryz.underlying160
 a139 := Tryz.isAgg160
 z139 := Tryz.sizeOf160
 v139 := Tryz.zeroValue160
 g3 := by kernel_rfl
 g4 := by kernel_rfl }
def Tryz.laysDecode_ren : Go.Shelf.Ren := ⟨fun | 197 => 145 | 260 => 165 | n => n, fun | 9 => 9 | 21 => 21 | 3 => 3 | 4 => 4 | 5 => 5 | 105 => 208 | 119 => 154 | 0 => 0 | 46 => 107 | 139 => 160 | 138 => 159 | n => n, fun | 3 => 1 | 4 => 2 | n => n⟩
theorem Tryz.laysDecode : Go.Proofs.Lays.n197 Tryz.prog Tryz.laysDecode_ren := {
 mixed := by kernel_rfl
 f197 := Tryz.func145.trans (congrArg some (by kernel_rfl))
 f260 := Tryz.func165.trans (congrArg some (by kernel_rfl))
 t0 := Tryz.underlying0
 a0 := Tryz.isAgg0
 z0 := Tryz.sizeOf0
 v0 := Tryz.zeroValue0
 t3 := Tryz.underlying3
 a3 := Tryz.isAgg3
 z3 := Tryz.sizeOf3
 v3 := Tryz.zeroValue3
 t4 := Tryz.underlying4
 a4 := Tryz.isAgg4
 z4 := Tryz.sizeOf4
 v4 := Tryz.zeroValue4
 t5 := Tryz.underlying5
 a5 := Tryz.isAgg5
 z5 := Tryz.sizeOf5
 v5 := Tryz.zeroValue5
 t9 := Tryz.underlying9
 a9 := Tryz.isAgg9
 z9 := Tryz.sizeOf9
 v9 := Tryz.zeroValue9
 t21 := Tryz.underlying21
 a21 := Tryz.isAgg21
 z21 := Tryz.sizeOf21
 v21 := Tryz.zeroValue21
 t46 := Tryz.underlying107
 a46 := Tryz.isAgg107
 z46 := Tryz.sizeOf107
 v46 := Tryz.zeroValue107
 t105 := Tryz.underlying208
 a105 := Tryz.isAgg208
 z105 := Tryz.sizeOf208
 v105 := Tryz.zeroValue208
 t119 := Tryz.underlying154
 a119 := Tryz.isAgg154
 z119 := Tryz.sizeOf154
 t138 := Tryz.underlying159
 a138 := Tryz.isAgg159
 z138 := Tryz.sizeOf159
 v138 := Tryz.zeroValue159
 t139 := Tryz.underlying160
 a139 := Tryz.isAgg160
 z139 := Tryz.sizeOf160
 v139 := Tryz.zeroValue160
 g3 := by kernel_rfl
 g4 := by kernel_rfl }
end Go.Proofs
namespace Go.AM.PV
open Go Go.AM Go.AM.SX Go.Proofs
def firstCells : List Value := (List.range 256).map fun c => .int .u8 (Lib.firstT c)
def jC : List Value := ((List.range 16).map fun i => [Value.int .u8 (Lib.accLo i), Value.int .u8 (Lib.accHi i)]).flatten
def dz : GRow := { g := 1, cells := firstCells, elem := 0 }
def eA : GRow := { g := 2, cells := jC, elem := 0 }
def e9 (s : ByteArray) : Known := { f := 64, args := [.string s], looks := [dz, eA], v := .bool (Lib.validD s.data.toList), cnt := 0, objs := [] }
theorem rV (c : Nat) (h : c < 256) : firstCells[c]? = some (.int .u8 (Lib.firstT c)) := by
 unfold firstCells
 rw [List.getElem?_map, List.getElem?_range h]
 rfl
theorem rW : ∀ i, i < 16 -> jC[2 * i]? = some (.int .u8 (Lib.accLo i)) /\ jC[2 * i + 1]? = some (.int .u8 (Lib.accHi i))
 | 0, _ => ⟨rfl, rfl⟩
 | 1, _ => ⟨rfl, rfl⟩
 | 2, _ => ⟨rfl, rfl⟩
 | 3, _ => ⟨rfl, rfl⟩
 | 4, _ => ⟨rfl, rfl⟩
 | 5, _ => ⟨rfl, rfl⟩
 | 6, _ => ⟨rfl, rfl⟩
 | 7, _ => ⟨rfl, rfl⟩
 | 8, _ => ⟨rfl, rfl⟩
 | 9, _ => ⟨rfl, rfl⟩
 | 10, _ => ⟨rfl, rfl⟩
 | 11, _ => ⟨rfl, rfl⟩
 | 12, _ => ⟨rfl, rfl⟩
 | 13, _ => ⟨rfl, rfl⟩
 | 14, _ => ⟨rfl, rfl⟩
 | 15, _ => ⟨rfl, rfl⟩
 | n + 16, h => absurd h (by omega)
theorem EG (nm : Nm) (s : ByteArray) (hs : s.size <= 9223372036854775807) : KnownOk Tryz.prog nm (e9 s) where
 calls := by
  intro w hw
  obtain ⟨t1, z1, h1⟩ := hw dz (by simp [e9])
  obtain ⟨t2, z2, h2⟩ := hw eA (by simp [e9])
  have hT : Lib.Utf8Tabs (Tryz.laysValid_ren.g 3) (Tryz.laysValid_ren.g 4) w := by
   show Lib.Utf8Tabs 1 2 w
   refine ⟨fun c hc => ?_, fun i hi => ?_⟩
   ·show w.cell? ⟨1, c, none⟩ = _
    have h1 : w.heap[1]? = some (.cells firstCells.toArray t1 z1) := h1
    simp only [World.cell?, h1, List.getElem?_toArray]
    exact rV c hc
   ·have h2 : w.heap[2]? = some (.cells jC.toArray t2 z2) := h2
    simp only [World.cell?, h2, List.getElem?_toArray]
    exact rW i hi
  have hc : Calls Tryz.prog 64 #[.string s] w _ := Any.utf8_ValidString Tryz.laysValid s w hs hT
  refine hc.mono ?_
  rintro e w' ⟨he, hb⟩
  refine ⟨fun _ => none, .bool (Lib.validD s.data.toList), fun _ _ h => (by cases h), fun _ _ => rfl, fun _ h => (by cases h), fun _ _ _ _ h => (by cases h), hb.block, hb.size, ⟨hb.tape, hb.os, hb.output⟩, .bool _, he⟩
 shal := rfl
 shalR := rfl
 plain := rfl
def gq (s : ByteArray) : Known := { f := 145, args := [.string s], looks := [dz, eA], v := .tuple #[.int .i32 (Lib.decodeGo s).1, .int .i64 (Lib.decodeGo s).2], cnt := 0, objs := [] }
theorem EH {w : World} {t1 t2 : TypeId} {z1 z2 : Nat × Nat} (h1 : w.heap[1]? = some (.cells firstCells.toArray t1 z1)) (h2 : w.heap[2]? = some (.cells jC.toArray t2 z2)) : Lib.Utf8Tabs 1 2 w := by
 refine ⟨fun c hc => ?_, fun i hi => ?_⟩
 ·simp only [World.cell?, h1, List.getElem?_toArray]
  exact rV c hc
 ·simp only [World.cell?, h2, List.getElem?_toArray]
  exact rW i hi
theorem EI (nm : Nm) (s : ByteArray) : KnownOk Tryz.prog nm (gq s) where
 calls := by
  intro w hw
  obtain ⟨t1, z1, h1⟩ := hw dz (by simp [gq])
  obtain ⟨t2, z2, h2⟩ := hw eA (by simp [gq])
  have hT : Lib.Utf8Tabs (Tryz.laysDecode_ren.g 3) (Tryz.laysDecode_ren.g 4) w := EH h1 h2
  have hc : Calls Tryz.prog 145 #[.string s] w _ := Any.utf8_DecodeRuneInString Tryz.laysDecode s w hT
  refine hc.mono ?_
  rintro e w' ⟨he, hb⟩
  refine ⟨fun _ => none, .tuple #[.int .i32 (Lib.decodeGo s).1, .int .i64 (Lib.decodeGo s).2], fun _ _ h => (by cases h), fun _ _ => rfl, fun _ h => (by cases h), fun _ _ _ _ h => (by cases h), hb.block, hb.size, ⟨hb.tape, hb.os, hb.output⟩, ?_, he⟩
  exact .tuple' (.of rfl fun i hi => by
   match i, hi with
   | 0, _ => exact .int _ _
   | 1, _ => exact .int _ _)
 shal := rfl
 shalR := rfl
 plain := rfl
def xtU (f : FuncId) (vs : List Value) : Option Known := match f, vs with
 | 64, [.string s] => if s.size <= 9223372036854775807 then some (e9 s) else none
 | 145, [.string s] => some (gq s)
 | _, _ => none
theorem EJ (nm : Nm) : ∀ f vs k, xtU f vs = some k -> KnownOk Tryz.prog nm k /\ k.f = f /\ k.args = vs := by
 intro f vs k h
 unfold xtU at h
 split at h
 ·split at h
  ·rename_i hs
   cases h
   exact ⟨EG nm _ hs, rfl, rfl⟩
  ·cases h
 ·cases h
  exact ⟨EI nm _, rfl, rfl⟩
 ·cases h
theorem EL {E : Env} {gl : List GRow} {s : ByteArray} (hs : s.size <= 9223372036854775807) (hk : cS 64 [.string s] E.known = none) (hx : E.xf.any (Nat.beq 64) = true) (hxt : E.xt = xtU)
  (h1 : dz ∈ gl) (h2 : eA ∈ gl) (hn : 2 < E.ng) (μ : Mu) : PR E gl 64 [.c (.string s)] μ (.c (.bool (Lib.validD s.data.toList))) μ := by
 have hh : xtU 64 [.string s] = some (e9 s) := by
  show (if s.size <= 9223372036854775807 then some (e9 s) else none) = _
  rw [if_pos hs]
 refine PR.known (k := e9 s) (tS hk hx (by rw [hxt]; exact hh)) ?_ rfl μ
 intro r hr
 simp only [e9, List.mem_cons, List.not_mem_nil, or_false] at hr
 rcases hr with rfl | rfl
 ·exact ⟨h1, by show 1 < E.ng; omega⟩
 ·exact ⟨h2, hn⟩
theorem EM {E : Env} {gl : List GRow} {s : ByteArray} (hk : cS 145 [.string s] E.known = none) (hx : E.xf.any (Nat.beq 145) = true) (hxt : E.xt = xtU)
  (h1 : dz ∈ gl) (h2 : eA ∈ gl) (hn : 2 < E.ng) (μ : Mu) : PR E gl 145 [.c (.string s)] μ (.c (.tuple #[.int .i32 (Lib.decodeGo s).1, .int .i64 (Lib.decodeGo s).2])) μ := by
 refine PR.known (k := gq s) (tS hk hx (by rw [hxt]; rfl)) ?_ rfl μ
 intro r hr
 simp only [gq, List.mem_cons, List.not_mem_nil, or_false] at hr
 rcases hr with rfl | rfl
 ·exact ⟨h1, by show 1 < E.ng; omega⟩
 ·exact ⟨h2, hn⟩
end Go.AM.PV
namespace Go.AM.PV
open Go Go.AM Go.AM.SX
attribute [local irreducible] pz
section
variable {E : Env} {gl : List GRow} {cfg : Cfg} {fuel : Nat}
theorem EN (hE : SxEnv E) (h124 : aC E cfg fuel 124 1 = some t124) (h146 : aC E cfg fuel 146 1 = some t146) (h67 : aC E cfg fuel 67 2 = some t67) (h105 : aC E cfg fuel 105 2 = some t105) {s : ByteArray} (hlen : s.size <= 1048576)
  (h145 : PR E gl 145 [.c (.string s)] [] (.c (.tuple #[.int .i32 (Lib.decodeGo s).1, .int .i64 (Lib.decodeGo s).2])) []) :
  PR E gl 124 [St s] [] (.tup [.any, Bo (cJ (chrs s s.size 0)), .any]) [] := by
 have hp1 := s8 (gl := gl) hE h67 h105 s ⟨[45].toArray⟩
 have hp2 := s8 (gl := gl) hE h67 h105 s ⟨[226, 136, 146].toArray⟩
 cases h1 : cZ s ⟨[45].toArray⟩ with
 | true =>
  rw [h1] at hp1
  obtain ⟨e1, e2, e3⟩ := Ka h1
  rw [e1] at h145
  rw [<- e3]
  exact K5 hE h124 h146 hlen hp1 (r0 := (45 : Nat)) (k := 1) e2 h145
 | false =>
  rw [h1] at hp1
  cases h2 : cZ s ⟨[226, 136, 146].toArray⟩ with
  | true =>
   rw [h2] at hp2
   obtain ⟨e1, e2, e3⟩ := Kb h2
   rw [e1] at h145
   rw [<- e3]
   exact K6 hE h124 h146 hlen hp1 hp2 (r0 := (8722 : Nat)) (k := 3) e2 h145
  | false =>
   rw [h2] at hp2
   rw [<- Ke h1 h2]
   exact K4 hE h124 h146 hlen hp1 hp2
theorem EO {l : List Chr} {c : Chr} (h : l[0]? = some c) (h1 : ¬ c.1 = 45) (h2 : ¬ c.1 = 8722) : cJ l = (!(script c.1 == 0) && l.all fun x => script x.1 == script c.1) := by
 cases l with
 | nil => cases h
 | cons d t =>
  cases h
  have e1 : (c.1 == 45 || c.1 == 8722) = false := by
   rw [beq_eq_false_iff_ne.2 h1, beq_eq_false_iff_ne.2 h2]; rfl
  simp only [cJ, e1]
  rfl
theorem rX {l : List Chr} {c : Chr} (h : l[0]? = some c) (h1 : c.1 = 45 \/ c.1 = 8722) : cJ l = er (l.drop 1) := by
 cases l with
 | nil => cases h
 | cons d t =>
  cases h
  have e1 : (c.1 == 45 || c.1 == 8722) = true := by
   rcases h1 with h1 | h1 <;> rw [h1] <;> rfl
  simp only [cJ, e1]
  rfl
theorem rY {l : List Chr} {c : Chr} (h : l[0]? = some c) : er l = (!(script c.1 == 0) && l.all fun x => script x.1 == script c.1) := by
 cases l with
 | nil => cases h
 | cons d t => cases h; rfl
theorem rZ (l : List Chr) : P.sl 4 (l.length - 1) (((Chr.ps l).drop (1 * 4)).take ((l.length - 1) * 4)) = .sl 4 (l.drop 1).length (Chr.ps (l.drop 1)) := by
 cases l with
 | nil => rfl
 | cons c t =>
  have h : ∀ t : List Chr, (Chr.ps t).length = t.length * 4 := by
   intro t
   induction t with
   | nil => rfl
   | cons c t ih => simp only [Chr.ps, Chr.p, List.length_append, List.length_cons, List.length_nil, ih]; omega
  have e : (Chr.ps (c :: t)).drop (1 * 4) = Chr.ps t := rfl
  rw [e, List.take_of_length_le (by rw [h]; simp)]
  rfl
theorem EP (hE : SxEnv E) (h128 : aC E cfg fuel 128 1 = some t128) (h148 : aC E cfg fuel 148 1 = some t148) (l : List Chr) (hlen : l.length <= 1048576) :
  PR E gl 128 [.sl 4 l.length (Chr.ps l)] [] (.tup [.any, .any, Bo (cJ l)]) [] := by
 refine fnZ hE (cfg := cfg) (fuel := fuel) h128 (by kernel_rfl) ?_
 unfold t128
 have hsc := I2 (gl := gl) hE h148
 by_cases hpos : 0 < l.length
 ·obtain ⟨cc, hcc⟩ : ∃ c, l[0]? = some c := ⟨l[0], List.getElem?_eq_getElem hpos⟩
  have kk := (Chr.ps_k hcc).1
  refine aA ?_
  refine bF rfl (fun h1 => ?_) (fun h1 => ?_)
  ·have hres := rX hcc (.inl h1)
   refine mW (i := 1) rfl (by omega) ?_
   rw [rZ]
   rw [hres]
   have hlen2 : (l.drop 1).length <= 1048576 := by rw [List.length_drop]; omega
   generalize l.drop 1 = u at hlen2 ⊢
   dsimp only [go_sem]
   by_cases hpos : 0 < u.length
   ·obtain ⟨c0, hc0⟩ : ∃ c, u[0]? = some c := ⟨u[0], List.getElem?_eq_getElem hpos⟩
    have hres := rY hc0
    have k0 := (Chr.ps_k hc0).1
    refine aA ?_
    refine bF rfl (fun h => ?_) (fun hz => ?_)
    ·rw [h] at hres
     refine aA ?_
     refine a7 0 rfl (LeL.one (.tup _ _ (.cons _ _ _ _ (.any _ rfl) (.cons _ _ _ _ (.any _ rfl) (.cons _ _ _ _ (.refl _) .nil))))) (Nat.zero_le _) rfl rfl (And.intro ?_ rfl)
     rw [hres]; rfl
    rw [beq_eq_false_iff_ne.2 hz, Bool.not_false, Bool.true_and] at hres
    refine ah (fun κ vs ν => ν = [] /\ ∃ (i : Nat) (nn : Int), κ = u.length - i /\ i <= u.length /\ vs = [Bo true, Bo false, .c (.int .u64 nn), I i] /\ ((u.drop i).all fun x => script x.1 == script c0.1) = (u.all fun x => script x.1 == script c0.1)) rfl u.length _ (LeL.refl _) ⟨rfl, 0, 0, by omega, by omega, rfl, rfl⟩ ?_
    rintro κ vs ν ⟨rfl, i, nn, rfl, hi, rfl, heq⟩
    dsimp only [go_sem]
    by_cases hlt : i < u.length
    ·obtain ⟨c1, hc1⟩ : ∃ c, u[i]? = some c := ⟨u[i], List.getElem?_eq_getElem hlt⟩
     have hstep : u.drop i = c1 :: u.drop (i + 1) := by
      rw [List.drop_eq_getElem_cons hlt]
      rw [List.getElem?_eq_getElem hlt] at hc1
      cases hc1; rfl
     rw [hstep, List.all_cons] at heq
     have k1 := (Chr.ps_k hc1).1
     obtain ⟨r1, x2, x3, x4⟩ := c1
     dsimp only at k1 heq
     refine aA ?_
     refine bS rfl (fun hn => ?_) (fun he => ?_)
     ·refine aF rfl ?_
      dsimp only [go_sem]
      refine aA ?_
      refine a7 0 rfl (LeL.one (.tup _ _ (.cons _ _ _ _ (.any _ rfl) (.cons _ _ _ _ (.any _ rfl) (.cons _ _ _ _ (.refl _) .nil))))) (Nat.zero_le _) rfl rfl (And.intro ?_ rfl)
      rw [hres, <- heq, beq_eq_false_iff_ne.2 hn]; rfl
     ·rw [he, beq_self_eq_true, Bool.true_and] at heq
      refine aA ?_
      refine aF rfl ?_
      exact ⟨u.length - (i + 1), by omega, rfl, i + 1, _, rfl, by omega, rfl, heq⟩
    ·have hge : i = u.length := by omega
     subst hge
     rw [List.drop_length] at heq
     refine aA ?_
     refine aF rfl ?_
     dsimp only [go_sem]
     refine aA ?_
     refine a7 0 rfl (LeL.one (.tup _ _ (.cons _ _ _ _ (.any _ rfl) (.cons _ _ _ _ (.any _ rfl) (.cons _ _ _ _ (.refl _) .nil))))) (Nat.zero_le _) rfl rfl (And.intro ?_ rfl)
     rw [hres, <- heq]; rfl
   ·have hu : u = [] := List.length_eq_zero_iff.1 (by omega)
    subst hu
    refine aA ?_
    exact a7 0 rfl (LeL.one (.tup _ _ (.cons _ _ _ _ (.any _ rfl) (.cons _ _ _ _ (.any _ rfl) (.cons _ _ _ _ (.refl _) .nil))))) (Nat.zero_le _) rfl rfl ⟨rfl, rfl⟩
  refine aA ?_
  refine bF rfl (fun h2 => ?_) (fun h2 => ?_)
  ·have hres := rX hcc (.inr h2)
   refine mW (i := 1) rfl (by omega) ?_
   rw [rZ]
   rw [hres]
   have hlen2 : (l.drop 1).length <= 1048576 := by rw [List.length_drop]; omega
   generalize l.drop 1 = u at hlen2 ⊢
   dsimp only [go_sem]
   by_cases hpos : 0 < u.length
   ·obtain ⟨c0, hc0⟩ : ∃ c, u[0]? = some c := ⟨u[0], List.getElem?_eq_getElem hpos⟩
    have hres := rY hc0
    have k0 := (Chr.ps_k hc0).1
    refine aA ?_
    refine bF rfl (fun h => ?_) (fun hz => ?_)
    ·rw [h] at hres
     refine aA ?_
     refine a7 0 rfl (LeL.one (.tup _ _ (.cons _ _ _ _ (.any _ rfl) (.cons _ _ _ _ (.any _ rfl) (.cons _ _ _ _ (.refl _) .nil))))) (Nat.zero_le _) rfl rfl (And.intro ?_ rfl)
     rw [hres]; rfl
    rw [beq_eq_false_iff_ne.2 hz, Bool.not_false, Bool.true_and] at hres
    refine ah (fun κ vs ν => ν = [] /\ ∃ (i : Nat) (nn : Int), κ = u.length - i /\ i <= u.length /\ vs = [Bo true, Bo false, .c (.int .u64 nn), I i] /\ ((u.drop i).all fun x => script x.1 == script c0.1) = (u.all fun x => script x.1 == script c0.1)) rfl u.length _ (LeL.refl _) ⟨rfl, 0, 0, by omega, by omega, rfl, rfl⟩ ?_
    rintro κ vs ν ⟨rfl, i, nn, rfl, hi, rfl, heq⟩
    dsimp only [go_sem]
    by_cases hlt : i < u.length
    ·obtain ⟨c1, hc1⟩ : ∃ c, u[i]? = some c := ⟨u[i], List.getElem?_eq_getElem hlt⟩
     have hstep : u.drop i = c1 :: u.drop (i + 1) := by
      rw [List.drop_eq_getElem_cons hlt]
      rw [List.getElem?_eq_getElem hlt] at hc1
      cases hc1; rfl
     rw [hstep, List.all_cons] at heq
     have k1 := (Chr.ps_k hc1).1
     obtain ⟨r1, x2, x3, x4⟩ := c1
     dsimp only at k1 heq
     refine aA ?_
     refine bS rfl (fun hn => ?_) (fun he => ?_)
     ·refine aF rfl ?_
      dsimp only [go_sem]
      refine aA ?_
      refine a7 0 rfl (LeL.one (.tup _ _ (.cons _ _ _ _ (.any _ rfl) (.cons _ _ _ _ (.any _ rfl) (.cons _ _ _ _ (.refl _) .nil))))) (Nat.zero_le _) rfl rfl (And.intro ?_ rfl)
      rw [hres, <- heq, beq_eq_false_iff_ne.2 hn]; rfl
     ·rw [he, beq_self_eq_true, Bool.true_and] at heq
      refine aA ?_
      refine aF rfl ?_
      exact ⟨u.length - (i + 1), by omega, rfl, i + 1, _, rfl, by omega, rfl, heq⟩
    ·have hge : i = u.length := by omega
     subst hge
     rw [List.drop_length] at heq
     refine aA ?_
     refine aF rfl ?_
     dsimp only [go_sem]
     refine aA ?_
     refine a7 0 rfl (LeL.one (.tup _ _ (.cons _ _ _ _ (.any _ rfl) (.cons _ _ _ _ (.any _ rfl) (.cons _ _ _ _ (.refl _) .nil))))) (Nat.zero_le _) rfl rfl (And.intro ?_ rfl)
     rw [hres, <- heq]; rfl
   ·have hu : u = [] := List.length_eq_zero_iff.1 (by omega)
    subst hu
    refine aA ?_
    exact a7 0 rfl (LeL.one (.tup _ _ (.cons _ _ _ _ (.any _ rfl) (.cons _ _ _ _ (.any _ rfl) (.cons _ _ _ _ (.refl _) .nil))))) (Nat.zero_le _) rfl rfl ⟨rfl, rfl⟩
  have hres := EO hcc h1 h2
  have hc0 := hcc
  have k0 := kk
  generalize cc = c0 at hc0 hres k0
  refine aA ?_
  refine bF rfl (fun h => ?_) (fun hz => ?_)
  ·rw [h] at hres
   refine aA ?_
   refine a7 0 rfl (LeL.one (.tup _ _ (.cons _ _ _ _ (.any _ rfl) (.cons _ _ _ _ (.any _ rfl) (.cons _ _ _ _ (.refl _) .nil))))) (Nat.zero_le _) rfl rfl (And.intro ?_ rfl)
   rw [hres]; rfl
  rw [beq_eq_false_iff_ne.2 hz, Bool.not_false, Bool.true_and] at hres
  refine ah (fun κ vs ν => ν = [] /\ ∃ (i : Nat) (nn : Int), κ = l.length - i /\ i <= l.length /\ vs = [Bo false, Bo false, .c (.int .u64 nn), I i] /\ ((l.drop i).all fun x => script x.1 == script c0.1) = (l.all fun x => script x.1 == script c0.1)) rfl l.length _ (LeL.refl _) ⟨rfl, 0, 0, by omega, by omega, rfl, rfl⟩ ?_
  rintro κ vs ν ⟨rfl, i, nn, rfl, hi, rfl, heq⟩
  dsimp only [go_sem]
  by_cases hlt : i < l.length
  ·obtain ⟨c1, hc1⟩ : ∃ c, l[i]? = some c := ⟨l[i], List.getElem?_eq_getElem hlt⟩
   have hstep : l.drop i = c1 :: l.drop (i + 1) := by
    rw [List.drop_eq_getElem_cons hlt]
    rw [List.getElem?_eq_getElem hlt] at hc1
    cases hc1; rfl
   rw [hstep, List.all_cons] at heq
   have k1 := (Chr.ps_k hc1).1
   obtain ⟨r1, x2, x3, x4⟩ := c1
   dsimp only at k1 heq
   refine aA ?_
   refine bS rfl (fun hn => ?_) (fun he => ?_)
   ·refine aF rfl ?_
    dsimp only [go_sem]
    refine aA ?_
    refine a7 0 rfl (LeL.one (.tup _ _ (.cons _ _ _ _ (.any _ rfl) (.cons _ _ _ _ (.any _ rfl) (.cons _ _ _ _ (.refl _) .nil))))) (Nat.zero_le _) rfl rfl (And.intro ?_ rfl)
    rw [hres, <- heq, beq_eq_false_iff_ne.2 hn]; rfl
   ·rw [he, beq_self_eq_true, Bool.true_and] at heq
    refine aA ?_
    refine aF rfl ?_
    exact ⟨l.length - (i + 1), by omega, rfl, i + 1, _, rfl, by omega, rfl, heq⟩
  ·have hge : i = l.length := by omega
   subst hge
   rw [List.drop_length] at heq
   refine aA ?_
   refine aF rfl ?_
   dsimp only [go_sem]
   refine aA ?_
   refine a7 0 rfl (LeL.one (.tup _ _ (.cons _ _ _ _ (.any _ rfl) (.cons _ _ _ _ (.any _ rfl) (.cons _ _ _ _ (.refl _) .nil))))) (Nat.zero_le _) rfl rfl (And.intro ?_ rfl)
   rw [hres, <- heq]; rfl
 ·have hl : l = [] := List.length_eq_zero_iff.1 (by omega)
  subst hl
  refine aA ?_
  exact a7 0 rfl (LeL.one (.tup _ _ (.cons _ _ _ _ (.any _ rfl) (.cons _ _ _ _ (.any _ rfl) (.cons _ _ _ _ (.refl _) .nil))))) (Nat.zero_le _) rfl rfl ⟨rfl, rfl⟩
end
end Go.AM.PV
namespace Go.AM.PV
open Go Go.AM Go.AM.SX
attribute [local irreducible] pz aY
section
variable {E : Env} {gl : List GRow} {cfg : Cfg} {fuel : Nat}
theorem PR.pure {f : FuncId} {ws : List Value} {v : Value} (h : ∀ A : Go.AM.St, dJ E f ws A v A) (μ : Mu) : PR E gl f (ws.map .c) μ (.c v) μ := by
 intro A β S vs gs gm R
 have hv : vs = ws := by
  have h1 := R.vars.fz
  rw [List.map_map] at h1
  have : ∀ (ws vs : List Value), RepL β S A.h vs (ws.map (fz ∘ .c)) -> vs = ws := by
   intro ws
   induction ws with
   | nil => intro vs h; cases h; rfl
   | cons a ws ih =>
    intro vs h
    cases h with
    | cons v _ vs _ h1 h2 => cases h1; rw [ih vs h2]
  exact this ws vs h1
 subst hv
 refine ⟨v, A, β, S, [], gm, h A, ⟨⟨Nat.le_refl _, fun _ _ _ => rfl, fun _ _ _ => rfl⟩, fun _ _ => rfl, fun _ h => .inl h, fun _ h => h, fun _ h => .inl h, fun j hj => .inl (List.mem_append_right _ hj)⟩, ?_⟩
 exact R.setVars (RepO.one (Rep.toT (.c v))) ⟨gs, by simp⟩
def bx (l : List UInt8) (c : UInt8) : Int := match l.findIdx? (· == c) with
 | some i => (i : Int)
 | none => -1
theorem r9 (hE : SxEnv E) (h153 : aC E cfg fuel 153 2 = some t153) (s : ByteArray) (c : Int) (μ : Mu) : PR E gl 153 [St s, .c (.int .u8 c)] μ (I (bx s.data.toList c.toNat.toUInt8)) μ := by
 refine PR.pure (ws := [.string s, .int .u8 c]) (v := .int .i64 (bx s.data.toList c.toNat.toUInt8)) (fun A => ?_) μ
 obtain ⟨v, A', h1, h2⟩ := oK hE (vs := [.string s, .int .u8 c]) h153 (A := A) (Q := fun v B => v = .int .i64 (bx s.data.toList c.toNat.toUInt8) /\ B = A) (by
  unfold t153
  refine aO (v := .int .i64 (bx s.data.toList c.toNat.toUInt8)) (A' := A) rfl ?_
  refine cu ?_
  intro v hv
  have hv : [Value.int .i64 (bx s.data.toList c.toNat.toUInt8)] = [v] := hv
  cases hv
  exact ⟨rfl, rfl⟩)
 obtain ⟨rfl, rfl⟩ := h2
 exact h1
def fe (r : Int) : Bool := (decide (0 <= r) && decide (r < 55296)) || (decide (57343 < r) && decide (r <= 1114111))
theorem ER (hE : SxEnv E) (h191 : aC E cfg fuel 191 1 = some t191) (r : Int) : PR E gl 191 [R32 r] [] (Bo (fe r)) [] := by
 refine fnZ hE (cfg := cfg) (fuel := fuel) h191 (by kernel_rfl) ?_
 unfold t191
 repeat' (first | (refine aE 0 rfl (Nat.zero_le _) rfl rfl (And.intro ?_ rfl)) | refine bF rfl (fun h => ?_) (fun h => ?_) | refine aA ?_)
 all_goals first
  | (rw [show fe r = true by unfold fe; simp only [Bool.or_eq_true, Bool.and_eq_true, decide_eq_true_eq]; omega]; rfl)
  | (rw [show fe r = false by unfold fe; simp only [Bool.or_eq_false_iff, Bool.and_eq_false_iff, decide_eq_false_iff_not]; omega]; rfl)
def blk : List UInt8 := [9, 10, 13, 32, 194, 160, 227, 128, 128]
theorem mh {l : List UInt8} {c : UInt8} (h : c ∉ l) : bx l c = -1 := by
 unfold bx
 have : l.findIdx? (· == c) = none := by
  rw [List.findIdx?_eq_none_iff]
  intro x hx
  exact beq_eq_false_iff_ne.2 fun e => h (e ▸ hx)
 rw [this]
theorem eB {n : Nat} (h : n < 256) : (UInt8.ofNat n).toNat = n := by
 rw [UInt8.toNat_ofNat']; omega
theorem ES {r : Int} (h0 : 128 <= r) (h1 : r < 2048) : ∃ a b : UInt8, Utf8.encode r = ⟨[a, b].toArray⟩ /\ (a.toNat : Int) = 192 + r / 64 /\ (b.toNat : Int) = 128 + r % 64 := by
 obtain ⟨n, rfl⟩ : ∃ n : Nat, r = n := ⟨r.toNat, by omega⟩
 refine ⟨UInt8.ofNat (0xC0 + n / 64), UInt8.ofNat (0x80 + n % 64), ?_, ?_, ?_⟩
 ·have hv : Utf8.valid (n : Int) = true := by simp [Utf8.valid]; omega
  unfold Utf8.encode
  simp only [hv, if_true, Int.toNat_natCast]
  rw [if_neg (by omega), if_pos (by omega)]
 ·rw [eB (by omega)]; omega
 ·rw [eB (by omega)]; omega
theorem ET {r : Int} (h0 : 2048 <= r) (h1 : r < 65536) (hv : Utf8.valid r = true) : ∃ a b c : UInt8, Utf8.encode r = ⟨[a, b, c].toArray⟩ /\ (a.toNat : Int) = 224 + r / 4096 /\ (b.toNat : Int) = 128 + r / 64 % 64 /\ (c.toNat : Int) = 128 + r % 64 := by
 obtain ⟨n, rfl⟩ : ∃ n : Nat, r = n := ⟨r.toNat, by omega⟩
 refine ⟨UInt8.ofNat (0xE0 + n / 4096), UInt8.ofNat (0x80 + n / 64 % 64), UInt8.ofNat (0x80 + n % 64), ?_, ?_, ?_, ?_⟩
 ·unfold Utf8.encode
  simp only [hv, if_true, Int.toNat_natCast]
  rw [if_neg (by omega), if_neg (by omega), if_pos (by omega)]
 ·rw [eB (by omega)]; omega
 ·rw [eB (by omega)]; omega
 ·rw [eB (by omega)]; omega
theorem EU {r : Int} (h0 : 65536 <= r) (h1 : r <= 1114111) (hv : Utf8.valid r = true) : ∃ a b c e : UInt8, Utf8.encode r = ⟨[a, b, c, e].toArray⟩ /\ (a.toNat : Int) = 240 + r / 262144 /\ (b.toNat : Int) = 128 + r / 4096 % 64 /\ (c.toNat : Int) = 128 + r / 64 % 64 /\ (e.toNat : Int) = 128 + r % 64 := by
 obtain ⟨n, rfl⟩ : ∃ n : Nat, r = n := ⟨r.toNat, by omega⟩
 refine ⟨UInt8.ofNat (0xF0 + n / 262144), UInt8.ofNat (0x80 + n / 4096 % 64), UInt8.ofNat (0x80 + n / 64 % 64), UInt8.ofNat (0x80 + n % 64), ?_, ?_, ?_, ?_, ?_⟩
 ·unfold Utf8.encode
  simp only [hv, if_true, Int.toNat_natCast]
  rw [if_neg (by omega), if_neg (by omega), if_neg (by omega)]
 ·rw [eB (by omega)]; omega
 ·rw [eB (by omega)]; omega
 ·rw [eB (by omega)]; omega
 ·rw [eB (by omega)]; omega
section
variable {E : Env} {gl : List GRow} {cfg : Cfg} {fuel : Nat}
theorem EV (b : UInt8) : ((b.toNat : Int)).toNat.toUInt8 = b := by simp
theorem EW : ∀ n, n < 128 -> decide (bx blk (UInt8.ofNat n) >= 0) = cr n := by decide
theorem gr (hE : SxEnv E) (h153 : aC E cfg fuel 153 2 = some t153) (k : Nat) (x : UInt8) {v : Int} (h : bx (blk.drop k) x = v) : PR E gl 153 [.c (.string ((⟨blk.toArray⟩ : ByteArray).extract k (⟨blk.toArray⟩ : ByteArray).size)), .c (.int .u8 (x.toNat : Int))] [] (I v) [] := by
 have := r9 (gl := gl) hE h153 ((⟨blk.toArray⟩ : ByteArray).extract k (⟨blk.toArray⟩ : ByteArray).size) (x.toNat : Int) []
 rw [EV, sk] at this
 rwa [show ((⟨blk.toArray⟩ : ByteArray).data.toList.drop k) = blk.drop k from rfl, h] at this
set_option maxHeartbeats 4000000 in
theorem EX (hE : SxEnv E) (h157 : aC E cfg fuel 157 1 = some t157) (h153 : aC E cfg fuel 153 2 = some t153) (h191 : aC E cfg fuel 191 1 = some t191) (r : Int) (h0 : 0 <= r) (h1 : r <= 1114111) : PR E gl 157 [R32 r] [] (Bo (cr r)) [] := by
 refine fnZ hE (cfg := cfg) (fuel := fuel) h157 (by kernel_rfl) ?_
 unfold t157
 by_cases hlow : r < 128
 ·obtain ⟨n, rfl⟩ : ∃ n : Nat, r = n := ⟨r.toNat, by omega⟩
  have hq := r9 (gl := gl) hE h153
  refine aA ?_
  refine aE 0 rfl (Nat.zero_le _) rfl rfl (And.intro ?_ rfl)
  have hn : n < 128 := by omega
  have e1 : aT .u8 (n : Int) = n := by
   unfold aT
   rw [if_pos ⟨by simp only [lo]; omega, by simp only [hi]; omega⟩]
  have e2 : ((n : Int)).toNat.toUInt8 = UInt8.ofNat n := rfl
  try dsimp only [go_sem]
  rw [e1, e2, <- EW n hn]
  rfl
 by_cases hbad : r = 65533
 ·refine aA ?_
  refine gY rfl ?_
  dsimp only [go_sem]
  refine ah (fun κ vs ν => vs = [I 0] /\ ∃ pos : Nat, κ = 9 - pos /\ ν = [.sit ⟨blk.toArray⟩ pos] /\ (pos = 0 \/ pos = 1 \/ pos = 2 \/ pos = 3 \/ pos = 4 \/ pos = 6 \/ pos = 9)) rfl 9 _ (LeL.refl _) ⟨rfl, 0, rfl, rfl, .inl rfl⟩ ?_
  rintro κ vs ν ⟨rfl, pos, rfl, rfl, hpos⟩
  try dsimp only [go_sem]
  refine gZ (i := 0) (s := ⟨blk.toArray⟩) (pos := pos) rfl rfl (fun hlt => ?_) (fun hge => ?_)
  ·have hsz : (⟨blk.toArray⟩ : ByteArray).size = 9 := rfl
   rw [hsz] at hlt
   obtain ⟨x, w, hd, hx, hw, hw2⟩ : ∃ x w, Utf8.decode ⟨blk.toArray⟩ pos = (x, w) /\ x ≠ 65533 /\ 1 <= w /\ (pos + w = 0 \/ pos + w = 1 \/ pos + w = 2 \/ pos + w = 3 \/ pos + w = 4 \/ pos + w = 6 \/ pos + w = 9) := by
    rcases hpos with rfl | rfl | rfl | rfl | rfl | rfl | rfl
    ·exact ⟨9, 1, by decide, by decide, by decide, by decide⟩
    ·exact ⟨10, 1, by decide, by decide, by decide, by decide⟩
    ·exact ⟨13, 1, by decide, by decide, by decide, by decide⟩
    ·exact ⟨32, 1, by decide, by decide, by decide, by decide⟩
    ·exact ⟨160, 2, by decide, by decide, by decide, by decide⟩
    ·exact ⟨12288, 3, by decide, by decide, by decide, by decide⟩
    ·omega
   rw [hd]
   dsimp only [go_sem]
   refine aA ?_
   refine aF rfl ?_
   exact ⟨9 - (pos + w), by omega, rfl, pos + w, rfl, rfl, hw2⟩
  ·refine aA ?_
   refine aF rfl ?_
   dsimp only [go_sem]
   refine aA ?_
   refine aE 0 rfl (Nat.zero_le _) rfl rfl (And.intro ?_ rfl)
   rw [hbad]
   rfl
 have hne : cr r = (decide (r = 160) || decide (r = 12288)) := by
  unfold cr
  rw [beq_eq_false_iff_ne.2 (by omega : r ≠ 9), beq_eq_false_iff_ne.2 (by omega : r ≠ 10), beq_eq_false_iff_ne.2 (by omega : r ≠ 13), beq_eq_false_iff_ne.2 (by omega : r ≠ 32)]
  rfl
 have hp := ER (gl := gl) hE h191 r
 cases hv : fe r with
 | false =>
  rw [hv] at hp
  refine aA ?_
  refine aE 0 rfl (Nat.zero_le _) rfl rfl (And.intro ?_ rfl)
  have h160 : r ≠ 160 := fun e => by rw [e] at hv; revert hv; decide
  have h288 : r ≠ 12288 := fun e => by rw [e] at hv; revert hv; decide
  rw [hne, decide_eq_false h160, decide_eq_false h288]
  rfl
 | true =>
  rw [hv] at hp
  have hvu : Utf8.valid r = true := by
   unfold fe at hv
   unfold Utf8.valid
   simp only [Bool.or_eq_true, Bool.and_eq_true, decide_eq_true_eq] at hv ⊢
   omega
  refine aA ?_
  by_cases hs2 : r < 2048
  ·obtain ⟨a, b, he, ha, hb⟩ := ES (by omega) hs2
   rw [he]
   rw [show (ByteArray.size ⟨[a, b].toArray⟩) = 2 from rfl, show aT .i64 (((2 : Nat) : Int) - 1) = 1 from rfl]
   have hsz : ByteArray.size ⟨[a, b].toArray⟩ = 2 := rfl
   have hsz2 : ([a, b].toArray).size = 2 := rfl
   have qa := fun v (h : bx (blk.drop 2) b = v) => gr (gl := gl) hE h153 2 b h
   have qb := fun v (h : bx (blk.drop 7) b = v) => gr (gl := gl) hE h153 7 b h
   by_cases hx : b = 160
   ·subst hx
    have hb : (160 : Int) = 128 + r % 64 := hb
    have ha1 := qa 3 (by decide)
    try have hb1 := qb (-1) (by decide)
    clear qa qb
    repeat' (first | refine bS rfl (fun h => ?_) (fun h => ?_) | refine af ?_)
    all_goals refine ⟨?_, rfl⟩
    all_goals first
     | (rw [hne, decide_eq_false (by omega : ¬ r = 160), decide_eq_false (by omega : ¬ r = 12288)]; rfl)
     | (have hr : r = 160 := by omega
        rw [hr]; rfl)
     | (have hr : r = 12288 := by omega
        rw [hr]; rfl)
   by_cases hy : b = 128
   ·subst hy
    have hb : (128 : Int) = 128 + r % 64 := hb
    have ha1 := qa 5 (by decide)
    clear qa qb
    repeat' (first | refine bS rfl (fun h => ?_) (fun h => ?_) | refine af ?_)
    all_goals refine ⟨?_, rfl⟩
    all_goals first
     | (rw [hne, decide_eq_false (by omega : ¬ r = 160), decide_eq_false (by omega : ¬ r = 12288)]; rfl)
     | (have hr : r = 160 := by omega
        rw [hr]; rfl)
     | (have hr : r = 12288 := by omega
        rw [hr]; rfl)
   have hx' : ¬ (b.toNat = 160) := fun e => hx (UInt8.toNat_inj.1 (e.trans rfl))
   have hy' : ¬ (b.toNat = 128) := fun e => hy (UInt8.toNat_inj.1 (e.trans rfl))
   have hno : b ∉ blk.drop 2 := by
    intro h
    have h : b ∈ blk := List.mem_of_mem_drop h
    simp only [blk, List.mem_cons, List.not_mem_nil, or_false] at h
    rcases h with h | h | h | h | h | h | h | h | h <;> (have := congrArg UInt8.toNat h; simp at this; omega)
   have ha1 := qa (-1) (mh hno)
   clear qa qb
   repeat' (first | refine bS rfl (fun h => ?_) (fun h => ?_) | refine af ?_)
   all_goals refine ⟨?_, rfl⟩
   all_goals first
    | (rw [hne, decide_eq_false (by omega : ¬ r = 160), decide_eq_false (by omega : ¬ r = 12288)]; rfl)
    | (have hr : r = 160 := by omega
       rw [hr]; rfl)
    | (have hr : r = 12288 := by omega
       rw [hr]; rfl)
  by_cases hs3 : r < 65536
  ·obtain ⟨a, b, c, he, ha, hb, hc⟩ := ET (by omega) hs3 hvu
   rw [he]
   rw [show (ByteArray.size ⟨[a, b, c].toArray⟩) = 3 from rfl, show aT .i64 (((3 : Nat) : Int) - 1) = 2 from rfl]
   have hsz : ByteArray.size ⟨[a, b, c].toArray⟩ = 3 := rfl
   have hsz2 : ([a, b, c].toArray).size = 3 := rfl
   have qa := fun v (h : bx (blk.drop 3) c = v) => gr (gl := gl) hE h153 3 c h
   have qb := fun v (h : bx (blk.drop 7) c = v) => gr (gl := gl) hE h153 7 c h
   by_cases hx : c = 160
   ·subst hx
    have hc : (160 : Int) = 128 + r % 64 := hc
    have ha1 := qa 2 (by decide)
    try have hb1 := qb (-1) (by decide)
    clear qa qb
    repeat' (first | refine bS rfl (fun h => ?_) (fun h => ?_) | refine af ?_)
    all_goals refine ⟨?_, rfl⟩
    all_goals first
     | (rw [hne, decide_eq_false (by omega : ¬ r = 160), decide_eq_false (by omega : ¬ r = 12288)]; rfl)
     | (have hr : r = 160 := by omega
        rw [hr]; rfl)
     | (have hr : r = 12288 := by omega
        rw [hr]; rfl)
   by_cases hy : c = 128
   ·subst hy
    have hc : (128 : Int) = 128 + r % 64 := hc
    have ha1 := qa 4 (by decide)
    clear qa qb
    repeat' (first | refine bS rfl (fun h => ?_) (fun h => ?_) | refine af ?_)
    all_goals refine ⟨?_, rfl⟩
    all_goals first
     | (rw [hne, decide_eq_false (by omega : ¬ r = 160), decide_eq_false (by omega : ¬ r = 12288)]; rfl)
     | (have hr : r = 160 := by omega
        rw [hr]; rfl)
     | (have hr : r = 12288 := by omega
        rw [hr]; rfl)
   have hx' : ¬ (c.toNat = 160) := fun e => hx (UInt8.toNat_inj.1 (e.trans rfl))
   have hy' : ¬ (c.toNat = 128) := fun e => hy (UInt8.toNat_inj.1 (e.trans rfl))
   have hno : c ∉ blk.drop 3 := by
    intro h
    have h : c ∈ blk := List.mem_of_mem_drop h
    simp only [blk, List.mem_cons, List.not_mem_nil, or_false] at h
    rcases h with h | h | h | h | h | h | h | h | h <;> (have := congrArg UInt8.toNat h; simp at this; omega)
   have ha1 := qa (-1) (mh hno)
   clear qa qb
   repeat' (first | refine bS rfl (fun h => ?_) (fun h => ?_) | refine af ?_)
   all_goals refine ⟨?_, rfl⟩
   all_goals first
    | (rw [hne, decide_eq_false (by omega : ¬ r = 160), decide_eq_false (by omega : ¬ r = 12288)]; rfl)
    | (have hr : r = 160 := by omega
       rw [hr]; rfl)
    | (have hr : r = 12288 := by omega
       rw [hr]; rfl)
  obtain ⟨a, b, c, g, he, ha, hb, hc, hg⟩ := EU (by omega) h1 hvu
  rw [he]
  rw [show (ByteArray.size ⟨[a, b, c, g].toArray⟩) = 4 from rfl, show aT .i64 (((4 : Nat) : Int) - 1) = 3 from rfl]
  have hsz : ByteArray.size ⟨[a, b, c, g].toArray⟩ = 4 := rfl
  have hsz2 : ([a, b, c, g].toArray).size = 4 := rfl
  have qa := fun v (h : bx (blk.drop 4) g = v) => gr (gl := gl) hE h153 4 g h
  have qb := fun v (h : bx (blk.drop 7) g = v) => gr (gl := gl) hE h153 7 g h
  by_cases hx : g = 160
  ·subst hx
   have hg : (160 : Int) = 128 + r % 64 := hg
   have ha1 := qa 1 (by decide)
   try have hb1 := qb (-1) (by decide)
   clear qa qb
   repeat' (first | refine bS rfl (fun h => ?_) (fun h => ?_) | refine af ?_)
   all_goals refine ⟨?_, rfl⟩
   all_goals first
    | (rw [hne, decide_eq_false (by omega : ¬ r = 160), decide_eq_false (by omega : ¬ r = 12288)]; rfl)
    | (have hr : r = 160 := by omega
       rw [hr]; rfl)
    | (have hr : r = 12288 := by omega
       rw [hr]; rfl)
  by_cases hy : g = 128
  ·subst hy
   have hg : (128 : Int) = 128 + r % 64 := hg
   have ha1 := qa 3 (by decide)
   try have hb1 := qb (-1) (by decide)
   clear qa qb
   repeat' (first | refine bS rfl (fun h => ?_) (fun h => ?_) | refine af ?_)
   all_goals refine ⟨?_, rfl⟩
   all_goals first
    | (rw [hne, decide_eq_false (by omega : ¬ r = 160), decide_eq_false (by omega : ¬ r = 12288)]; rfl)
    | (have hr : r = 160 := by omega
       rw [hr]; rfl)
    | (have hr : r = 12288 := by omega
       rw [hr]; rfl)
  have hx' : ¬ (g.toNat = 160) := fun e => hx (UInt8.toNat_inj.1 (e.trans rfl))
  have hy' : ¬ (g.toNat = 128) := fun e => hy (UInt8.toNat_inj.1 (e.trans rfl))
  have hno : g ∉ blk.drop 4 := by
   intro h
   have h : g ∈ blk := List.mem_of_mem_drop h
   simp only [blk, List.mem_cons, List.not_mem_nil, or_false] at h
   rcases h with h | h | h | h | h | h | h | h | h <;> (have := congrArg UInt8.toNat h; simp at this; omega)
  have ha1 := qa (-1) (mh hno)
  clear qa qb
  repeat' (first | refine bS rfl (fun h => ?_) (fun h => ?_) | refine af ?_)
  all_goals refine ⟨?_, rfl⟩
  all_goals first
   | (rw [hne, decide_eq_false (by omega : ¬ r = 160), decide_eq_false (by omega : ¬ r = 12288)]; rfl)
   | (have hr : r = 160 := by omega
      rw [hr]; rfl)
   | (have hr : r = 12288 := by omega
      rw [hr]; rfl)
end
end
end Go.AM.PV
namespace Go.AM.PV
open Go Go.AM Go.AM.SX
def nmR (s : ByteArray) : Bool := cI (chrs s s.size 0) s (cJ (chrs s s.size 0)) && !gz s
def vsR (s : ByteArray) : Bool := Lib.validD s.data.toList
attribute [local irreducible] pz aY
structure Nms (E : Env) (gl : List GRow) (inf : Nat -> TypeInfo) (c0 c1 : Cfg) (fuel : Nat) : Prop where
 hE : SxEnv E
 hx : E.xf = [64, 145]
 hxt : E.xt = xtU
 hk1 : ∀ s, cS 64 [.string s] E.known = none
 hk2 : ∀ s, cS 145 [.string s] E.known = none
 g1 : dz ∈ gl
 g2 : eA ∈ gl
 hn : 2 < E.ng
 i1 : (inf 151).size = 4
 i2 : (inf 151).bytes = 32
 h16 : aC E c0 fuel 16 1 = some t16
 h21 : aC E c0 fuel 21 1 = some t21
 h24 : aC E c0 fuel 24 1 = some t24
 h33 : aC E c0 fuel 33 3 = some t33
 h37 : aC E c0 fuel 37 2 = some t37
 h39 : aC E c0 fuel 39 3 = some t39
 h56 : aC E c0 fuel 56 1 = some t56
 h57 : aC E c0 fuel 57 1 = some t57
 h62 : aC E c0 fuel 62 2 = some t62
 h65 : aC E c0 fuel 65 3 = some t65
 h67 : aC E c0 fuel 67 2 = some t67
 h95 : aC E c0 fuel 95 1 = some (t95 inf)
 h96 : aC E c0 fuel 96 1 = some t96
 h97 : aC E c0 fuel 97 1 = some t97
 h102 : aC E c0 fuel 102 1 = some t102
 h105 : aC E c0 fuel 105 2 = some t105
 h124 : aC E c0 fuel 124 1 = some t124
 h128 : aC E c0 fuel 128 1 = some t128
 h130 : aC E c0 fuel 130 1 = some t130
 h133 : aC E c0 fuel 133 1 = some t133
 h134 : aC E c0 fuel 134 1 = some t134
 h146 : aC E c0 fuel 146 1 = some t146
 h148 : aC E c0 fuel 148 1 = some t148
 h153 : aC E c1 fuel 153 2 = some t153
 h157 : aC E c1 fuel 157 1 = some t157
 h191 : aC E c1 fuel 191 1 = some t191
theorem EY {E : Env} {gl : List GRow} {cfg : Cfg} {fuel : Nat} (hE : SxEnv E) (h21 : aC E cfg fuel 21 1 = some t21) (n : Int) : PR E gl 21 [I n] [] (Bo (decide (n >= -1152921504606846976) && decide (n <= 1152921504606846975))) [] := by
 refine fnZ hE (cfg := cfg) (fuel := fuel) h21 (by kernel_rfl) ?_
 unfold t21
 repeat' (first | (refine aE 0 rfl (Nat.zero_le _) rfl rfl (And.intro ?_ rfl)) | refine bF rfl (fun h => ?_) (fun h => ?_) | refine aA ?_)
 ·rw [decide_eq_true (show n >= -1152921504606846976 by omega)]; rfl
 ·rw [decide_eq_false (show ¬ n >= -1152921504606846976 by omega)]; rfl
variable {E : Env} {gl : List GRow} {inf : Nat -> TypeInfo} {c0 c1 : Cfg} {fuel : Nat}
theorem Nms.chars (H : Nms E gl inf c0 c1 fuel) {s : ByteArray} (hs : s.size <= 1048576) : PR E gl 95 [St s] [] (.ow 151 4 (chrs s s.size 0).length (Chr.ps (chrs s s.size 0))) [] :=
 CN H.hE H.h95 H.i1 H.i2 hs
theorem Nms.n96 (H : Nms E gl inf c0 c1 fuel) {s : ByteArray} (hs : s.size <= 1048576) : PR E gl 96 [St s] [] (Bo (cI (chrs s s.size 0) s (cJ (chrs s s.size 0)))) [] :=
 I7 H.hE H.h96 H.h130 (H.chars hs) (EP H.hE H.h128 H.h148 _ (by have := kL s s.size 0; omega))
theorem Nms.n133 (H : Nms E gl inf c0 c1 fuel) {s : ByteArray} (hs : s.size <= 1048576) : PR E gl 133 [St s] [] (Bo (cI (chrs s s.size 0) s (cJ (chrs s s.size 0)))) [] :=
 I8 H.hE H.h133 hs (fun r h0 h1 => EX H.hE H.h157 H.h153 H.h191 r h0 h1) (EN H.hE H.h124 H.h146 H.h67 H.h105 hs (EM (H.hk2 s) (by rw [H.hx]; rfl) H.hxt H.g1 H.g2 H.hn []))
theorem Nms.n102 (H : Nms E gl inf c0 c1 fuel) {s : ByteArray} (hs : s.size <= 1048576) : PR E gl 102 [St s] [] (Bo (nmR s)) [] :=
 I9 H.hE H.h102 (H.n133 hs) (I6 H.hE H.h134 H.h37 H.h62 s)
theorem Nms.n57 (H : Nms E gl inf c0 c1 fuel) {s : ByteArray} (hs : s.size <= 1048576) : PR E gl 57 [St s] [] (Bo (nmR s)) [] :=
 Ia H.hE H.h57 (H.n96 hs) (I3 H.hE H.h97 s)
theorem Nms.valid (H : Nms E gl inf c0 c1 fuel) {s : ByteArray} (hs : s.size <= 1048576) : PR E gl 64 [St s] [] (Bo (vsR s)) [] :=
 EL (by omega) (H.hk1 s) (by rw [H.hx]; rfl) H.hxt H.g1 H.g2 H.hn []
theorem Nms.check (H : Nms E gl inf c0 c1 fuel) (v : Val) (hv : v.small 1048576) : PR E gl 24 [v.p] [] (I (v.chk vsR nmR)) [] :=
 CI vsR nmR H.hE H.h24 H.h39 H.h65 (fun _ h => H.valid (by omega)) (fun _ h => H.n102 h) v hv
theorem Nms.sound (H : Nms E gl inf c0 c1 fuel) (v : V) (hv : v.sz <= 1048576) : PR E gl 16 [.agg v.p] [] (Bo (v.sound vsR nmR)) [] :=
 CL vsR nmR H.hE H.h16 H.h33 (fun n => EY H.hE H.h21 n) bad (fun s h => CO H.hE H.h56 (by omega) (H.chars (by omega))) CT (fun _ h => H.n57 h) v hv
end Go.AM.PV
namespace Go.AM.PV
open Go Go.AM Go.AM.SX
attribute [local irreducible] pz aY
structure Dos (E : Env) (gl : List GRow) (inf : Nat -> TypeInfo) (c0 c1 c2 : Cfg) (fuel : Nat) : Prop extends Nms E gl inf c0 c1 fuel where
 j1 : (inf 41).size = 1
 j2 : (inf 41).bytes = 16
 h13 : aC E c0 fuel 13 2 = some (t13 inf)
 h26 : aC E c0 fuel 26 2 = some t26
 h27 : aC E c2 fuel 27 1 = some (t27 inf)
 h28 : aC E c0 fuel 28 1 = some (t28 inf)
 h41 : aC E c0 fuel 41 2 = some t41
 h42 : aC E c0 fuel 42 1 = some t42
 h43 : aC E c0 fuel 43 2 = some t43
 h72 : aC E c0 fuel 72 1 = some t72
variable {E : Env} {gl : List GRow} {inf : Nat -> TypeInfo} {c0 c1 c2 : Cfg} {fuel : Nat}
def Val.letter : Val -> Int
 | .nil => 111
 | .int _ => 110
 | .str _ => 115
 | .bool _ => 98
 | .list _ => 108
 | .quot _ => 113
 | .box _ => 111
theorem rf (H : Dos E gl inf c0 c1 c2 fuel) (v : Val) : PR E gl 42 [v.p] [] (.c (.int .u8 v.letter)) [] := by
 refine fnZ H.hE (cfg := c0) (fuel := fuel) H.h42 (by kernel_rfl) ?_
 unfold t42
 cases v <;> (refine aA ?_; exact aE 0 rfl (Nat.zero_le _) rfl rfl ⟨rfl, rfl⟩)
theorem cY (H : Dos E gl inf c0 c1 c2 fuel) (v : Val) : PR E gl 41 [.c (.int .u8 120), v.p] [] (Bo true) [] := by
 refine fnZ H.hE (cfg := c0) (fuel := fuel) H.h41 (by kernel_rfl) ?_
 unfold t41
 have h := rf H v
 cases v <;> (refine aA ?_; exact aE 0 rfl (Nat.zero_le _) rfl rfl ⟨rfl, rfl⟩)
def rh : List (List UInt8 × (Val -> Bool)) :=
 [([105, 110, 116, 63], fun | .int _ => true | _ => false), ([115, 116, 114, 63], fun | .str _ => true | _ => false), ([98, 111, 111, 108, 63], fun | .bool _ => true | _ => false),
  ([108, 105, 115, 116, 63], fun | .list _ => true | _ => false), ([113, 117, 111, 116, 63], fun | .quot _ => true | _ => false), ([98, 111, 120, 63], fun | .box _ => true | _ => false)]
end Go.AM.PV
namespace Go.AM.PV
open Go Go.AM Go.AM.SX
attribute [local irreducible] pz aY
variable {E : Env} {gl : List GRow} {inf : Nat -> TypeInfo} {c0 c1 c2 : Cfg} {fuel : Nat}
theorem mi {ps : List P} {a : At} {n : Nat} {l : List P} (h : bI ps a = .lit l) (hn : l.length = n) (h0 : 0 < n) : denF ps [.sl a n] = some [.fx 1 n l] := by
 have h2 : bN ps (.sl a n) = some (.fx 1 n l) := by
  show (match bI ps a with
   | .lit l => if l.length = n * (if n = 0 then 1 else l.length / n) then some (P.fx (if n = 0 then 1 else l.length / n) n l) else none
   | _ => none) = _
  rw [h]
  dsimp only
  have hd : (if n = 0 then 1 else l.length / n) = 1 := by rw [if_neg (by omega), hn, Nat.div_self h0]
  rw [hd, if_pos (by omega)]
 unfold denF
 rw [h2]
 rfl
end Go.AM.PV
namespace Go.AM.PV
open Go Go.AM Go.AM.SX
attribute [local irreducible] pz aY
structure Knd (E : Env) (gl : List GRow) (inf : Nat -> TypeInfo) (c0 c1 c2 : Cfg) (fuel : Nat) : Prop extends Dos E gl inf c0 c1 c2 fuel where
 conv : ConvT E inf c0 fuel
 h8 : aC E c0 fuel 8 1 = some t8
 h15 : aC E c0 fuel 15 2 = some t15
 h18 : aC E c0 fuel 18 2 = some t18
 h32 : aC E c0 fuel 32 2 = some t32
 awake : PR E gl 10 [] [] (.c (.bool true)) []
 want : ∀ w, w ∈ rh -> PR E gl 25 [.c (bs w.1)] [] (.c (.tuple #[bs [120], .bool true])) []
variable {E : Env} {gl : List GRow} {inf : Nat -> TypeInfo} {c0 c1 c2 : Cfg} {fuel : Nat}
end Go.AM.PV
namespace Go.AM.PV
open Go Go.AM Go.AM.SX
attribute [local irreducible] pz aY
variable {E : Env} {gl : List GRow} {inf : Nat -> TypeInfo} {c0 c1 c2 : Cfg} {fuel : Nat}
theorem ed {ps : List P} {x : X} {a : At} {p : P} {n sz : Nat} {l : List P} (hx : bN ps x = some p) (h : bI ps a = .lit l) (hn : l.length = n * sz) (h0 : 0 < n) : denF ps [x, .sl a n] = some [fz p, .fx sz n l] := by
 have h2 : bN ps (.sl a n) = some (.fx sz n l) := by
  show (match bI ps a with
   | .lit l => if l.length = n * (if n = 0 then 1 else l.length / n) then some (P.fx (if n = 0 then 1 else l.length / n) n l) else none
   | _ => none) = _
  rw [h]
  dsimp only
  have hd : (if n = 0 then 1 else l.length / n) = sz := by rw [if_neg (by omega), hn, Nat.mul_div_cancel_left _ h0]
  rw [hd, if_pos hn]
 unfold denF
 rw [hx]
 unfold denF
 rw [h2]
 rfl
end Go.AM.PV
namespace Go.AM.PV
open Go Go.AM Go.AM.SX
theorem V.len_szs : ∀ l : List V, l.length <= V.szs l
 | [] => Nat.le_refl _
 | v :: l => by
  have h := V.len_szs l
  have h1 := V.sz_pos v
  simp only [V.szs, List.length_cons]
  omega
mutual
theorem V.small_of : ∀ (v : V) {n : Nat}, v.sz <= n -> v.small n
 | .mk k m s l, n, h => by
  simp only [V.sz] at h
  have h1 := V.len_szs l
  simp only [V.small]
  exact ⟨by omega, V.smalls_of l (by omega), by omega⟩
theorem V.smalls_of : ∀ (l : List V) {n : Nat}, V.szs l <= n -> V.smalls n l
 | [], n, h => by simp only [V.smalls]
 | v :: l, n, h => by
  simp only [V.szs] at h
  simp only [V.smalls]
  exact ⟨V.small_of v (by omega), V.smalls_of l (by omega)⟩
end
theorem ri : ∀ l : List V, (V.vals l).length = l.length
 | [] => rfl
 | v :: l => by simp only [V.vals, List.length_cons, ri l]
theorem rj : ∀ l : List V, (V.itms l).length = l.length
 | [] => rfl
 | v :: l => by simp only [V.itms, List.length_cons, rj l]
mutual
theorem rk : ∀ (v : V) {n : Nat}, v.sz <= n -> v.val.small n
 | .mk k m s l, n, h => by
  simp only [V.sz] at h
  have h1 := V.len_szs l
  have h2 := mj l (n := n) (by omega)
  have h3 := rl l (n := n) (by omega)
  have h4 := ri l
  have h5 := rj l
  simp only [V.val]
  repeat' split
  all_goals simp only [Val.small]
  ·omega
  ·exact ⟨by omega, h2⟩
  ·exact ⟨by omega, h3⟩
theorem mj : ∀ (l : List V) {n : Nat}, V.szs l <= n -> Val.smalls n (V.vals l)
 | [], n, h => by simp only [V.vals, Val.smalls]
 | v :: l, n, h => by
  simp only [V.szs] at h
  simp only [V.vals, Val.smalls]
  exact ⟨rk v (by omega), mj l (by omega)⟩
theorem EZ : ∀ (v : V) {n : Nat}, v.sz <= n -> v.itm.small n
 | .mk k m s l, n, h => by
  have hv := rk (.mk k m s l) h
  rw [V.itm_eq]
  simp only [V.sz] at h
  dsimp only
  repeat' split
  all_goals simp only [Itm.small]
  ·omega
  ·exact hv
theorem rl : ∀ (l : List V) {n : Nat}, V.szs l <= n -> Itm.smalls n (V.itms l)
 | [], n, h => by simp only [V.itms, Itm.smalls]
 | v :: l, n, h => by
  simp only [V.szs] at h
  simp only [V.itms, Itm.smalls]
  exact ⟨EZ v (by omega), rl l (by omega)⟩
end
mutual
theorem mn : ∀ (v : V), v.val.tree.sz <= v.sz
 | .mk k m s l => by
  have h2 := mo l
  have h3 := rn l
  have h0 : (ByteArray.mk #[]).size = 0 := rfl
  simp only [V.val]
  repeat' split
  all_goals simp only [Val.tree, V.sz, V.szs, h0]
  all_goals omega
theorem mo : ∀ (l : List V), V.szs (Val.trees (V.vals l)) <= V.szs l
 | [] => by simp only [V.vals, Val.trees, V.szs]; exact Nat.le_refl _
 | v :: l => by
  have h1 := mn v
  have h2 := mo l
  simp only [V.vals, Val.trees, V.szs]
  omega
theorem E3 : ∀ (v : V), v.itm.tree.sz <= v.sz
 | .mk k m s l => by
  have hv := mn (.mk k m s l)
  have h0 : (ByteArray.mk #[]).size = 0 := rfl
  rw [V.itm_eq]
  dsimp only
  repeat' split
  all_goals simp only [Itm.tree, V.sz, V.szs, h0] at hv ⊢
  all_goals omega
theorem rn : ∀ (l : List V), V.szs (Itm.trees (V.itms l)) <= V.szs l
 | [] => by simp only [V.itms, Itm.trees, V.szs]; exact Nat.le_refl _
 | v :: l => by
  have h1 := E3 v
  have h2 := rn l
  simp only [V.itms, Itm.trees, V.szs]
  omega
end
variable {E : Env} {gl : List GRow} {inf : Nat -> TypeInfo} {c0 c1 c2 : Cfg} {fuel : Nat}
end Go.AM.PV
namespace Go.AM.PV
open Go Go.AM Go.AM.SX Go.Proofs
noncomputable def E1 : Env := { jc Tryz.prog with ng := 3, known := k10 :: (n7.map k25 ++ wds.map eG), xf := [64, 145], xt := xtU }
noncomputable def bH (e : Nat) : TypeInfo := match E1.inf e with
 | some i => i
 | none => default
def cf0 : Cfg := { inl := [], unr := [] }
def cf1 : Cfg := { inl := [168, 180, 190, 155], unr := [] }
def cf2 : Cfg := { inl := [46], unr := [] }
set_option maxRecDepth 1000000
set_option maxHeartbeats 0
theorem E4 : aC E1 cf0 2000 16 1 = some t16 := by kernel_rfl
theorem E5 : aC E1 cf0 2000 21 1 = some t21 := by kernel_rfl
theorem E6 : aC E1 cf0 2000 24 1 = some t24 := by kernel_rfl
theorem E7 : aC E1 cf0 2000 33 3 = some t33 := by kernel_rfl
theorem E8 : aC E1 cf0 2000 37 2 = some t37 := by kernel_rfl
theorem E9 : aC E1 cf0 2000 39 3 = some t39 := by kernel_rfl
theorem Ea : aC E1 cf0 2000 56 1 = some t56 := by kernel_rfl
theorem Eb : aC E1 cf0 2000 57 1 = some t57 := by kernel_rfl
theorem Ec : aC E1 cf0 2000 62 2 = some t62 := by kernel_rfl
theorem Ed : aC E1 cf0 2000 65 3 = some t65 := by kernel_rfl
theorem Ee : aC E1 cf0 2000 67 2 = some t67 := by kernel_rfl
theorem Ef : aC E1 cf0 2000 95 1 = some (t95 bH) := by kernel_rfl
theorem Eg : aC E1 cf0 2000 96 1 = some t96 := by kernel_rfl
theorem Eh : aC E1 cf0 2000 97 1 = some t97 := by kernel_rfl
theorem Ei : aC E1 cf0 2000 102 1 = some t102 := by kernel_rfl
theorem Ej : aC E1 cf0 2000 105 2 = some t105 := by kernel_rfl
theorem Ek : aC E1 cf0 2000 124 1 = some t124 := by kernel_rfl
theorem El : aC E1 cf0 2000 128 1 = some t128 := by kernel_rfl
theorem Em : aC E1 cf0 2000 130 1 = some t130 := by kernel_rfl
theorem Eo : aC E1 cf0 2000 133 1 = some t133 := by kernel_rfl
theorem Ep : aC E1 cf0 2000 134 1 = some t134 := by kernel_rfl
theorem Er : aC E1 cf0 2000 146 1 = some t146 := by kernel_rfl
theorem Es : aC E1 cf0 2000 148 1 = some t148 := by kernel_rfl
theorem Et : aC E1 cf0 2000 13 2 = some (t13 bH) := by kernel_rfl
theorem Eu : aC E1 cf0 2000 26 2 = some t26 := by kernel_rfl
theorem Ev : aC E1 cf0 2000 28 1 = some (t28 bH) := by kernel_rfl
theorem Ew : aC E1 cf0 2000 41 2 = some t41 := by kernel_rfl
theorem Ex : aC E1 cf0 2000 42 1 = some t42 := by kernel_rfl
theorem Ey : aC E1 cf0 2000 43 2 = some t43 := by kernel_rfl
theorem Ez : aC E1 cf0 2000 72 1 = some t72 := by kernel_rfl
theorem FA : aC E1 cf0 2000 8 1 = some t8 := by kernel_rfl
theorem FB : aC E1 cf0 2000 15 2 = some t15 := by kernel_rfl
theorem FC : aC E1 cf0 2000 18 2 = some t18 := by kernel_rfl
theorem FD : aC E1 cf0 2000 32 2 = some t32 := by kernel_rfl
theorem FE : aC E1 cf1 2000 153 2 = some t153 := by kernel_rfl
theorem FF : aC E1 cf1 2000 157 1 = some t157 := by kernel_rfl
theorem FG : aC E1 cf1 2000 191 1 = some t191 := by kernel_rfl
theorem FH : aC E1 cf2 2000 27 1 = some (t27 bH) := by kernel_rfl
theorem FI : aC E1 cf0 2000 19 1 = some t19 := by kernel_rfl
theorem FJ : aC E1 cf0 2000 12 1 = some (t12 bH) := by kernel_rfl
theorem FK : aC E1 cf0 2000 58 1 = some t58 := by kernel_rfl
theorem FL : aC E1 cf0 2000 34 1 = some (t34 bH) := by kernel_rfl
theorem FM : aC E1 cf0 2000 20 1 = some t20 := by kernel_rfl
theorem FN : aC E1 cf0 2000 11 1 = some (t11 bH) := by kernel_rfl
theorem FO : aC E1 cf0 2000 59 1 = some t59 := by kernel_rfl
theorem FP : aC E1 cf0 2000 35 1 = some (t35 bH) := by kernel_rfl
theorem FQ : (bH 151).size = 4 := by kernel_rfl
theorem FR : (bH 151).bytes = 32 := by kernel_rfl
theorem rp : (bH 41).size = 1 := by kernel_rfl
theorem rq : (bH 41).bytes = 16 := by kernel_rfl
theorem FS : (bH 100).size = 1 := by kernel_rfl
theorem FT : (bH 100).bytes = 16 := by kernel_rfl
theorem FU : (bH 35).size = 4 := by kernel_rfl
theorem FV : (bH 35).bytes = 56 := by kernel_rfl
end Go.AM.PV
namespace Go.AM.PV
open Go Go.AM Go.AM.SX Go.Proofs
set_option maxRecDepth 1000000
theorem mq : Tryz.prog.funcs.all (fun g => !(g.name == "runtime.NumGoroutine")) = true := by kernel_rfl
theorem mw : Tryz.prog.follows .mixedOrders = true := by kernel_rfl
theorem my : Tryz.prog.funcs.all (fun g => !(eJ.contains g.name) || (Extern.allNextRows.lookup g.origin).isNone) = true := by kernel_rfl
section
variable (nm : Nm)
theorem ru : EnvOk E00 Tryz.prog nm := (oW Tryz.prog [] (fun _ h => by cases h) mq mw (oV _ my)).ng 0
theorem ok0 : EnvOk E0 Tryz.prog nm := (oW Tryz.prog [] (fun _ h => by cases h) mq mw (oV _ my)).ng 1
theorem ry : KnownOk Tryz.prog nm kF := iH (ok0 nm) (Nat.le_refl 1) Of
theorem okK : EnvOk EK Tryz.prog nm := (ok0 nm).knows _ fun k hk => by
 rcases List.mem_cons.1 hk with rfl | hk
 ·exact ry nm
 ·exact iH (ru nm) (Nat.zero_le _) fun f => List.all_eq_true.1 (tD f) k hk
theorem FW : EnvOk EKs Tryz.prog nm := (ok0 nm).knows _ fun k hk => by
 rcases List.mem_cons.1 hk with rfl | hk
 ·exact tE nm (by decide) (by decide)
 rcases List.mem_cons.1 hk with rfl | hk
 ·exact tE nm (by decide) (by decide)
 rcases List.mem_cons.1 hk with rfl | hk
 ·exact ry nm
 ·exact iH (ru nm) (Nat.zero_le _) fun f => List.all_eq_true.1 (tD f) k hk
theorem FX (f : Nat -> TypeId) : (wds.map eG).all (ez EKs f) = true := by
 unfold wds
 rw [List.map_append, List.map_append, List.all_append, List.all_append, Oi, Oj, Ok]
 rfl
theorem mz : ∀ k, k ∈ k10 :: (n7.map k25 ++ wds.map eG) -> KnownOk Tryz.prog nm k := by
 intro k hk
 rcases List.mem_cons.1 hk with rfl | hk
 ·exact iH (okK nm) (Nat.le_refl 1) Og
 rcases List.mem_append.1 hk with hk | hk
 rotate_left
 ·refine iH (FW nm) ?_ fun f => List.all_eq_true.1 (FX f) k hk
  obtain ⟨w, _, rfl⟩ := List.mem_map.1 hk
  exact Nat.le_refl 1
 ·refine iH (okK nm) ?_ fun f => List.all_eq_true.1 (Oh f) k hk
  obtain ⟨w, _, rfl⟩ := List.mem_map.1 hk
  exact Nat.le_refl 1
theorem ok1 : EnvOk E1 Tryz.prog nm := (((oW Tryz.prog [] (fun _ h => by cases h) mq mw (oV _ my)).ng 3).knows _ (mz nm)).xts [64, 145] xtU (EJ nm)
end
theorem hE1 : SxEnv E1 := SxEnv.of (ok1 .empty) rfl
def glK : List GRow := [asc, dz, eA]
theorem nA {f : FuncId} {vs : List Value} : ∀ {ks : List Known}, (ks.all fun k => !Nat.beq k.f f) = true -> cS f vs ks = none
 | [], _ => rfl
 | k :: ks, h => by
  simp only [List.all_cons, Bool.and_eq_true, Bool.not_eq_true'] at h
  show (if Nat.beq k.f f && gU k.args vs then some k else cS f vs ks) = none
  rw [h.1, Bool.false_and, if_neg (by simp)]
  exact nA h.2
theorem FY : ConvT E1 bH cf0 2000 :=
 { t19 := FI, t12 := FJ, t58 := FK, t34 := FL, t20 := FM, t11 := FN, t59 := FO, t35 := FP, val1 := rp, val2 := rq, itm1 := FS, itm2 := FT, v1 := FU, v2 := FV }
theorem FZ : Knd E1 glK bH cf0 cf1 cf2 2000 :=
 { hE := hE1, hx := rfl, hxt := rfl, hk1 := fun s => nA (by kernel_rfl), hk2 := fun s => nA (by kernel_rfl), g1 := by simp [glK], g2 := by simp [glK], hn := Nat.le_refl 3, i1 := FQ, i2 := FR,
   h16 := E4, h21 := E5, h24 := E6, h33 := E7, h37 := E8, h39 := E9, h56 := Ea, h57 := Eb, h62 := Ec, h65 := Ed, h67 := Ee, h95 := Ef, h96 := Eg, h97 := Eh, h102 := Ei, h105 := Ej,
   h124 := Ek, h128 := El, h130 := Em, h133 := Eo, h134 := Ep, h146 := Er, h148 := Es, h153 := FE, h157 := FF, h191 := FG,
   j1 := rp, j2 := rq, h13 := Et, h26 := Eu, h27 := FH, h28 := Ev, h41 := Ew, h42 := Ex, h43 := Ey, h72 := Ez,
   conv := FY, h8 := FA, h15 := FB, h18 := FC, h32 := FD,
   awake := PR.known (k := k10) (show knw E1 10 [] = some k10 from rfl) (fun r hr => by
     simp only [k10, List.mem_cons, List.not_mem_nil, or_false] at hr
     subst hr
     exact ⟨by simp [glK], by show 0 < 3; omega⟩) rfl [],
   want := fun w hw => by
     simp only [rh, List.mem_cons, List.not_mem_nil, or_false] at hw
     have hl : ∀ (l : List UInt8) (r : GRow), r ∈ (k25 l).looks -> r ∈ glK /\ r.g < E1.ng := fun l r hr => by
       simp only [k25, List.mem_cons, List.not_mem_nil, or_false] at hr
       subst hr
       exact ⟨by simp [glK], by show 0 < 3; omega⟩
     rcases hw with rfl | rfl | rfl | rfl | rfl | rfl <;> exact PR.known (k := k25 _) (show knw E1 25 [bs _] = some (k25 _) from rfl) (hl _) rfl [] }
end Go.AM.PV
namespace Go.Proofs.YtilbjefgojocaaaGreatDoor
open Go Go.AM Go.AM.SX Go.AM.PV
set_option maxRecDepth 1000000
section
variable {H : Type}
theorem F0 (d : DataW H) : 1 <= Rows.uptoBulk d := by
 cases d with
 | lit l => cases l <;> simp [Rows.uptoBulk]
 | nil => simp [Rows.uptoBulk]
 | ptr d => simp [Rows.uptoBulk]
 | slice elems spare => simp [Rows.uptoBulk]
 | agg parts => simp [Rows.uptoBulk]
 | iface t d => simp [Rows.uptoBulk]
 | map entries => simp [Rows.uptoBulk]
 | held h => simp [Rows.uptoBulk]
theorem rz {n : Nat} (ih : ∀ (d : DataW H) (ps : List P), Rows.uptoBulk d <= n -> Rd Tryz.prog 35 d ps -> ∃ v : V, ps = v.p /\ v.sz <= Rows.uptoBulk d) :
  ∀ (ds : List (DataW H)) (ps : List P), Rows.uptoBulkAll ds <= n -> RdL Tryz.prog 35 ds ps -> ∃ l : List V, ps = V.ps l /\ ds.length = l.length /\ V.szs l <= Rows.uptoBulkAll ds
 | [], ps, _, h => by
  cases h
  exact ⟨[], rfl, rfl, Nat.zero_le _⟩
 | d :: ds, ps, hn, h => by
  simp only [Rows.uptoBulkAll] at hn
  cases h with
  | cons _ _ _ p ps h1 h2 =>
   obtain ⟨v, rfl, hv⟩ := ih d p (by omega) h1
   obtain ⟨l, rfl, hl, hs⟩ := rz ih ds ps (by omega) h2
   refine ⟨v :: l, rfl, by simp [hl], ?_⟩
   simp only [V.szs, Rows.uptoBulkAll]
   omega
theorem sA : ∃ fs : Array Field, Tryz.prog.underlying 35 = some (.struct fs) /\ ∃ a b c d : Field, fs.toList = [a, b, c, d] /\ Tryz.prog.underlying a.type = some (.int .i64) /\ Tryz.prog.underlying b.type = some (.int .i64) /\ Tryz.prog.underlying c.type = some .string /\ Tryz.prog.underlying d.type = some (.slice 35) :=
 ⟨_, Tryz.underlying35, _, _, _, _, rfl, by kernel_rfl, by kernel_rfl, by kernel_rfl, by kernel_rfl⟩
theorem c35 : Tryz.prog.cellsOf 35 = 4 := by kernel_rfl
theorem rdV : ∀ (n : Nat) (d : DataW H) (ps : List P), Rows.uptoBulk d <= n -> Rd Tryz.prog 35 d ps -> ∃ v : V, ps = v.p /\ v.sz <= Rows.uptoBulk d
 | 0, d, ps, hn, _ => by
  have := F0 d
  omega
 | n + 1, d, ps, hn, h => by
  obtain ⟨fs, hu, fa, fb, fc, fd, hfs, ua, ub, uc, ud⟩ := sA
  obtain ⟨ds, rfl, hF⟩ := C1 hu h
  rw [hfs] at hF
  obtain ⟨d1, ds, p1, ps, rfl, rfl, h1, hF⟩ := kN hF
  obtain ⟨d2, ds, p2, ps, rfl, rfl, h2, hF⟩ := kN hF
  obtain ⟨d3, ds, p3, ps, rfl, rfl, h3, hF⟩ := kN hF
  obtain ⟨d4, ds, p4, ps, rfl, rfl, h4, hF⟩ := kN hF
  obtain ⟨rfl, rfl⟩ := C2 hF
  obtain ⟨k, rfl, rfl, _⟩ := rU ua h1
  obtain ⟨m, rfl, rfl, _⟩ := rU ub h2
  obtain ⟨s, rfl, rfl, _⟩ := CZ uc h3
  simp only [Rows.uptoBulk, Rows.uptoBulkAll] at hn ⊢
  have hs : s.data.toList.length = s.size := by rw [Array.length_toList]; rfl
  rcases C0 ud h4 with ⟨rfl, rfl⟩ | ⟨es, rest, qs, rfl, rfl, hl⟩
  ·refine ⟨.mk k m s [], ?_, ?_⟩
   ·rw [c35]; rfl
   ·simp only [V.sz, V.szs, Rows.uptoBulk]; omega
  ·simp only [Rows.uptoBulk] at hn ⊢
   obtain ⟨l, rfl, hl1, hl2⟩ := rz (n := n) (fun d ps h1 h2 => rdV n d ps h1 h2) es qs (by omega) hl
   refine ⟨.mk k m s l, ?_, ?_⟩
   ·rw [c35, hl1]; rfl
   ·simp only [V.sz]; omega
theorem nB {d : DataW H} {p : P} (h : RdV Tryz.prog 35 d p) : ∃ v : V, p = .agg v.p /\ v.sz <= Rows.uptoBulk d := by
 obtain ⟨fs, hu, _⟩ := sA
 obtain ⟨ps, rfl, h1⟩ := C4 hu h
 obtain ⟨v, rfl, hv⟩ := rdV _ d ps (Nat.le_refl _) h1
 exact ⟨v, rfl, hv⟩
end
def tsV : List TypeId := [35, 2, 3, 4, 9, 22]
theorem F3 : jL Tryz.prog tsV = true := by kernel_rfl
theorem F4 : kM glK = true := by kernel_rfl
theorem F5 : glK.all (fun r => r.cells.all aL) = true := by kernel_rfl
theorem F6 : ∀ g : Nat -> TypeId, glK.all (fun r => bQ (ak (dW g glK)) r) = true := by
 intro g
 kernel_rfl
def laidB : List (String × DataW Unit) := Rows.primKindsRow.laid
theorem F7 : (laidB.all fun x => x.2.handleName?.isNone) = true := by kernel_rfl
theorem F8 : Tryz.prog.globalNamed "strings.asciiSpace" = some 0 := by kernel_rfl
theorem F9 : Tryz.prog.globalNamed "unicode/utf8.first" = some 1 := by kernel_rfl
theorem Fa : Tryz.prog.globalNamed "unicode/utf8.acceptRanges" = some 2 := by kernel_rfl
theorem Fb : dx Tryz.prog 3 (((Tryz.prog.globals[0]?).map (·.type)).getD 0) (Rows.laid_strings_asciiSpace (H := Unit)) = some asc.cells := by kernel_rfl
theorem Fc : dx Tryz.prog 3 (((Tryz.prog.globals[1]?).map (·.type)).getD 0) Rows.laid_unicode_utf8_first = some dz.cells := by kernel_rfl
theorem Fe : dx Tryz.prog 3 (((Tryz.prog.globals[2]?).map (·.type)).getD 0) (Rows.laid_unicode_utf8_acceptRanges (H := Unit)) = some eA.cells := by kernel_rfl
theorem gT (g : Nat) (h : ((Tryz.prog.globals[g]?).map (·.type)).isSome = true) : (Tryz.prog.globals[g]?).map (·.type) = some (((Tryz.prog.globals[g]?).map (·.type)).getD 0) := by
 cases hh : (Tryz.prog.globals[g]?).map (·.type) with
 | none => rw [hh] at h; cases h
 | some x => rfl
theorem Ff {W : World} (h : laidMetH Tryz.prog laidB W) : ∀ r, r ∈ glK -> ∃ t fz, W.heap[r.g]? = some (.cells r.cells.toArray t fz) := by
 rw [MakeChecks.laidMetH_plain _ _ _ F7] at h
 intro r hr
 simp only [glK, List.mem_cons, List.not_mem_nil, or_false] at hr
 rcases hr with rfl | rfl | rfl
 ·exact mf h (x := "strings.asciiSpace") (by simp [laidB, Rows.primKindsRow]) F8 (gT 0 (by kernel_rfl)) Fb
 ·exact mf h (x := "unicode/utf8.first") (by simp [laidB, Rows.primKindsRow]) F9 (gT 1 (by kernel_rfl)) Fc
 ·exact mf h (x := "unicode/utf8.acceptRanges") (by simp [laidB, Rows.primKindsRow]) Fa (gT 2 (by kernel_rfl)) Fe
theorem Fg : laidOutB Tryz.prog = true := by kernel_rfl
theorem Fh : mapsRowed Tryz.prog = true := by kernel_rfl
theorem Fi : ((List.range Tryz.prog.types.size).all fun t => match Tryz.prog.underlying t with | some (.slice e) => decide (0 < Tryz.prog.cellsOf e) | _ => true) = true := by kernel_rfl
theorem Fj : ownKnob Tryz.prog.godebug = none := by kernel_rfl
end Go.Proofs.YtilbjefgojocaaaGreatDoor
namespace Go.AM.PV
open Go Go.AM Go.AM.SX
attribute [local irreducible] pz aY
variable {E : Env} {gl : List GRow} {inf : Nat -> TypeInfo} {c0 c1 c2 : Cfg} {fuel : Nat}
structure Cln (E : Env) (gl : List GRow) (inf : Nat -> TypeInfo) (c0 c1 c2 : Cfg) (fuel : Nat) : Prop extends Knd E gl inf c0 c1 c2 fuel where
 h47 : aC E c0 fuel 47 1 = some (t47 inf)
theorem kO {l : List Val} {i : Nat} {v : Val} (h : l[i]? = some v) : (Val.ps l)[i]? = some v.p := by
 rw [Val.ps_map, List.getElem?_map, h]; rfl
theorem Fk {l : List Itm} {i : Nat} {v : Itm} (h : l[i]? = some v) : (Itm.ps l)[i]? = some v.p := by
 rw [Itm.ps_map, List.getElem?_map, h]; rfl
theorem sB {l : List Val} {i : Nat} {v : Val} (h : l[i]? = some v) : Val.ps (l.take (i + 1)) = Val.ps (l.take i) ++ [v.p] := by
 rw [gy h, Val.ps_map, Val.ps_map, List.map_append]; rfl
theorem Fl {l : List Itm} {i : Nat} {v : Itm} (h : l[i]? = some v) : Itm.ps (l.take (i + 1)) = Itm.ps (l.take i) ++ [v.p] := by
 rw [gy h, Itm.ps_map, Itm.ps_map, List.map_append]; rfl
theorem Fm (H : Cln E gl inf c0 c1 c2 fuel) {l : List Val} (hlen : l.length <= 1048576) (h28 : ∀ v, v ∈ l -> PR E gl 28 [v.p] [] v.p []) : PR E gl 28 [(Val.list l).p] [] (Val.list l).p [] := by
 refine fnZ H.hE (cfg := c0) (fuel := fuel) H.h28 (by kernel_rfl) ?_
 unfold t28
 simp only [Val.p]
 refine aA ?_
 refine ah (fun κ vs ν => ν = [.cells [.sl 1 l.length (Val.ps l)]] /\ ∃ i : Nat, κ = l.length - i /\ i <= l.length /\ vs = [.ow dE 1 i (Val.ps (l.take i)), I i]) rfl l.length
  [.ow dE 1 0 [], I (0 : Nat)] (.cons _ _ _ _ (.nilow _ _) (.cons _ _ _ _ (.refl _) .nil)) ⟨rfl, 0, by omega, by omega, rfl⟩ ?_
 rintro κ vs ν ⟨rfl, i, rfl, hi, rfl⟩
 dsimp only [go_sem]
 refine aA ?_
 refine bF rfl (fun hlt => ?_) (fun hge => ?_)
 ·have hlt : i < l.length := by omega
  obtain ⟨v, hv⟩ : ∃ v, l[i]? = some v := ⟨l[i], List.getElem?_eq_getElem hlt⟩
  refine ax rfl hlt ?_
  dsimp only [go_sem]
  refine bG rfl (by rw [Nat.mul_one]; exact kO hv) ?_
  dsimp only [go_sem]
  refine aI (by show some [fz v.p] = some [v.p]; rw [bL]) ((h28 v (List.mem_of_getElem? hv)).frame (by simp only [okm.okL, dV, Bool.and_self]) _) (Nat.le_refl _) ?_
  dsimp only [go_sem]
  refine kI rfl (bL _) (iv _) (gi _) ?_
  dsimp only [go_sem]
  refine cW rfl rfl rfl H.j1 rfl rfl rfl rfl (by rw [H.j2]; omega) (by omega) ?_
  dsimp only [go_sem]
  repeat (refine aA ?_)
  refine aF rfl ?_
  dsimp only [go_sem]
  refine ⟨l.length - (i + 1), by omega, rfl, i + 1, rfl, by omega, ?_⟩
  rw [sB hv]
  rfl
 ·obtain rfl : i = l.length := by omega
  refine aF rfl ?_
  dsimp only [go_sem]
  refine aA ?_
  rw [List.take_length]
  refine aE 0 rfl (Nat.zero_le _) ?_ rfl ⟨rfl, rfl⟩
  show okm.okL 0 [(Val.list l).p] = true
  simp only [okm.okL, dV, Bool.and_self]
theorem jD (H : Cln E gl inf c0 c1 c2 fuel) {v : Val} (h1 : ∀ l, v ≠ .list l) (h2 : ∀ l, v ≠ .quot l) : PR E gl 28 [v.p] [] v.p [] := by
 refine fnZ H.hE (cfg := c0) (fuel := fuel) H.h28 (by kernel_rfl) ?_
 unfold t28
 cases v <;> first
  | exact (h1 _ rfl).elim
  | exact (h2 _ rfl).elim
  | (simp only [Val.p]; refine aA ?_; exact aE 0 rfl (Nat.zero_le _) rfl rfl ⟨rfl, rfl⟩)
theorem Fo (H : Cln E gl inf c0 c1 c2 fuel) {l : List Itm} (hlen : l.length <= 1048576) (h28 : ∀ v, Itm.push v ∈ l -> PR E gl 28 [v.p] [] v.p []) : PR E gl 47 [.sl 1 l.length (Itm.ps l)] [] (.ow dF 1 l.length (Itm.ps l)) [] := by
 refine fnZ H.hE (cfg := c0) (fuel := fuel) H.h47 (by kernel_rfl) ?_
 unfold t47
 refine aA ?_
 refine ah (fun κ vs ν => ν = [] /\ ∃ i : Nat, κ = l.length - i /\ i <= l.length /\ vs = [.ow dF 1 i (Itm.ps (l.take i)), I i]) rfl l.length
  [.ow dF 1 0 [], I (0 : Nat)] (.cons _ _ _ _ (.nilow _ _) (.cons _ _ _ _ (.refl _) .nil)) ⟨rfl, 0, by omega, by omega, rfl⟩ ?_
 rintro κ vs ν ⟨rfl, i, rfl, hi, rfl⟩
 dsimp only [go_sem]
 refine aA ?_
 refine bF rfl (fun hlt => ?_) (fun hge => ?_)
 ·have hlt : i < l.length := by omega
  obtain ⟨v, hv⟩ : ∃ v, l[i]? = some v := ⟨l[i], List.getElem?_eq_getElem hlt⟩
  have hs := Fl hv
  refine ax rfl hlt ?_
  dsimp only [go_sem]
  refine bG rfl (by rw [Nat.mul_one]; exact Fk hv) ?_
  dsimp only [go_sem]
  cases v with
  | nil =>
   simp only [Itm.p] at hs ⊢
   repeat (refine aA ?_)
   refine cW rfl rfl rfl H.conv.itm1 rfl rfl rfl rfl (by rw [H.conv.itm2]; omega) (by omega) ?_
   dsimp only [go_sem]
   repeat (refine aA ?_)
   refine aE 0 rfl (Nat.zero_le _) ?_ rfl ⟨l.length - (i + 1), by omega, rfl, i + 1, rfl, by omega, ?_⟩
   ·show okm.okL 0 [.ow dF 1 (i + 1) (Itm.ps (l.take i) ++ [_]), .c (.int .i64 ((i : Int) + 1))] = true
    rw [<- hs]
    simp only [okm.okL, okm, du, Bool.and_self]
   ·rw [hs]
    rfl
  | call s =>
   simp only [Itm.p] at hs ⊢
   repeat (refine aA ?_)
   refine cW rfl rfl rfl H.conv.itm1 rfl rfl rfl rfl (by rw [H.conv.itm2]; omega) (by omega) ?_
   dsimp only [go_sem]
   repeat (refine aA ?_)
   refine aE 0 rfl (Nat.zero_le _) ?_ rfl ⟨l.length - (i + 1), by omega, rfl, i + 1, rfl, by omega, ?_⟩
   ·show okm.okL 0 [.ow dF 1 (i + 1) (Itm.ps (l.take i) ++ [_]), .c (.int .i64 ((i : Int) + 1))] = true
    rw [<- hs]
    simp only [okm.okL, okm, du, Bool.and_self]
   ·rw [hs]
    rfl
  | push w =>
   simp only [Itm.p] at hs ⊢
   refine aA ?_
   refine kJ rfl rfl rfl (by show (cL w.p && true) = true; rw [gi]; rfl) (by decide) ?_
   dsimp only [go_sem]
   refine aA ?_
   refine aI (by show some [fz (fz w.p)] = some [w.p]; rw [bL, bL]) ((h28 w (List.mem_of_getElem? hv)).frame (by simp only [okm.okL, dV, Bool.and_self]) _) (Nat.le_refl _) ?_
   dsimp only [go_sem]
   refine qG rfl (bL _) (iv _) ?_
   dsimp only [go_sem]
   refine aA ?_
   refine cW rfl rfl rfl H.conv.itm1 rfl rfl rfl rfl (by rw [H.conv.itm2]; omega) (by omega) ?_
   dsimp only [go_sem]
   repeat (refine aA ?_)
   refine aE 0 rfl (Nat.zero_le _) ?_ rfl ⟨l.length - (i + 1), by omega, rfl, i + 1, rfl, by omega, ?_⟩
   ·show okm.okL 0 [.ow dF 1 (i + 1) (Itm.ps (l.take i) ++ [_]), .c (.int .i64 ((i : Int) + 1))] = true
    rw [<- hs]
    simp only [okm.okL, okm, du, Bool.and_self]
   ·rw [hs]
    rfl
 ·obtain rfl : i = l.length := by omega
  refine aF rfl ?_
  dsimp only [go_sem]
  refine aA ?_
  rw [List.take_length]
  exact aE 0 rfl (Nat.zero_le _) (by show okm.okL 0 [.ow dF 1 l.length (Itm.ps l)] = true; simp only [okm.okL, okm, du, Bool.and_self]) rfl ⟨rfl, rfl⟩
theorem Fp (H : Cln E gl inf c0 c1 c2 fuel) {l : List Itm} (hlen : l.length <= 1048576) (h28 : ∀ v, Itm.push v ∈ l -> PR E gl 28 [v.p] [] v.p []) : PR E gl 28 [(Val.quot l).p] [] (Val.quot l).p [] := by
 have h47 := (Fo H hlen h28).frame (by simp only [okm.okL, okm, du, Bool.and_self]) [.cells [.sl 1 l.length (Itm.ps l)]]
 refine fnZ H.hE (cfg := c0) (fuel := fuel) H.h28 (by kernel_rfl) ?_
 unfold t28
 simp only [Val.p]
 repeat (refine aA ?_)
 refine aE 0 rfl (Nat.zero_le _) ?_ rfl ⟨rfl, rfl⟩
 show okm.okL 0 [(Val.quot l).p] = true
 simp only [okm.okL, dV, Bool.and_self]
mutual
theorem sC (H : Cln E gl inf c0 c1 c2 fuel) : ∀ v : Val, v.small 1048576 -> PR E gl 28 [v.p] [] v.p []
 | .list l, h => by
  simp only [Val.small] at h
  exact Fm H h.1 (nC H l h.2)
 | .quot l, h => by
  simp only [Val.small] at h
  exact Fp H h.1 (sD H l h.2)
 | .nil, _ => jD H (fun _ e => by cases e) (fun _ e => by cases e)
 | .int _, _ => jD H (fun _ e => by cases e) (fun _ e => by cases e)
 | .str _, _ => jD H (fun _ e => by cases e) (fun _ e => by cases e)
 | .bool _, _ => jD H (fun _ e => by cases e) (fun _ e => by cases e)
 | .box _, _ => jD H (fun _ e => by cases e) (fun _ e => by cases e)
theorem nC (H : Cln E gl inf c0 c1 c2 fuel) : ∀ l : List Val, Val.smalls 1048576 l -> ∀ v, v ∈ l -> PR E gl 28 [v.p] [] v.p []
 | [], _, v, hm => by cases hm
 | w :: l, h, v, hm => by
  simp only [Val.smalls] at h
  have hw := sC H w h.1
  rcases List.mem_cons.1 hm with rfl | hm
  ·exact hw
  ·exact nC H l h.2 v hm
theorem Fq (H : Cln E gl inf c0 c1 c2 fuel) : ∀ v : Itm, v.small 1048576 -> ∀ w, v = .push w -> PR E gl 28 [w.p] [] w.p []
 | .push v, h, w, e => by
  simp only [Itm.small] at h
  cases e
  exact sC H v h
 | .nil, _, w, e => by cases e
 | .call _, _, w, e => by cases e
theorem sD (H : Cln E gl inf c0 c1 c2 fuel) : ∀ l : List Itm, Itm.smalls 1048576 l -> ∀ v, Itm.push v ∈ l -> PR E gl 28 [v.p] [] v.p []
 | [], _, v, hm => by cases hm
 | w :: l, h, v, hm => by
  simp only [Itm.smalls] at h
  have hw := Fq H w h.1
  rcases List.mem_cons.1 hm with e | hm
  ·exact hw v e.symm
  ·exact sD H l h.2 v hm
end
theorem Fs {E : Env} {gl : List GRow} {a b : N} {m : Nat} {rv : Rv} {d : Bool} {hs : List Nat} {ps : List P} {μ : Mu} {Q : aU} {x : X} {t : Bool} (h : denF ps [x] = some [.c (.bool ((t == t) != true))]) (hb : pz E gl b m rv d hs ps μ Q) : pz E gl (.br x a b) m rv d hs ps μ Q :=
 aG h (fun h => by cases t <;> cases h) fun _ => hb
theorem Ft {E : Env} {gl : List GRow} {a b : N} {m : Nat} {rv : Rv} {d : Bool} {hs : List Nat} {ps : List P} {μ : Mu} {Q : aU} {x : X} {s : ByteArray} (h : denF ps [x] = some [.c (.bool (!(s.data.toList == s.data.toList)))]) (hb : pz E gl b m rv d hs ps μ Q) : pz E gl (.br x a b) m rv d hs ps μ Q :=
 aG h (fun h => by simp at h) fun _ => hb
theorem sE (H : Cln E gl inf c0 c1 c2 fuel) {l : List V} (hlen : l.length <= 1048576) (h32 : ∀ v, v ∈ l -> PR E gl 32 [.agg v.p, .agg v.p] [] (Bo true) []) : PR E gl 15 [.sl 4 l.length (V.ps l), .sl 4 l.length (V.ps l)] [] (Bo true) [] := by
 refine fnZ H.hE (cfg := c0) (fuel := fuel) H.h15 (by kernel_rfl) ?_
 unfold t15
 refine aA ?_
 refine ah (fun κ vs ν => ν = [] /\ ∃ i : Nat, κ = l.length - i /\ i <= l.length /\ vs = [Bo false, I i]) rfl l.length _ (LeL.refl _) ⟨rfl, 0, by omega, by omega, rfl⟩ ?_
 rintro κ vs ν ⟨rfl, i, rfl, hi, rfl⟩
 dsimp only [go_sem]
 refine aA ?_
 refine bF rfl (fun hlt => ?_) (fun hge => ?_)
 ·have hlt : i < l.length := by omega
  obtain ⟨v, hv⟩ : ∃ v, l[i]? = some v := ⟨l[i], List.getElem?_eq_getElem hlt⟩
  have h1 := h32 v (List.mem_of_getElem? hv)
  have h2 := V.ps_at l i v hv
  refine aA ?_
  refine gg rfl (by rw [V.ps_length]; omega) ?_
  rw [h2]
  dsimp only [go_sem]
  refine ax rfl hlt ?_
  dsimp only [go_sem]
  refine gg rfl (by rw [V.ps_length]; omega) ?_
  rw [h2]
  dsimp only [go_sem]
  clear h32 h2 hv
  obtain ⟨k, n, s, m⟩ := v
  simp only [V.p] at h1 ⊢
  repeat (refine aA ?_)
  refine aF rfl ?_
  dsimp only [go_sem]
  exact ⟨l.length - (i + 1), by omega, rfl, i + 1, rfl, by omega, rfl⟩
 ·obtain rfl : i = l.length := by omega
  refine aF rfl ?_
  dsimp only [go_sem]
  repeat (refine aA ?_)
  exact aE 0 rfl (Nat.zero_le _) rfl rfl ⟨rfl, rfl⟩
theorem Fu (H : Cln E gl inf c0 c1 c2 fuel) {k n : Int} {s : ByteArray} {l : List V} (h15 : PR E gl 15 [.sl 4 l.length (V.ps l), .sl 4 l.length (V.ps l)] [] (Bo true) []) : PR E gl 32 [.agg (V.mk k n s l).p, .agg (V.mk k n s l).p] [] (Bo true) [] := by
 have h15 := h15.frame (by simp only [okm.okL, okm, dv, Bool.and_self]) [.cells (V.mk k n s l).p, .cells (V.mk k n s l).p]
 refine fnZ H.hE (cfg := c0) (fuel := fuel) H.h32 (by kernel_rfl) ?_
 unfold t32
 simp only [V.p] at h15 ⊢
 refine aA ?_
 repeat' (first | refine Fs rfl ?_ | refine Ft rfl ?_ | refine aA ?_ | refine bF rfl (fun h => ?_) (fun h => ?_))
 all_goals first
  | exact aE 0 rfl (Nat.zero_le _) rfl rfl ⟨rfl, rfl⟩
mutual
theorem Fv (H : Cln E gl inf c0 c1 c2 fuel) : ∀ v : V, v.small 1048576 -> PR E gl 32 [.agg v.p, .agg v.p] [] (Bo true) []
 | .mk k n s l, h => by
  simp only [V.small] at h
  exact Fu H (sE H h.1 (nD H l h.2.1))
theorem nD (H : Cln E gl inf c0 c1 c2 fuel) : ∀ l : List V, V.smalls 1048576 l -> ∀ v, v ∈ l -> PR E gl 32 [.agg v.p, .agg v.p] [] (Bo true) []
 | [], _, v, hm => by cases hm
 | w :: l, h, v, hm => by
  simp only [V.smalls] at h
  have hw := Fv H w h.1
  rcases List.mem_cons.1 hm with rfl | hm
  ·exact hw
  ·exact nD H l h.2 v hm
end
theorem Fw (H : Cln E gl inf c0 c1 c2 fuel) {l : List V} (hl : l.length <= 1048576) (h : V.smalls 1048576 l) : PR E gl 15 [.sl 4 l.length (V.ps l), .sl 4 l.length (V.ps l)] [] (Bo true) [] :=
 sE H hl (nD H l h)
end Go.AM.PV
namespace Go.AM.PV
open Go Go.AM Go.AM.SX
attribute [local irreducible] pz aY
variable {E : Env} {gl : List GRow} {inf : Nat -> TypeInfo} {c0 c1 c2 : Cfg} {fuel : Nat}
theorem kP {n : Nat} : ∀ {l : List Val}, Val.smalls n l -> ∀ v, v ∈ l -> v.small n
 | [], _, v, hm => by cases hm
 | w :: l, h, v, hm => by
  simp only [Val.smalls] at h
  rcases List.mem_cons.1 hm with rfl | hm
  ·exact h.1
  ·exact kP h.2 v hm
theorem sF (H : Cln E gl inf c0 c1 c2 fuel) {nmw : List UInt8} {l : List Val} (hl : l.length <= 1048576) (hs : Val.smalls 1048576 l) (hg : ∀ v, v ∈ l -> v.chk vsR nmR = 0) {Q : aU}
  (hk : pz E gl (sy inf) 0 none false [] [.c (bs nmw), .sl 1 l.length (Val.ps l), I l.length, I 2, .c (.slice none 0 0), I 0, I l.length] [] Q) :
  pz E gl (t13 inf) 0 none false [] [.c (bs nmw), .sl 1 l.length (Val.ps l)] [] Q := by
 unfold t13
 refine aA ?_
 refine ah (fun κ vs ν => ν = [] /\ ∃ i : Nat, κ = l.length - i /\ i <= l.length /\ vs = [.c (.slice none 0 0), I 0, I i]) rfl l.length _ (LeL.refl _) ⟨rfl, 0, by omega, by omega, rfl⟩ ?_
 rintro κ vs ν ⟨rfl, i, rfl, hi, rfl⟩
 dsimp only [go_sem]
 refine aA ?_
 refine bF rfl (fun hlt => ?_) (fun hge => ?_)
 ·have hlt : i < l.length := by omega
  obtain ⟨v, hv⟩ : ∃ v, l[i]? = some v := ⟨l[i], List.getElem?_eq_getElem hlt⟩
  have hm := List.mem_of_getElem? hv
  have hc := H.check v (kP hs v hm)
  rw [hg v hm] at hc
  refine ax rfl hlt ?_
  dsimp only [go_sem]
  refine bG rfl (by rw [Nat.mul_one]; exact kO hv) ?_
  dsimp only [go_sem]
  refine aI (by show some [fz v.p] = some [v.p]; rw [bL]) hc (Nat.le_refl _) ?_
  dsimp only [go_sem]
  repeat (refine aA ?_)
  refine aF rfl ?_
  dsimp only [go_sem]
  exact ⟨l.length - (i + 1), by omega, rfl, i + 1, rfl, by omega, rfl⟩
 ·obtain rfl : i = l.length := by omega
  refine aF rfl ?_
  dsimp only [go_sem]
  refine aA ?_
  exact hk
theorem sG {v : Val} (h : ¬ v.chk vsR nmR = 0) : v.chk vsR nmR = 1 := by
 unfold Val.chk at h ⊢
 split
 ·rename_i h1; rw [if_pos h1] at h; exact (h rfl).elim
 ·rfl
theorem Fx (H : Cln E gl inf c0 c1 c2 fuel) (nmw : List UInt8) {l : List Val} (hl : l.length <= 1048576) (hs : Val.smalls 1048576 l) {j : Nat} {u : Val} (hj : l[j]? = some u) (hu : ¬ u.chk vsR nmR = 0) (hb : ∀ (i : Nat) (v : Val), i < j -> l[i]? = some v -> v.chk vsR nmR = 0) :
  PR E gl 13 [.c (bs nmw), .sl 1 l.length (Val.ps l)] [] (.tup [.c (.slice none 0 0), I 1]) [] := by
 refine fnZ H.hE (cfg := c0) (fuel := fuel) H.h13 (by kernel_rfl) ?_
 unfold t13
 refine aA ?_
 refine ah (fun κ vs ν => ν = [] /\ ∃ i : Nat, κ = l.length - i /\ i <= j /\ vs = [.c (.slice none 0 0), I 0, I i]) rfl l.length _ (LeL.refl _) ⟨rfl, 0, by omega, by omega, rfl⟩ ?_
 rintro κ vs ν ⟨rfl, i, rfl, hi, rfl⟩
 dsimp only [go_sem]
 refine aA ?_
 refine bF rfl (fun hlt => ?_) (fun hge => ?_)
 ·have hlt : i < l.length := by omega
  obtain ⟨v, hv⟩ : ∃ v, l[i]? = some v := ⟨l[i], List.getElem?_eq_getElem hlt⟩
  have hm := List.mem_of_getElem? hv
  have hc := H.check v (kP hs v hm)
  refine ax rfl hlt ?_
  dsimp only [go_sem]
  refine bG rfl (by rw [Nat.mul_one]; exact kO hv) ?_
  dsimp only [go_sem]
  rcases Nat.lt_or_ge i j with hij | hij
  ·rw [hb i v hij hv] at hc
   refine aI (by show some [fz v.p] = some [v.p]; rw [bL]) hc (Nat.le_refl _) ?_
   dsimp only [go_sem]
   repeat (refine aA ?_)
   refine aF rfl ?_
   dsimp only [go_sem]
   exact ⟨l.length - (i + 1), by omega, rfl, i + 1, rfl, by omega, rfl⟩
  ·obtain rfl : i = j := by omega
   rw [hj] at hv
   cases hv
   rw [sG hu] at hc
   refine aI (by show some [fz u.p] = some [u.p]; rw [bL]) hc (Nat.le_refl _) ?_
   dsimp only [go_sem]
   repeat (refine aA ?_)
   refine aF rfl ?_
   dsimp only [go_sem]
   repeat (refine aA ?_)
   exact aE 0 rfl (Nat.zero_le _) rfl rfl ⟨rfl, rfl⟩
 ·have hjl : j < l.length := (List.getElem?_eq_some_iff.1 hj).1
  omega
theorem sH : ∀ {l : List Val}, (¬ ∀ v, v ∈ l -> v.chk vsR nmR = 0) -> ∃ (j : Nat) (u : Val), l[j]? = some u /\ ¬ u.chk vsR nmR = 0 /\ ∀ (i : Nat) (v : Val), i < j -> l[i]? = some v -> v.chk vsR nmR = 0
 | [], h => (h fun v hv => by cases hv).elim
 | w :: l, h => by
  by_cases hw : w.chk vsR nmR = 0
  ·obtain ⟨j, u, h1, h2, h3⟩ := sH (l := l) fun h2 => h fun v hv => by
    rcases List.mem_cons.1 hv with rfl | hv
    ·exact hw
    ·exact h2 v hv
   refine ⟨j + 1, u, by rw [List.getElem?_cons_succ]; exact h1, h2, fun i v hi hv => ?_⟩
   cases i with
   | zero => simp only [List.getElem?_cons_zero, Option.some.injEq] at hv; subst hv; exact hw
   | succ i => exact h3 i v (by omega) (by rw [List.getElem?_cons_succ] at hv; exact hv)
  ·exact ⟨0, w, rfl, hw, fun i v hi => absurd hi (by omega)⟩
theorem Fy (H : Cln E gl inf c0 c1 c2 fuel) (nmw : List UInt8) {l : List Val} (hl : l.length <= 1048576) (hs : Val.smalls 1048576 l) (hb : ¬ ∀ v, v ∈ l -> v.chk vsR nmR = 0) :
  PR E gl 13 [.c (bs nmw), .sl 1 l.length (Val.ps l)] [] (.tup [.c (.slice none 0 0), I 1]) [] := by
 obtain ⟨j, u, h1, h2, h3⟩ := sH hb
 exact Fx H nmw hl hs h1 h2 h3
theorem sI {l : List Val} {k : Nat} (hk : k <= l.length) : ((Val.ps l).drop ((l.length - k) * 1)).take ((l.length - (l.length - k)) * 1) = Val.ps (l.drop (l.length - k)) := by
 rw [Nat.mul_one, Nat.mul_one, Val.ps_map, <- List.map_drop, <- Val.ps_map]
 refine List.take_of_length_le ?_
 rw [Val.ps_map, List.length_map, List.length_drop]
 exact Nat.le_refl _
section
variable {k : N} {m : Nat} {rv : Rv} {d : Bool} {hs : List Nat} {ps : List P} {μ : Mu} {Q : aU} {xs : List X}
theorem sJ {sz n j n' : Nat} {i : Int} {l l' : List P} (h : denF ps xs = some [.sl sz n l, .c (.int .i64 i)]) (hj : i = (j : Nat)) (hi : j <= n) (hn : n - j = n') (hl : (l.drop (j * sz)).take ((n - j) * sz) = l') (hk : pz E gl k m rv d hs (ps ++ [.sl sz n' l']) μ Q) : pz E gl (.op (.subL sz true false false) xs k) m rv d hs ps μ Q := by
 subst hj hn hl
 exact mW h hi hk
theorem Fz {sz n j : Nat} {i : Int} {l l' : List P} (h : denF ps xs = some [.sl sz n l, .c (.int .i64 i)]) (hj : i = (j : Nat)) (hi : j <= n) (hl : l.take (j * sz) = l') (hk : pz E gl k m rv d hs (ps ++ [.sl sz j l']) μ Q) : pz E gl (.op (.subL sz false true false) xs k) m rv d hs ps μ Q := by
 subst hj hl
 exact wb h hi hk
end
theorem GA (l : List Val) (n : Nat) : (Val.ps l).take (n * 1) = Val.ps (l.take n) := by
 rw [Nat.mul_one, Val.ps_map, <- List.map_take, <- Val.ps_map]
theorem GB (H : Cln E gl inf c0 c1 c2 fuel) {nmw ks : List UInt8} {l : List Val} (hl : l.length <= 1048576) (hs : Val.smalls 1048576 l) (hg : ∀ v, v ∈ l -> v.chk vsR nmR = 0)
  (hwant : PR E gl 25 [.c (bs nmw)] [] (.c (.tuple #[bs ks, .bool true])) []) (hk : ks.toArray.size <= l.length) {q : P} {e : Int} (he : e ≠ 0)
  (ha : PR E gl 26 [.c (bs nmw), .sl 1 ks.toArray.size (Val.ps (l.drop (l.length - ks.toArray.size)))] [] (.tup [q, I e]) []) :
  PR E gl 13 [.c (bs nmw), .sl 1 l.length (Val.ps l)] [] (.tup [.c (.slice none 0 0), I e]) [] := by
 refine fnZ H.hE (cfg := c0) (fuel := fuel) H.h13 (by kernel_rfl) ?_
 refine sF H hl hs hg ?_
 repeat (refine aA ?_)
 refine sJ (j := l.length - ks.toArray.size) (n' := ks.toArray.size) rfl (by omega) (by omega) (by omega) (sI hk) ?_
 dsimp only [go_sem]
 repeat (refine aA ?_)
 exact aE 0 rfl (Nat.zero_le _) rfl rfl ⟨rfl, rfl⟩
theorem GC (l m : List Val) : Val.ps l ++ Val.ps m = Val.ps (l ++ m) := by
 rw [Val.ps_map, Val.ps_map, Val.ps_map, List.map_append]
theorem sK {n : Nat} : ∀ {l m : List Val}, Val.smalls n l -> Val.smalls n m -> Val.smalls n (l ++ m)
 | [], m, _, h => h
 | v :: l, m, h, k => by
  simp only [Val.smalls] at h
  simp only [List.cons_append, Val.smalls]
  exact ⟨h.1, sK h.2 k⟩
theorem smalls_of {n : Nat} : ∀ {l : List Val}, (∀ v, v ∈ l -> v.small n) -> Val.smalls n l
 | [], _ => by simp only [Val.smalls]
 | v :: l, h => by
  simp only [Val.smalls]
  exact ⟨h v (by simp), smalls_of fun w hw => h w (by simp [hw])⟩
set_option maxHeartbeats 4000000 in
theorem dX (H : Cln E gl inf c0 c1 c2 fuel) {nmw ks : List UInt8} {l : List Val} (hl : l.length <= 1048576) (hs : Val.smalls 1048576 l) (hg : ∀ v, v ∈ l -> v.chk vsR nmR = 0)
  (hwant : PR E gl 25 [.c (bs nmw)] [] (.c (.tuple #[bs ks, .bool true])) []) (hk : ks.toArray.size <= l.length) {q : P} {outs : List Val} (hq : q = .sl 1 outs.length (Val.ps outs) \/ q = .fx 1 outs.length (Val.ps outs))
  (ha : PR E gl 26 [.c (bs nmw), .sl 1 ks.toArray.size (Val.ps (l.drop (l.length - ks.toArray.size)))] [] (.tup [q, I 0]) [])
  (hol : outs.length <= 1048576) (hos : Val.smalls 1048576 outs) {L : List Val} (hL : L = l.take (l.length - ks.toArray.size) ++ outs) :
  PR E gl 13 [.c (bs nmw), .sl 1 l.length (Val.ps l)] [] (.tup [.sl 1 L.length (Val.ps L), I 0]) [] := by
 have hcl := nC H L (by rw [hL]; exact sK (smalls_of fun v hv => kP hs v (List.mem_of_mem_take hv)) hos)
 have hn : l.length - ks.toArray.size + outs.length = L.length := by rw [hL, List.length_append, List.length_take]; omega
 have hLs : L.length <= 2097152 := by omega
 have hcat : PR E gl 27 [.fx 1 2 [.sl 1 (l.length - ks.toArray.size) (Val.ps (l.take (l.length - ks.toArray.size))), q]] [] (.ow 41 1 L.length (Val.ps L)) [] := by
  rw [<- hn, hL, <- GC]
  rcases hq with rfl | rfl
  ·exact tC (gl := gl) H.hE H.h27 H.j1 H.j2 (SlP.sl _ _) (SlP.sl _ _) (by omega) (by omega) []
  ·exact tC (gl := gl) H.hE H.h27 H.j1 H.j2 (SlP.sl _ _) (SlP.fx _ _) (by omega) (by omega) []
 clear hL hn
 refine fnZ H.hE (cfg := c0) (fuel := fuel) H.h13 (by kernel_rfl) ?_
 refine sF H hl hs hg ?_
 repeat (refine aA ?_)
 refine sJ (j := l.length - ks.toArray.size) (n' := ks.toArray.size) rfl (by omega) (by omega) (by omega) (sI hk) ?_
 dsimp only [go_sem]
 repeat (refine aA ?_)
 refine Fz (j := l.length - ks.toArray.size) rfl (by omega) (by omega) (GA l _) ?_
 dsimp only [go_sem]
 rcases hq with rfl | rfl
 all_goals
  repeat (refine aA ?_)
  refine aI (mi rfl rfl (by decide)) hcat (Nat.le_refl _) ?_
  dsimp only [go_sem]
  repeat (refine aA ?_)
 all_goals
  refine ah (fun κ vs ν => ν = [] /\ ∃ i : Nat, κ = L.length - i /\ i <= L.length /\ vs = [.ow dE 1 i (Val.ps (L.take i)), I i]) rfl L.length
   [.ow dE 1 0 [], I (0 : Nat)] (.cons _ _ _ _ (.nilow _ _) (.cons _ _ _ _ (.refl _) .nil)) ⟨rfl, 0, by omega, by omega, rfl⟩ ?_
  clear ha hcat hwant
  rintro κ vs ν ⟨rfl, i, rfl, hi, rfl⟩
  dsimp only [go_sem]
  refine aA ?_
  refine bF rfl (fun hlt => ?_) (fun hge => ?_)
  ·have hlt : i < L.length := by omega
   obtain ⟨v, hv⟩ : ∃ v, L[i]? = some v := ⟨L[i], List.getElem?_eq_getElem hlt⟩
   refine ax rfl hlt ?_
   dsimp only [go_sem]
   refine bG rfl (by rw [Nat.mul_one]; exact kO hv) ?_
   dsimp only [go_sem]
   refine aI (by show some [fz v.p] = some [v.p]; rw [bL]) (hcl v (List.mem_of_getElem? hv)) (Nat.le_refl _) ?_
   dsimp only [go_sem]
   refine kI rfl (bL _) (iv _) (gi _) ?_
   dsimp only [go_sem]
   refine cW rfl rfl rfl H.j1 rfl rfl rfl rfl (by rw [H.j2]; omega) (by omega) ?_
   dsimp only [go_sem]
   clear hcl
   repeat (refine aA ?_)
   refine aF rfl ?_
   dsimp only [go_sem]
   refine ⟨L.length - (i + 1), by omega, rfl, i + 1, rfl, by omega, ?_⟩
   rw [sB hv]
   rfl
  ·obtain rfl : i = L.length := by omega
   refine aF rfl ?_
   dsimp only [go_sem]
   refine aA ?_
   rw [List.take_length]
   refine aE 0 rfl (Nat.zero_le _) ?_ rfl ⟨rfl, rfl⟩
   show okm.okL 0 [.tup [.sl 1 L.length (Val.ps L), I 0]] = true
   simp only [okm.okL, okm, bw, Bool.and_self]
end Go.AM.PV
namespace Go.AM.PV
open Go Go.AM Go.AM.SX
def sL (T : N) (hs : List Nat) (ps : List P) : Option (N × P) := match T with
 | .self x k => match denF ps [x] with
  | some [p] => some (k, p)
  | _ => none
 | .chk i r xs x k => match denF ps [x] with
  | some [p] => if eD r then some (k, p) else match denF ps xs with
   | some as1 => if dZ r as1 then (match x, hs[i]? with
    | .at (.n j), some nv => if Nat.ble nv j then some (k, p) else none
    | _, _ => none) else some (k, p)
   | none => none
  | _ => none
 | _ => none
theorem bz {E : Env} {gl : List GRow} {T T' : N} {m : Nat} {rv : Rv} {d : Bool} {hs : List Nat} {ps : List P} {μ : Mu} {Q : aU} {p : P} (h : sL T hs ps = some (T', p)) (hp0 : shal 40 p = true) (hk : pz E gl T' m rv d hs ps μ Q) : pz E gl T m rv d hs ps μ Q := by
 unfold sL at h
 split at h
 ·split at h
  ·rename_i q hq
   cases h; exact ⟨⟨p, hq, hp0⟩, hk⟩
  ·cases h
 ·split at h
  ·rename_i q hq
   split at h
   ·rename_i hm; cases h; exact ⟨⟨⟨p, hq, hp0⟩, .inl hm⟩, hk⟩
   ·split at h
    ·rename_i as1 ha
     split at h
     ·split at h
      ·rename_i j nv hv
       split at h
       ·rename_i hb; cases h; exact ⟨⟨⟨p, hq, hp0⟩, .inr (.inr ⟨nv, j, hv, rfl, Nat.le_of_ble_eq_true hb⟩)⟩, hk⟩
       ·cases h
      ·cases h
     ·rename_i hl
      cases h
      exact ⟨⟨⟨p, hq, hp0⟩, .inr (.inl ⟨as1, ha, by simpa using hl⟩)⟩, hk⟩
    ·cases h
  ·cases h
 ·cases h
attribute [local irreducible] pz aY
variable {E : Env} {gl : List GRow} {inf : Nat -> TypeInfo} {c0 c1 c2 : Cfg} {fuel : Nat}
structure Wds (E : Env) (gl : List GRow) (inf : Nat -> TypeInfo) (c0 c1 c2 : Cfg) (fuel : Nat) : Prop extends Cln E gl inf c0 c1 c2 fuel where
 h44 : aC E c0 fuel 44 2 = some t44
 h45 : aC E c0 fuel 45 2 = some t45
 h73 : aC E c0 fuel 73 2 = some t73
 h17 : aC E c0 fuel 17 2 = some t17
theorem gu {ps : List P} {a : At} {n : Nat} {l : List P} (h : bI ps a = .lit l) (hn : l.length = n) : aj ps [.sl a n] = some ([.fx 1 n l], ps) := by
 have h1 : ft ps (.sl a n) = some (.fx 1 n l, ps) := by
  show (match bN ps (.sl a n) with
   | some p => some (fz p, ps)
   | none => none) = _
  have h2 : bN ps (.sl a n) = some (.fx 1 n l) := by
   show (match bI ps a with
    | .lit l => if l.length = n * (if n = 0 then 1 else l.length / n) then some (P.fx (if n = 0 then 1 else l.length / n) n l) else none
    | _ => none) = _
   rw [h]
   dsimp only
   have hd : (if n = 0 then 1 else l.length / n) = 1 := by
    by_cases h0 : n = 0
    ·rw [if_pos h0]
    ·rw [if_neg h0, hn, Nat.div_self (by omega)]
   rw [hd, if_pos (by omega)]
  rw [h2]
  rfl
 unfold aj
 rw [h1]
 rfl
theorem gv {E : Env} {gl : List GRow} {k : N} {m : Nat} {rv : Rv} {d : Bool} {hs : List Nat} {ps : List P} {μ : Mu} {Q : aU} {a : At} {n : Nat} {l : List P} (h : bI ps a = .lit l) (hn : l.length = n) (h0 : Nat.blt 0 n = true) (hk : pz E gl k m rv d hs ps μ Q) : pz E gl (.self (.sl a n) k) m rv d hs ps μ Q :=
 wZ (mi h hn (Nat.le_of_ble_eq_true h0)) rfl hk
theorem cA {v : Val} (h : v.chk vsR nmR = 0) : ∃ t q, v.p = .ifc t q /\ shal 40 (.ifc t q) = true := by
 cases v with
 | nil => exact absurd h (by decide)
 | int n => exact ⟨_, _, rfl, rfl⟩
 | str n => exact ⟨_, _, rfl, rfl⟩
 | bool n => exact ⟨_, _, rfl, rfl⟩
 | list n => exact ⟨_, _, rfl, rfl⟩
 | quot n => exact ⟨_, _, rfl, rfl⟩
 | box n => exact ⟨_, _, rfl, rfl⟩
abbrev ee : List UInt8 := [100, 117, 112]
theorem GD (H : Wds E gl inf c0 c1 c2 fuel) {a : Val} (ha : a.chk vsR nmR = 0) (sa : a.small 1048576) (hwant : PR E gl 25 [.c (bs ee)] [] (.c (.tuple #[bs [120], .bool true])) []) :
  PR E gl 26 [.c (bs ee), .sl 1 1 (Val.ps [a])] [] (.tup [.fx 1 2 (Val.ps [a, a]), I 0]) [] := by
 have fa := cY H.toDos a
 have ca := H.check a sa
 rw [ha] at ca
 obtain ⟨ta, qa, ea, za⟩ := cA ha
 simp only [Val.ps]
 rw [ea] at fa ca ⊢
 have hm : PR E gl 43 [.c (bs ee), .sl 1 1 [.ifc ta qa]] [] (.fx 1 2 [.ifc ta qa, .ifc ta qa]) [] := by
  clear fa ca hwant
  refine fnZ H.hE (cfg := c0) (fuel := fuel) H.h43 (by kernel_rfl) ?_
  unfold t43
  repeat (first | refine aA ?_ | refine bz rfl (by assumption) ?_ | refine gv rfl rfl rfl ?_ | (refine gf rfl rfl rfl rfl rfl ?_; dsimp only [go_sem]))
  exact aF (gu rfl rfl) ⟨rfl, rfl⟩
 refine fnZ H.hE (cfg := c0) (fuel := fuel) H.h26 (by kernel_rfl) ?_
 unfold t26
 refine aA ?_
 rw [show aT .i64 (((#[(120 : UInt8)].size : Nat) : Int) - 1) = 0 from rfl]
 repeat (first | refine af ?_ | refine aA ?_ | refine bz rfl (by assumption) ?_)
 exact ⟨rfl, rfl⟩
abbrev cm : List UInt8 := [100, 114, 111, 112]
theorem sM (H : Wds E gl inf c0 c1 c2 fuel) {a : Val} (ha : a.chk vsR nmR = 0) (sa : a.small 1048576) (hwant : PR E gl 25 [.c (bs cm)] [] (.c (.tuple #[bs [120], .bool true])) []) :
  PR E gl 26 [.c (bs cm), .sl 1 1 (Val.ps [a])] [] (.tup [.fx 1 0 (Val.ps []), I 0]) [] := by
 have fa := cY H.toDos a
 have ca := H.check a sa
 rw [ha] at ca
 obtain ⟨ta, qa, ea, za⟩ := cA ha
 simp only [Val.ps]
 rw [ea] at fa ca ⊢
 have hm : PR E gl 43 [.c (bs cm), .sl 1 1 [.ifc ta qa]] [] (.fx 1 0 []) [] := by
  clear fa ca hwant
  refine fnZ H.hE (cfg := c0) (fuel := fuel) H.h43 (by kernel_rfl) ?_
  unfold t43
  repeat (first | refine aA ?_ | refine bz rfl (by assumption) ?_ | refine gv rfl rfl rfl ?_ | (refine gf rfl rfl rfl rfl rfl ?_; dsimp only [go_sem]))
  exact aF (gu rfl rfl) ⟨rfl, rfl⟩
 refine fnZ H.hE (cfg := c0) (fuel := fuel) H.h26 (by kernel_rfl) ?_
 unfold t26
 refine aA ?_
 rw [show aT .i64 (((#[(120 : UInt8)].size : Nat) : Int) - 1) = 0 from rfl]
 repeat (first | refine af ?_ | refine aA ?_ | refine bz rfl (by assumption) ?_)
 exact ⟨rfl, rfl⟩
abbrev ef : List UInt8 := [115, 119, 97, 112]
theorem GE (H : Wds E gl inf c0 c1 c2 fuel) {a b : Val} (ha : a.chk vsR nmR = 0) (hb : b.chk vsR nmR = 0) (sa : a.small 1048576) (sb : b.small 1048576) (hwant : PR E gl 25 [.c (bs ef)] [] (.c (.tuple #[bs [120, 120], .bool true])) []) :
  PR E gl 26 [.c (bs ef), .sl 1 2 (Val.ps [a, b])] [] (.tup [.fx 1 2 (Val.ps [b, a]), I 0]) [] := by
 have fa := cY H.toDos a
 have ca := H.check a sa
 rw [ha] at ca
 obtain ⟨ta, qa, ea, za⟩ := cA ha
 have fb := cY H.toDos b
 have cb := H.check b sb
 rw [hb] at cb
 obtain ⟨tb, qb, eb, zb⟩ := cA hb
 simp only [Val.ps]
 rw [ea] at fa ca ⊢
 rw [eb] at fb cb ⊢
 have hm : PR E gl 43 [.c (bs ef), .sl 1 2 [.ifc ta qa, .ifc tb qb]] [] (.fx 1 2 [.ifc tb qb, .ifc ta qa]) [] := by
  clear fa ca fb cb hwant
  refine fnZ H.hE (cfg := c0) (fuel := fuel) H.h43 (by kernel_rfl) ?_
  unfold t43
  repeat (first | refine aA ?_ | refine bz rfl (by assumption) ?_ | refine gv rfl rfl rfl ?_ | (refine gf rfl rfl rfl rfl rfl ?_; dsimp only [go_sem]))
  exact aF (gu rfl rfl) ⟨rfl, rfl⟩
 refine fnZ H.hE (cfg := c0) (fuel := fuel) H.h26 (by kernel_rfl) ?_
 unfold t26
 refine aA ?_
 rw [show aT .i64 (((#[(120 : UInt8), 120].size : Nat) : Int) - 1) = 1 from rfl]
 repeat (first | refine af ?_ | refine aA ?_ | refine bz rfl (by assumption) ?_)
 exact ⟨rfl, rfl⟩
abbrev cn : List UInt8 := [111, 118, 101, 114]
theorem sN (H : Wds E gl inf c0 c1 c2 fuel) {a b : Val} (ha : a.chk vsR nmR = 0) (hb : b.chk vsR nmR = 0) (sa : a.small 1048576) (sb : b.small 1048576) (hwant : PR E gl 25 [.c (bs cn)] [] (.c (.tuple #[bs [120, 120], .bool true])) []) :
  PR E gl 26 [.c (bs cn), .sl 1 2 (Val.ps [a, b])] [] (.tup [.fx 1 3 (Val.ps [a, b, a]), I 0]) [] := by
 have fa := cY H.toDos a
 have ca := H.check a sa
 rw [ha] at ca
 obtain ⟨ta, qa, ea, za⟩ := cA ha
 have fb := cY H.toDos b
 have cb := H.check b sb
 rw [hb] at cb
 obtain ⟨tb, qb, eb, zb⟩ := cA hb
 simp only [Val.ps]
 rw [ea] at fa ca ⊢
 rw [eb] at fb cb ⊢
 have hm : PR E gl 43 [.c (bs cn), .sl 1 2 [.ifc ta qa, .ifc tb qb]] [] (.fx 1 3 [.ifc ta qa, .ifc tb qb, .ifc ta qa]) [] := by
  clear fa ca fb cb hwant
  refine fnZ H.hE (cfg := c0) (fuel := fuel) H.h43 (by kernel_rfl) ?_
  unfold t43
  repeat (first | refine aA ?_ | refine bz rfl (by assumption) ?_ | refine gv rfl rfl rfl ?_ | (refine gf rfl rfl rfl rfl rfl ?_; dsimp only [go_sem]))
  exact aF (gu rfl rfl) ⟨rfl, rfl⟩
 refine fnZ H.hE (cfg := c0) (fuel := fuel) H.h26 (by kernel_rfl) ?_
 unfold t26
 refine aA ?_
 rw [show aT .i64 (((#[(120 : UInt8), 120].size : Nat) : Int) - 1) = 1 from rfl]
 repeat (first | refine af ?_ | refine aA ?_ | refine bz rfl (by assumption) ?_)
 exact ⟨rfl, rfl⟩
abbrev eh : List UInt8 := [110, 105, 112]
theorem GF (H : Wds E gl inf c0 c1 c2 fuel) {a b : Val} (ha : a.chk vsR nmR = 0) (hb : b.chk vsR nmR = 0) (sa : a.small 1048576) (sb : b.small 1048576) (hwant : PR E gl 25 [.c (bs eh)] [] (.c (.tuple #[bs [120, 120], .bool true])) []) :
  PR E gl 26 [.c (bs eh), .sl 1 2 (Val.ps [a, b])] [] (.tup [.fx 1 1 (Val.ps [b]), I 0]) [] := by
 have fa := cY H.toDos a
 have ca := H.check a sa
 rw [ha] at ca
 obtain ⟨ta, qa, ea, za⟩ := cA ha
 have fb := cY H.toDos b
 have cb := H.check b sb
 rw [hb] at cb
 obtain ⟨tb, qb, eb, zb⟩ := cA hb
 simp only [Val.ps]
 rw [ea] at fa ca ⊢
 rw [eb] at fb cb ⊢
 have hm : PR E gl 43 [.c (bs eh), .sl 1 2 [.ifc ta qa, .ifc tb qb]] [] (.fx 1 1 [.ifc tb qb]) [] := by
  clear fa ca fb cb hwant
  refine fnZ H.hE (cfg := c0) (fuel := fuel) H.h43 (by kernel_rfl) ?_
  unfold t43
  repeat (first | refine aA ?_ | refine bz rfl (by assumption) ?_ | refine gv rfl rfl rfl ?_ | (refine gf rfl rfl rfl rfl rfl ?_; dsimp only [go_sem]))
  exact aF (gu rfl rfl) ⟨rfl, rfl⟩
 refine fnZ H.hE (cfg := c0) (fuel := fuel) H.h26 (by kernel_rfl) ?_
 unfold t26
 refine aA ?_
 rw [show aT .i64 (((#[(120 : UInt8), 120].size : Nat) : Int) - 1) = 1 from rfl]
 repeat (first | refine af ?_ | refine aA ?_ | refine bz rfl (by assumption) ?_)
 exact ⟨rfl, rfl⟩
abbrev dY : List UInt8 := [114, 111, 116]
theorem GG (H : Wds E gl inf c0 c1 c2 fuel) {a b c : Val} (ha : a.chk vsR nmR = 0) (hb : b.chk vsR nmR = 0) (hc : c.chk vsR nmR = 0) (sa : a.small 1048576) (sb : b.small 1048576) (sc : c.small 1048576) (hwant : PR E gl 25 [.c (bs dY)] [] (.c (.tuple #[bs [120, 120, 120], .bool true])) []) :
  PR E gl 26 [.c (bs dY), .sl 1 3 (Val.ps [a, b, c])] [] (.tup [.fx 1 3 (Val.ps [b, c, a]), I 0]) [] := by
 have fa := cY H.toDos a
 have ca := H.check a sa
 rw [ha] at ca
 obtain ⟨ta, qa, ea, za⟩ := cA ha
 have fb := cY H.toDos b
 have cb := H.check b sb
 rw [hb] at cb
 obtain ⟨tb, qb, eb, zb⟩ := cA hb
 have fc := cY H.toDos c
 have cc := H.check c sc
 rw [hc] at cc
 obtain ⟨tc, qc, ec, zc⟩ := cA hc
 simp only [Val.ps]
 rw [ea] at fa ca ⊢
 rw [eb] at fb cb ⊢
 rw [ec] at fc cc ⊢
 have hm : PR E gl 43 [.c (bs dY), .sl 1 3 [.ifc ta qa, .ifc tb qb, .ifc tc qc]] [] (.fx 1 3 [.ifc tb qb, .ifc tc qc, .ifc ta qa]) [] := by
  clear fa ca fb cb fc cc hwant
  refine fnZ H.hE (cfg := c0) (fuel := fuel) H.h43 (by kernel_rfl) ?_
  unfold t43
  repeat (first | refine aA ?_ | refine bz rfl (by assumption) ?_ | refine gv rfl rfl rfl ?_ | (refine gf rfl rfl rfl rfl rfl ?_; dsimp only [go_sem]))
  exact aF (gu rfl rfl) ⟨rfl, rfl⟩
 refine fnZ H.hE (cfg := c0) (fuel := fuel) H.h26 (by kernel_rfl) ?_
 unfold t26
 refine aA ?_
 rw [show aT .i64 (((#[(120 : UInt8), 120, 120].size : Nat) : Int) - 1) = 2 from rfl]
 repeat (first | refine af ?_ | refine aA ?_ | refine bz rfl (by assumption) ?_)
 exact ⟨rfl, rfl⟩
end Go.AM.PV
namespace Go.AM.PV
open Go Go.AM Go.AM.SX
attribute [local irreducible] pz aY
variable {E : Env} {gl : List GRow} {inf : Nat -> TypeInfo} {c0 c1 c2 : Cfg} {fuel : Nat}
abbrev b8 : List UInt8 := [112, 97, 105, 114]
abbrev cq : List UInt8 := [117, 110, 112, 97, 105, 114]
theorem GH (H : Wds E gl inf c0 c1 c2 fuel) (ta tb : TypeId) (qa qb : P) : PR E gl 43 [.c (bs b8), .sl 1 2 [.ifc ta qa, .ifc tb qb]] [] (.c (.slice none 0 0)) [] := by
 refine fnZ H.hE (cfg := c0) (fuel := fuel) H.h43 (by kernel_rfl) ?_
 unfold t43
 repeat (refine aA ?_)
 exact aF rfl ⟨rfl, rfl⟩
theorem GI (H : Wds E gl inf c0 c1 c2 fuel) (ta tb : TypeId) (qa qb : P) : PR E gl 44 [.c (bs b8), .sl 1 2 [.ifc ta qa, .ifc tb qb]] [] (.tup [.c (.slice none 0 0), I 0]) [] := by
 refine fnZ H.hE (cfg := c0) (fuel := fuel) H.h44 (by kernel_rfl) ?_
 unfold t44
 repeat (refine aA ?_)
 exact aF rfl ⟨rfl, rfl⟩
theorem GJ {E : Env} {gl : List GRow} {k : N} {m : Nat} {rv : Rv} {d : Bool} {hs : List Nat} {ps : List P} {μ : Mu} {Q : aU} {a : At} {n : Nat} {l : List P} {v : Value} (h : bI ps a = .lit l) (hn : l.length = n) (h0 : Nat.blt 0 n = true) (hk : pz E gl k m rv d hs (ps ++ [.tup [.fx 1 n l, .c v]]) μ Q) : pz E gl (.op .tup [.sl a n, .at (.v v)] k) m rv d hs ps μ Q := by
 have h1 := mi h hn (Nat.le_of_ble_eq_true h0)
 have h2 : denF ps [.sl a n, .at (.v v)] = some [.fx 1 n l, .c v] := by
  unfold denF at h1 ⊢
  cases hx : bN ps (.sl a n) with
  | none => rw [hx] at h1; cases h1
  | some p =>
   rw [hx] at h1
   have h3 : some [fz p] = some [.fx 1 n l] := h1
   have h4 : fz p = .fx 1 n l := by simpa using h3
   show some [fz p, fz (.c v)] = _
   rw [h4]
   rfl
 refine mU (ps' := ps ++ [.tup [.fx 1 n l, .c v]]) (μ' := μ) ?_ hk
 unfold stz
 rw [h2]
 rfl
theorem GK (H : Wds E gl inf c0 c1 c2 fuel) (ta tb : TypeId) (qa qb : P) : PR E gl 45 [.c (bs b8), .sl 1 2 [.ifc ta qa, .ifc tb qb]] [] (.tup [.fx 1 1 [.ifc rD (.agg [.sl 1 2 [.ifc ta qa, .ifc tb qb]])], I 0]) [] := by
 refine fnZ H.hE (cfg := c0) (fuel := fuel) H.h45 (by kernel_rfl) ?_
 unfold t45
 repeat (refine aA ?_)
 refine GJ rfl rfl rfl ?_
 dsimp only [go_sem]
 exact aF rfl ⟨rfl, rfl⟩
theorem sO (H : Wds E gl inf c0 c1 c2 fuel) {a b : Val} (ha : a.chk vsR nmR = 0) (hb : b.chk vsR nmR = 0) (sa : a.small 1048576) (sb : b.small 1048576) (hwant : PR E gl 25 [.c (bs b8)] [] (.c (.tuple #[bs [120, 120], .bool true])) []) :
  PR E gl 26 [.c (bs b8), .sl 1 2 (Val.ps [a, b])] [] (if (Val.list [a, b]).chk vsR nmR = 0 then .tup [.fx 1 1 (Val.ps [.list [a, b]]), I 0] else .tup [.c (.slice none 0 0), I 11]) [] := by
 have cl := H.check (.list [a, b]) (by simp only [Val.small, Val.smalls]; exact ⟨by show 2 <= 1048576; decide, sa, sb, trivial⟩)
 have fa := cY H.toDos a
 have fb := cY H.toDos b
 obtain ⟨ta, qa, ea, za⟩ := cA ha
 obtain ⟨tb, qb, eb, zb⟩ := cA hb
 have hm := GH H ta tb qa qb
 have hn := GI H ta tb qa qb
 have hr := GK H ta tb qa qb
 simp only [Val.ps, Val.p] at cl ⊢
 rw [ea] at fa cl ⊢
 rw [eb] at fb cl ⊢
 by_cases hc : (Val.list [a, b]).chk vsR nmR = 0
 ·rw [if_pos hc]
  rw [hc] at cl
  refine fnZ H.hE (cfg := c0) (fuel := fuel) H.h26 (by kernel_rfl) ?_
  unfold t26
  refine aA ?_
  rw [show aT .i64 (((#[(120 : UInt8), 120].size : Nat) : Int) - 1) = 1 from rfl]
  repeat (first | refine af ?_ | refine aA ?_ | refine bz rfl (by assumption) ?_ | refine gW rfl ?_ | refine gX rfl ?_)
  exact ⟨rfl, rfl⟩
 ·rw [if_neg hc]
  rw [sG hc] at cl
  refine fnZ H.hE (cfg := c0) (fuel := fuel) H.h26 (by kernel_rfl) ?_
  unfold t26
  refine aA ?_
  rw [show aT .i64 (((#[(120 : UInt8), 120].size : Nat) : Int) - 1) = 1 from rfl]
  repeat (first | refine af ?_ | refine aA ?_ | refine bz rfl (by assumption) ?_ | refine gW rfl ?_ | refine gX rfl ?_)
  exact ⟨rfl, rfl⟩
theorem GL (H : Wds E gl inf c0 c1 c2 fuel) (l : List Val) : PR E gl 41 [.c (.int .u8 108), (Val.list l).p] [] (Bo true) [] := by
 have h := rf H.toDos (.list l)
 simp only [Val.p, Val.letter] at h ⊢
 refine fnZ H.hE (cfg := c0) (fuel := fuel) H.h41 (by kernel_rfl) ?_
 unfold t41
 repeat (refine aA ?_)
 exact aF rfl ⟨rfl, rfl⟩
theorem GM (H : Wds E gl inf c0 c1 c2 fuel) (l : List Val) : PR E gl 43 [.c (bs cq), .sl 1 1 [(Val.list l).p]] [] (.c (.slice none 0 0)) [] := by
 refine fnZ H.hE (cfg := c0) (fuel := fuel) H.h43 (by kernel_rfl) ?_
 unfold t43
 repeat (refine aA ?_)
 exact aF rfl ⟨rfl, rfl⟩
theorem GN (H : Wds E gl inf c0 c1 c2 fuel) (l : List Val) : PR E gl 44 [.c (bs cq), .sl 1 1 [(Val.list l).p]] [] (.tup [.c (.slice none 0 0), I 0]) [] := by
 refine fnZ H.hE (cfg := c0) (fuel := fuel) H.h44 (by kernel_rfl) ?_
 unfold t44
 repeat (refine aA ?_)
 exact aF rfl ⟨rfl, rfl⟩
theorem GO (H : Wds E gl inf c0 c1 c2 fuel) (a b : Val) : PR E gl 45 [.c (bs cq), .sl 1 1 [(Val.list [a, b]).p]] [] (.tup [.sl 1 2 (Val.ps [a, b]), I 0]) [] := by
 refine fnZ H.hE (cfg := c0) (fuel := fuel) H.h45 (by kernel_rfl) ?_
 unfold t45
 simp only [Val.p]
 repeat (refine aA ?_)
 exact aF rfl ⟨rfl, rfl⟩
theorem GP (H : Wds E gl inf c0 c1 c2 fuel) {a b : Val} (ha : a.chk vsR nmR = 0) (hb : b.chk vsR nmR = 0) (sa : a.small 1048576) (sb : b.small 1048576) (hwant : PR E gl 25 [.c (bs cq)] [] (.c (.tuple #[bs [108], .bool true])) []) :
  PR E gl 26 [.c (bs cq), .sl 1 1 (Val.ps [.list [a, b]])] [] (.tup [.sl 1 2 (Val.ps [a, b]), I 0]) [] := by
 have ca := H.check a sa
 have cb := H.check b sb
 rw [ha] at ca
 rw [hb] at cb
 have fl := GL H [a, b]
 have hm := GM H [a, b]
 have hn := GN H [a, b]
 have hr := GO H a b
 obtain ⟨ta, qa, ea, za⟩ := cA ha
 obtain ⟨tb, qb, eb, zb⟩ := cA hb
 simp only [Val.ps, Val.p] at fl hm hn hr ⊢
 rw [ea] at ca fl hm hn hr ⊢
 rw [eb] at cb fl hm hn hr ⊢
 refine fnZ H.hE (cfg := c0) (fuel := fuel) H.h26 (by kernel_rfl) ?_
 unfold t26
 refine aA ?_
 rw [show aT .i64 (((#[(108 : UInt8)].size : Nat) : Int) - 1) = 0 from rfl]
 repeat (first | refine af ?_ | refine aA ?_ | refine bz rfl (by assumption) ?_ | refine gW rfl ?_ | refine gX rfl ?_)
 exact ⟨rfl, rfl⟩
end Go.AM.PV
namespace Go.AM.PV
open Go Go.AM Go.AM.SX
attribute [local irreducible] pz aY
variable {E : Env} {gl : List GRow} {inf : Nat -> TypeInfo} {c0 c1 c2 : Cfg} {fuel : Nat}
structure Stk (E : Env) (gl : List GRow) (inf : Nat -> TypeInfo) (c0 c1 c2 : Cfg) (fuel : Nat) : Prop extends Wds E gl inf c0 c1 c2 fuel where
 h4 : aC E c0 fuel 4 3 = some t4
 wants : ∀ w, w ∈ [(ef, [120, 120]), (dY, [120, 120, 120]), (ee, [120]), (cm, [120]), (cn, [120, 120]), (eh, [120, 120]), (b8, [120, 120]), (cq, [108])] -> PR E gl 25 [.c (bs w.1)] [] (.c (.tuple #[bs w.2, .bool true])) []
theorem kQ {ps : List P} {a : At} {n sz : Nat} {l : List P} (h : bI ps a = .lit l) (hn : l.length = n * sz) (h0 : 0 < n) : denF ps [.sl a n] = some [.fx sz n l] := by
 have h2 : bN ps (.sl a n) = some (.fx sz n l) := by
  show (match bI ps a with
   | .lit l => if l.length = n * (if n = 0 then 1 else l.length / n) then some (P.fx (if n = 0 then 1 else l.length / n) n l) else none
   | _ => none) = _
  rw [h]
  dsimp only
  have hd : (if n = 0 then 1 else l.length / n) = sz := by rw [if_neg (by omega), hn, Nat.mul_div_cancel_left _ h0]
  rw [hd, if_pos hn]
 unfold denF
 rw [h2]
 rfl
section
variable (H : Stk E gl inf c0 c1 c2 fuel)
include H
theorem nE {a b c : Val} (ha : a.chk vsR nmR = 0) (hb : b.chk vsR nmR = 0) (hc : c.chk vsR nmR = 0) (sa : a.small 1048576) (sb : b.small 1048576) (sc : c.small 1048576) : PR E gl 13 [.c (bs ef), .sl 1 3 (Val.ps [a, b, c])] [] (.tup [.sl 1 3 (Val.ps [a, c, b]), I 0]) [] :=
 dX (nmw := ef) (ks := [120, 120]) (l := [a, b, c]) (outs := [c, b]) (L := [a, c, b]) H.toCln (show 3 <= 1048576 by decide) ⟨sa, sb, sc, trivial⟩
  (by simp only [List.mem_cons, List.not_mem_nil, or_false]; rintro v (rfl | rfl | rfl) <;> assumption)
  (H.wants (ef, [120, 120]) (by simp)) (show 2 <= 3 by decide) (.inr rfl)
  (GE H.toWds hb hc sb sc (H.wants (ef, [120, 120]) (by simp))) (show 2 <= 1048576 by decide) ⟨sc, sb, trivial⟩ rfl
theorem nF {a b c : Val} (ha : a.chk vsR nmR = 0) (hb : b.chk vsR nmR = 0) (hc : c.chk vsR nmR = 0) (sa : a.small 1048576) (sb : b.small 1048576) (sc : c.small 1048576) : PR E gl 13 [.c (bs dY), .sl 1 3 (Val.ps [a, b, c])] [] (.tup [.sl 1 3 (Val.ps [b, c, a]), I 0]) [] :=
 dX (nmw := dY) (ks := [120, 120, 120]) (l := [a, b, c]) (outs := [b, c, a]) (L := [b, c, a]) H.toCln (show 3 <= 1048576 by decide) ⟨sa, sb, sc, trivial⟩
  (by simp only [List.mem_cons, List.not_mem_nil, or_false]; rintro v (rfl | rfl | rfl) <;> assumption)
  (H.wants (dY, [120, 120, 120]) (by simp)) (show 3 <= 3 by decide) (.inr rfl)
  (GG H.toWds ha hb hc sa sb sc (H.wants (dY, [120, 120, 120]) (by simp))) (show 3 <= 1048576 by decide) ⟨sb, sc, sa, trivial⟩ rfl
theorem GQ {a b c : Val} (ha : a.chk vsR nmR = 0) (hb : b.chk vsR nmR = 0) (hc : c.chk vsR nmR = 0) (sa : a.small 1048576) (sb : b.small 1048576) (sc : c.small 1048576) : PR E gl 13 [.c (bs ee), .sl 1 3 (Val.ps [a, b, c])] [] (.tup [.sl 1 4 (Val.ps [a, b, c, c]), I 0]) [] :=
 dX (nmw := ee) (ks := [120]) (l := [a, b, c]) (outs := [c, c]) (L := [a, b, c, c]) H.toCln (show 3 <= 1048576 by decide) ⟨sa, sb, sc, trivial⟩
  (by simp only [List.mem_cons, List.not_mem_nil, or_false]; rintro v (rfl | rfl | rfl) <;> assumption)
  (H.wants (ee, [120]) (by simp)) (show 1 <= 3 by decide) (.inr rfl)
  (GD H.toWds hc sc (H.wants (ee, [120]) (by simp))) (show 2 <= 1048576 by decide) ⟨sc, sc, trivial⟩ rfl
theorem GR {a b c d : Val} (ha : a.chk vsR nmR = 0) (hb : b.chk vsR nmR = 0) (hc : c.chk vsR nmR = 0) (hd : d.chk vsR nmR = 0) (sa : a.small 1048576) (sb : b.small 1048576) (sc : c.small 1048576) (sd : d.small 1048576) : PR E gl 13 [.c (bs cm), .sl 1 4 (Val.ps [a, b, c, d])] [] (.tup [.sl 1 3 (Val.ps [a, b, c]), I 0]) [] :=
 dX (nmw := cm) (ks := [120]) (l := [a, b, c, d]) (outs := []) (L := [a, b, c]) H.toCln (show 4 <= 1048576 by decide) ⟨sa, sb, sc, sd, trivial⟩
  (by simp only [List.mem_cons, List.not_mem_nil, or_false]; rintro v (rfl | rfl | rfl | rfl) <;> assumption)
  (H.wants (cm, [120]) (by simp)) (show 1 <= 4 by decide) (.inr rfl)
  (sM H.toWds hd sd (H.wants (cm, [120]) (by simp))) (show 0 <= 1048576 by decide) trivial rfl
theorem GS {a b c : Val} (ha : a.chk vsR nmR = 0) (hb : b.chk vsR nmR = 0) (hc : c.chk vsR nmR = 0) (sa : a.small 1048576) (sb : b.small 1048576) (sc : c.small 1048576) : PR E gl 13 [.c (bs cn), .sl 1 3 (Val.ps [a, b, c])] [] (.tup [.sl 1 4 (Val.ps [a, b, c, b]), I 0]) [] :=
 dX (nmw := cn) (ks := [120, 120]) (l := [a, b, c]) (outs := [b, c, b]) (L := [a, b, c, b]) H.toCln (show 3 <= 1048576 by decide) ⟨sa, sb, sc, trivial⟩
  (by simp only [List.mem_cons, List.not_mem_nil, or_false]; rintro v (rfl | rfl | rfl) <;> assumption)
  (H.wants (cn, [120, 120]) (by simp)) (show 2 <= 3 by decide) (.inr rfl)
  (sN H.toWds hb hc sb sc (H.wants (cn, [120, 120]) (by simp))) (show 3 <= 1048576 by decide) ⟨sb, sc, sb, trivial⟩ rfl
theorem GT {a b c d : Val} (ha : a.chk vsR nmR = 0) (hb : b.chk vsR nmR = 0) (hc : c.chk vsR nmR = 0) (hd : d.chk vsR nmR = 0) (sa : a.small 1048576) (sb : b.small 1048576) (sc : c.small 1048576) (sd : d.small 1048576) : PR E gl 13 [.c (bs eh), .sl 1 4 (Val.ps [a, b, c, d])] [] (.tup [.sl 1 3 (Val.ps [a, b, d]), I 0]) [] :=
 dX (nmw := eh) (ks := [120, 120]) (l := [a, b, c, d]) (outs := [d]) (L := [a, b, d]) H.toCln (show 4 <= 1048576 by decide) ⟨sa, sb, sc, sd, trivial⟩
  (by simp only [List.mem_cons, List.not_mem_nil, or_false]; rintro v (rfl | rfl | rfl | rfl) <;> assumption)
  (H.wants (eh, [120, 120]) (by simp)) (show 2 <= 4 by decide) (.inr rfl)
  (GF H.toWds hc hd sc sd (H.wants (eh, [120, 120]) (by simp))) (show 1 <= 1048576 by decide) ⟨sd, trivial⟩ rfl
theorem GU {a b c : Val} (ha : a.chk vsR nmR = 0) (hb : b.chk vsR nmR = 0) (hc : c.chk vsR nmR = 0) (sa : a.small 1048576) (sb : b.small 1048576) (sc : c.small 1048576) : PR E gl 13 [.c (bs cm), .sl 1 3 (Val.ps [a, b, c])] [] (.tup [.sl 1 2 (Val.ps [a, b]), I 0]) [] :=
 dX (nmw := cm) (ks := [120]) (l := [a, b, c]) (outs := []) (L := [a, b]) H.toCln (show 3 <= 1048576 by decide) ⟨sa, sb, sc, trivial⟩
  (by simp only [List.mem_cons, List.not_mem_nil, or_false]; rintro v (rfl | rfl | rfl) <;> assumption)
  (H.wants (cm, [120]) (by simp)) (show 1 <= 3 by decide) (.inr rfl)
  (sM H.toWds hc sc (H.wants (cm, [120]) (by simp))) (show 0 <= 1048576 by decide) trivial rfl
theorem GV {a b : Val} (ha : a.chk vsR nmR = 0) (hb : b.chk vsR nmR = 0) (sa : a.small 1048576) (sb : b.small 1048576) : PR E gl 13 [.c (bs cn), .sl 1 2 (Val.ps [a, b])] [] (.tup [.sl 1 3 (Val.ps [a, b, a]), I 0]) [] :=
 dX (nmw := cn) (ks := [120, 120]) (l := [a, b]) (outs := [a, b, a]) (L := [a, b, a]) H.toCln (show 2 <= 1048576 by decide) ⟨sa, sb, trivial⟩
  (by simp only [List.mem_cons, List.not_mem_nil, or_false]; rintro v (rfl | rfl) <;> assumption)
  (H.wants (cn, [120, 120]) (by simp)) (show 2 <= 2 by decide) (.inr rfl)
  (sN H.toWds ha hb sa sb (H.wants (cn, [120, 120]) (by simp))) (show 3 <= 1048576 by decide) ⟨sa, sb, sa, trivial⟩ rfl
theorem GW {a b c : Val} (ha : a.chk vsR nmR = 0) (hb : b.chk vsR nmR = 0) (hc : c.chk vsR nmR = 0) (sa : a.small 1048576) (sb : b.small 1048576) (sc : c.small 1048576) (hl : (Val.list [b, c]).chk vsR nmR = 0) : PR E gl 13 [.c (bs b8), .sl 1 3 (Val.ps [a, b, c])] [] (.tup [.sl 1 2 (Val.ps [a, .list [b, c]]), I 0]) [] :=
 dX (nmw := b8) (ks := [120, 120]) (l := [a, b, c]) (outs := [.list [b, c]]) (L := [a, .list [b, c]]) H.toCln (show 3 <= 1048576 by decide) ⟨sa, sb, sc, trivial⟩
  (by simp only [List.mem_cons, List.not_mem_nil, or_false]; rintro v (rfl | rfl | rfl) <;> assumption)
  (H.wants (b8, [120, 120]) (by simp)) (show 2 <= 3 by decide) (.inr rfl)
  (by have h := sO H.toWds hb hc sb sc (H.wants (b8, [120, 120]) (by simp)); rw [if_pos hl] at h; exact h) (show 1 <= 1048576 by decide) (by simp only [Val.smalls, Val.small]; exact ⟨⟨show 2 <= 1048576 by decide, sb, sc, trivial⟩, trivial⟩) rfl
theorem GX {a b c : Val} (ha : a.chk vsR nmR = 0) (hb : b.chk vsR nmR = 0) (hc : c.chk vsR nmR = 0) (sa : a.small 1048576) (sb : b.small 1048576) (sc : c.small 1048576) (hl : ¬ (Val.list [b, c]).chk vsR nmR = 0) : PR E gl 13 [.c (bs b8), .sl 1 3 (Val.ps [a, b, c])] [] (.tup [.c (.slice none 0 0), I 11]) [] :=
 GB (nmw := b8) (ks := [120, 120]) (l := [a, b, c]) H.toCln (show 3 <= 1048576 by decide) ⟨sa, sb, sc, trivial⟩
  (by simp only [List.mem_cons, List.not_mem_nil, or_false]; rintro v (rfl | rfl | rfl) <;> assumption)
  (H.wants (b8, [120, 120]) (by simp)) (show 2 <= 3 by decide) (by decide)
  (by have h := sO H.toWds hb hc sb sc (H.wants (b8, [120, 120]) (by simp)); rw [if_neg hl] at h; exact h)
theorem GY {a b c : Val} (ha : a.chk vsR nmR = 0) (hb : b.chk vsR nmR = 0) (hc : c.chk vsR nmR = 0) (sa : a.small 1048576) (sb : b.small 1048576) (sc : c.small 1048576) (hl : (Val.list [b, c]).chk vsR nmR = 0) : PR E gl 13 [.c (bs cq), .sl 1 2 (Val.ps [a, .list [b, c]])] [] (.tup [.sl 1 3 (Val.ps [a, b, c]), I 0]) [] :=
 dX (nmw := cq) (ks := [108]) (l := [a, .list [b, c]]) (outs := [b, c]) (L := [a, b, c]) H.toCln (show 2 <= 1048576 by decide) (by simp only [Val.smalls, Val.small]; exact ⟨sa, ⟨show 2 <= 1048576 by decide, sb, sc, trivial⟩, trivial⟩)
  (by simp only [List.mem_cons, List.not_mem_nil, or_false]; rintro v (rfl | rfl) <;> assumption)
  (H.wants (cq, [108]) (by simp)) (show 1 <= 2 by decide) (.inl rfl)
  (GP H.toWds hb hc sb sc (H.wants (cq, [108]) (by simp))) (show 2 <= 1048576 by decide) ⟨sb, sc, trivial⟩ rfl
theorem nG {w1 w2 : List UInt8} {n m k : Nat} {l1 l2 l3 : List P} (h1 : PR E gl 13 [.c (bs w1), .sl 1 n l1] [] (.tup [.sl 1 m l2, I 0]) []) (h2 : PR E gl 13 [.c (bs w2), .sl 1 m l2] [] (.tup [.sl 1 k l3, I 0]) []) :
  PR E gl 17 [.sl 1 n l1, .fx 1 2 [.c (bs w1), .c (bs w2)]] [] (.tup [.sl 1 k l3, I 0]) [] := by
 refine fnZ H.hE (cfg := c0) (fuel := fuel) H.h17 (by kernel_rfl) ?_
 unfold t17
 repeat (first | refine af ?_ | refine aA ?_)
 exact ⟨rfl, rfl⟩
theorem GZ {w1 w2 w3 : List UInt8} {n m k j : Nat} {l1 l2 l3 l4 : List P} (h1 : PR E gl 13 [.c (bs w1), .sl 1 n l1] [] (.tup [.sl 1 m l2, I 0]) []) (h2 : PR E gl 13 [.c (bs w2), .sl 1 m l2] [] (.tup [.sl 1 k l3, I 0]) []) (h3 : PR E gl 13 [.c (bs w3), .sl 1 k l3] [] (.tup [.sl 1 j l4, I 0]) []) :
  PR E gl 17 [.sl 1 n l1, .fx 1 3 [.c (bs w1), .c (bs w2), .c (bs w3)]] [] (.tup [.sl 1 j l4, I 0]) [] := by
 refine fnZ H.hE (cfg := c0) (fuel := fuel) H.h17 (by kernel_rfl) ?_
 unfold t17
 repeat (first | refine af ?_ | refine aA ?_)
 exact ⟨rfl, rfl⟩
theorem G0 {w1 w2 w3 w4 w5 : List UInt8} {n1 n2 n3 n4 n5 n6 : Nat} {l1 l2 l3 l4 l5 l6 : List P} (h1 : PR E gl 13 [.c (bs w1), .sl 1 n1 l1] [] (.tup [.sl 1 n2 l2, I 0]) []) (h2 : PR E gl 13 [.c (bs w2), .sl 1 n2 l2] [] (.tup [.sl 1 n3 l3, I 0]) []) (h3 : PR E gl 13 [.c (bs w3), .sl 1 n3 l3] [] (.tup [.sl 1 n4 l4, I 0]) [])
  (h4 : PR E gl 13 [.c (bs w4), .sl 1 n4 l4] [] (.tup [.sl 1 n5 l5, I 0]) []) (h5 : PR E gl 13 [.c (bs w5), .sl 1 n5 l5] [] (.tup [.sl 1 n6 l6, I 0]) []) :
  PR E gl 17 [.sl 1 n1 l1, .fx 1 5 [.c (bs w1), .c (bs w2), .c (bs w3), .c (bs w4), .c (bs w5)]] [] (.tup [.sl 1 n6 l6, I 0]) [] := by
 refine fnZ H.hE (cfg := c0) (fuel := fuel) H.h17 (by kernel_rfl) ?_
 unfold t17
 repeat (first | refine af ?_ | refine aA ?_)
 exact ⟨rfl, rfl⟩
theorem G1 {w1 : List UInt8} {n : Nat} {l1 : List P} {e : Int} (he : e ≠ 0) (h1 : PR E gl 13 [.c (bs w1), .sl 1 n l1] [] (.tup [.c (.slice none 0 0), I e]) []) :
  PR E gl 17 [.sl 1 n l1, .fx 1 1 [.c (bs w1)]] [] (.tup [.c (.slice none 0 0), I e]) [] := by
 refine fnZ H.hE (cfg := c0) (fuel := fuel) H.h17 (by kernel_rfl) ?_
 unfold t17
 repeat (first | refine af ?_ | refine aA ?_)
 exact ⟨rfl, rfl⟩
theorem G2 {w1 w2 : List UInt8} {n : Nat} {l1 : List P} {e : Int} (he : e ≠ 0) (h1 : PR E gl 13 [.c (bs w1), .sl 1 n l1] [] (.tup [.c (.slice none 0 0), I e]) []) :
  PR E gl 17 [.sl 1 n l1, .fx 1 2 [.c (bs w1), .c (bs w2)]] [] (.tup [.c (.slice none 0 0), I e]) [] := by
 refine fnZ H.hE (cfg := c0) (fuel := fuel) H.h17 (by kernel_rfl) ?_
 unfold t17
 repeat (first | refine af ?_ | refine aA ?_)
 exact ⟨rfl, rfl⟩
theorem G3 {l : List Val} (hl : l.length <= 1048576) (hs : Val.smalls 1048576 l) (ht : V.smalls 1048576 (Val.trees l)) : PR E gl 18 [.sl 1 l.length (Val.ps l), .sl 4 l.length (V.ps (Val.trees l))] [] (Bo true) [] := by
 have h1 := m5 (gl := gl) H.hE H.conv hl hs
 have hn : (Val.trees l).length = l.length := by rw [Val.trees_map, List.length_map]
 have h2 := Fw H.toCln (l := Val.trees l) (by omega) ht
 rw [hn] at h1 h2
 refine fnZ H.hE (cfg := c0) (fuel := fuel) H.h18 (by kernel_rfl) ?_
 unfold t18
 repeat (first | refine af ?_ | refine aA ?_)
 exact ⟨rfl, rfl⟩
set_option maxHeartbeats 8000000 in
theorem G4 {va vb vc : V} (ha : va.val.chk vsR nmR = 0) (hb : vb.val.chk vsR nmR = 0) (hc : vc.val.chk vsR nmR = 0) (hs : V.smalls 1048576 [va, vb, vc]) (hu : Val.smalls 1048576 (V.vals [va, vb, vc])) (ht : V.smalls 1048576 (Val.trees (V.vals [va, vb, vc])))
  (hz : ∀ v, v ∈ [va, vb, vc] -> v.val.tree.sz <= 1048576) : PR E gl 4 [.agg va.p, .agg vb.p, .agg vc.p] [] (Bo true) [.cells va.p, .cells vb.p, .cells vc.p] := by
 have hvals : PR E gl 12 [.fx 4 3 (V.ps [va, vb, vc])] [] (.ow dE 1 3 (Val.ps (V.vals [va, vb, vc]))) [] := (rJ (gl := gl) H.hE H.conv (l := [va, vb, vc]) (by show 3 <= 1048576; decide) hs).pre (.cons _ _ _ _ (.fxsl _ _ _) .nil)
 have htrees : PR E gl 11 [.sl 1 3 (Val.ps (V.vals [va, vb, vc]))] [] (.ow tV 4 3 (V.ps (Val.trees (V.vals [va, vb, vc])))) [] := m5 (gl := gl) H.hE H.conv (l := V.vals [va, vb, vc]) (by show 3 <= 1048576; decide) hu
 have hsame : PR E gl 18 [.sl 1 3 (Val.ps (V.vals [va, vb, vc])), .sl 4 3 (V.ps (Val.trees (V.vals [va, vb, vc])))] [] (Bo true) [] := G3 H (l := V.vals [va, vb, vc]) (by show 3 <= 1048576; decide) hu ht
 have z1 := H.sound va.val.tree (hz va (by simp))
 have z2 := H.sound vb.val.tree (hz vb (by simp))
 have z3 := H.sound vc.val.tree (hz vc (by simp))
 rw [ko, ha, decide_eq_true rfl] at z1
 rw [ko, hb, decide_eq_true rfl] at z2
 rw [ko, hc, decide_eq_true rfl] at z3
 simp only [V.vals] at hu hvals htrees hsame ht
 generalize va.val = a at *
 generalize vb.val = b at *
 generalize vc.val = c at *
 obtain ⟨sa, sb, sc, _⟩ := hu
 have d1 := nG H (nE H ha hb hc sa sb sc) (nE H ha hc hb sa sc sb)
 have d2 := GZ H (nF H ha hb hc sa sb sc) (nF H hb hc ha sb sc sa) (nF H hc ha hb sc sa sb)
 have d3 := nG H (GQ H ha hb hc sa sb sc) (GR H ha hb hc hc sa sb sc sc)
 have d4 := G0 H (GS H ha hb hc sa sb sc) (GT H ha hb hc hb sa sb sc sb) (nE H ha hb hb sa sb sb) (GU H ha hb hb sa sb sb) (GV H ha hb sa sb)
 have d5 : (PR E gl 17 [.sl 1 3 (Val.ps [a, b, c]), .fx 1 2 [.c (bs b8), .c (bs cq)]] [] (.tup [.sl 1 3 (Val.ps [a, b, c]), I 0]) []) \/ (PR E gl 17 [.sl 1 3 (Val.ps [a, b, c]), .fx 1 2 [.c (bs b8), .c (bs cq)]] [] (.tup [.c (.slice none 0 0), I 11]) []) := by
  by_cases hl : (Val.list [b, c]).chk vsR nmR = 0
  ·exact .inl (nG H (GW H ha hb hc sa sb sc hl) (GY H ha hb hc sa sb sc hl))
  ·exact .inr (G2 H (by decide) (GX H ha hb hc sa sb sc hl))
 clear ha hb hc hs hz ht sa sb sc
 have haw := PR.frame H.awake rfl [.cells va.p, .cells vb.p, .cells vc.p]
 replace hvals := hvals.frame (by simp only [okm.okL, okm, dv, Bool.and_self]) [.cells va.p, .cells vb.p, .cells vc.p]
 replace htrees := htrees.frame (by simp only [okm.okL, okm, bw, Bool.and_self]) [.cells va.p, .cells vb.p, .cells vc.p]
 replace hsame := hsame.frame (by simp only [okm.okL, okm, bw, dv, Bool.and_self]) [.cells va.p, .cells vb.p, .cells vc.p]
 replace z1 := z1.frame (by simp only [okm.okL, okm, cX, Bool.and_self]) [.cells va.p, .cells vb.p, .cells vc.p]
 replace z2 := z2.frame (by simp only [okm.okL, okm, cX, Bool.and_self]) [.cells va.p, .cells vb.p, .cells vc.p]
 replace z3 := z3.frame (by simp only [okm.okL, okm, cX, Bool.and_self]) [.cells va.p, .cells vb.p, .cells vc.p]
 replace d1 := d1.frame (by simp only [okm.okL, okm, bw, Bool.and_self]) [.cells va.p, .cells vb.p, .cells vc.p]
 replace d2 := d2.frame (by simp only [okm.okL, okm, bw, Bool.and_self]) [.cells va.p, .cells vb.p, .cells vc.p]
 replace d3 := d3.frame (by simp only [okm.okL, okm, bw, Bool.and_self]) [.cells va.p, .cells vb.p, .cells vc.p]
 replace d4 := d4.frame (by simp only [okm.okL, okm, bw, Bool.and_self]) [.cells va.p, .cells vb.p, .cells vc.p]
 replace d5 := d5.imp (fun h => h.frame (by simp only [okm.okL, okm, bw, Bool.and_self]) [.cells va.p, .cells vb.p, .cells vc.p]) (fun h => h.frame (by simp only [okm.okL, okm, bw, Bool.and_self]) [.cells va.p, .cells vb.p, .cells vc.p])
 simp only [Val.trees, V.ps] at hvals htrees hsame z1 z2 z3
 generalize Val.tree a = ta at *
 generalize Val.tree b = tb at *
 generalize Val.tree c = tc at *
 generalize Val.ps [a, b, c] = la at *
 obtain ⟨ka, na, sa, ra⟩ := ta
 obtain ⟨kb, nb, sb, rb⟩ := tb
 obtain ⟨kc, nc, sc, rc⟩ := tc
 obtain ⟨k1, n1, s1, r1⟩ := va
 obtain ⟨k2, n2, s2, r2⟩ := vb
 obtain ⟨k3, n3, s3, r3⟩ := vc
 simp only [V.p, List.cons_append, List.nil_append] at *
 refine fnZ H.hE (cfg := c0) (fuel := fuel) H.h4 (by kernel_rfl) ?_
 unfold t4
 clear H
 rcases d5 with d5 | d5
 all_goals
  repeat (first | refine af ?_ | refine aA ?_ | refine aI (ed (sz := 1) rfl rfl rfl (by decide)) (by assumption) (Nat.le_refl _) ?_ | refine aI (ed (sz := 4) rfl rfl rfl (by decide)) (by assumption) (Nat.le_refl _) ?_ | refine aI (kQ (sz := 4) rfl rfl (by decide)) (by assumption) (Nat.le_refl _) ?_ | dsimp only [List.map, List.take, List.drop, fz])
  exact ⟨rfl, rfl⟩
set_option maxHeartbeats 8000000 in
theorem G5 {va vb vc : V} (hbad : ¬ (va.val.chk vsR nmR = 0 /\ vb.val.chk vsR nmR = 0 /\ vc.val.chk vsR nmR = 0)) (hs : V.smalls 1048576 [va, vb, vc]) (hu : Val.smalls 1048576 (V.vals [va, vb, vc]))
  (hz : ∀ v, v ∈ [va, vb, vc] -> v.val.tree.sz <= 1048576) : PR E gl 4 [.agg va.p, .agg vb.p, .agg vc.p] [] (Bo true) [.cells va.p, .cells vb.p, .cells vc.p] := by
 have hvals : PR E gl 12 [.fx 4 3 (V.ps [va, vb, vc])] [] (.ow dE 1 3 (Val.ps (V.vals [va, vb, vc]))) [] := (rJ (gl := gl) H.hE H.conv (l := [va, vb, vc]) (by show 3 <= 1048576; decide) hs).pre (.cons _ _ _ _ (.fxsl _ _ _) .nil)
 have htrees : PR E gl 11 [.sl 1 3 (Val.ps (V.vals [va, vb, vc]))] [] (.ow tV 4 3 (V.ps (Val.trees (V.vals [va, vb, vc])))) [] := m5 (gl := gl) H.hE H.conv (l := V.vals [va, vb, vc]) (by show 3 <= 1048576; decide) hu
 have z1 := H.sound va.val.tree (hz va (by simp))
 have z2 := H.sound vb.val.tree (hz vb (by simp))
 have z3 := H.sound vc.val.tree (hz vc (by simp))
 rw [ko] at z1 z2 z3
 simp only [V.vals] at hu hvals htrees
 generalize va.val = a at *
 generalize vb.val = b at *
 generalize vc.val = c at *
 have d1 : PR E gl 17 [.sl 1 3 (Val.ps [a, b, c]), .fx 1 1 [.c (bs dY)]] [] (.tup [.c (.slice none 0 0), I 1]) [] :=
  G1 H (by decide) (Fy H.toCln dY (l := [a, b, c]) (show 3 <= 1048576 by decide) hu fun h => hbad ⟨h a (by simp), h b (by simp), h c (by simp)⟩)
 clear hs hz hu
 have haw := PR.frame H.awake rfl [.cells va.p, .cells vb.p, .cells vc.p]
 replace hvals := hvals.frame (by simp only [okm.okL, okm, dv, Bool.and_self]) [.cells va.p, .cells vb.p, .cells vc.p]
 replace htrees := htrees.frame (by simp only [okm.okL, okm, bw, Bool.and_self]) [.cells va.p, .cells vb.p, .cells vc.p]
 replace z1 := z1.frame (by simp only [okm.okL, okm, cX, Bool.and_self]) [.cells va.p, .cells vb.p, .cells vc.p]
 replace z2 := z2.frame (by simp only [okm.okL, okm, cX, Bool.and_self]) [.cells va.p, .cells vb.p, .cells vc.p]
 replace z3 := z3.frame (by simp only [okm.okL, okm, cX, Bool.and_self]) [.cells va.p, .cells vb.p, .cells vc.p]
 replace d1 := d1.frame (by simp only [okm.okL, okm, bw, Bool.and_self]) [.cells va.p, .cells vb.p, .cells vc.p]
 simp only [Val.trees, V.ps] at hvals htrees z1 z2 z3
 generalize Val.tree a = ta at *
 generalize Val.tree b = tb at *
 generalize Val.tree c = tc at *
 generalize Val.ps [a, b, c] = la at *
 generalize Val.chk vsR nmR a = xa at *
 generalize Val.chk vsR nmR b = xb at *
 generalize Val.chk vsR nmR c = xc at *
 obtain ⟨ka, na, sa, ra⟩ := ta
 obtain ⟨kb, nb, sb, rb⟩ := tb
 obtain ⟨kc, nc, sc, rc⟩ := tc
 obtain ⟨k1, n1, s1, r1⟩ := va
 obtain ⟨k2, n2, s2, r2⟩ := vb
 obtain ⟨k3, n3, s3, r3⟩ := vc
 simp only [V.p, List.cons_append, List.nil_append] at *
 refine fnZ H.hE (cfg := c0) (fuel := fuel) H.h4 (by kernel_rfl) ?_
 unfold t4
 clear H
 have hcase : (decide (xa = 0) = false) \/ (decide (xa = 0) = true /\ decide (xb = 0) = false) \/ (decide (xa = 0) = true /\ decide (xb = 0) = true /\ decide (xc = 0) = false) := by
  by_cases e1 : xa = 0
  ·by_cases e2 : xb = 0
   ·exact .inr (.inr ⟨decide_eq_true e1, decide_eq_true e2, decide_eq_false fun e3 => hbad ⟨e1, e2, e3⟩⟩)
   ·exact .inr (.inl ⟨decide_eq_true e1, decide_eq_false e2⟩)
  ·exact .inl (decide_eq_false e1)
 clear hbad
 rcases hcase with e1 | ⟨e1, e2⟩ | ⟨e1, e2, e3⟩
 ·rw [e1] at z1
  clear z2 z3
  repeat (first | refine af ?_ | refine aA ?_ | refine aI (ed (sz := 1) rfl rfl rfl (by decide)) (by assumption) (Nat.le_refl _) ?_ | refine aI (ed (sz := 4) rfl rfl rfl (by decide)) (by assumption) (Nat.le_refl _) ?_ | refine aI (kQ (sz := 4) rfl rfl (by decide)) (by assumption) (Nat.le_refl _) ?_ | dsimp only [List.map, List.take, List.drop, fz])
  exact ⟨rfl, rfl⟩
 ·rw [e1] at z1
  rw [e2] at z2
  clear z3
  repeat (first | refine af ?_ | refine aA ?_ | refine aI (ed (sz := 1) rfl rfl rfl (by decide)) (by assumption) (Nat.le_refl _) ?_ | refine aI (ed (sz := 4) rfl rfl rfl (by decide)) (by assumption) (Nat.le_refl _) ?_ | refine aI (kQ (sz := 4) rfl rfl (by decide)) (by assumption) (Nat.le_refl _) ?_ | dsimp only [List.map, List.take, List.drop, fz])
  exact ⟨rfl, rfl⟩
 ·rw [e1] at z1
  rw [e2] at z2
  rw [e3] at z3
  repeat (first | refine af ?_ | refine aA ?_ | refine aI (ed (sz := 1) rfl rfl rfl (by decide)) (by assumption) (Nat.le_refl _) ?_ | refine aI (ed (sz := 4) rfl rfl rfl (by decide)) (by assumption) (Nat.le_refl _) ?_ | refine aI (kQ (sz := 4) rfl rfl (by decide)) (by assumption) (Nat.le_refl _) ?_ | dsimp only [List.map, List.take, List.drop, fz])
  exact ⟨rfl, rfl⟩
end
end Go.AM.PV
namespace Go.AM.PV
open Go Go.AM Go.AM.SX Go.Proofs
set_option maxRecDepth 1000000
set_option maxHeartbeats 0
theorem G6 : aC E1 cf0 2000 4 3 = some t4 := by kernel_rfl
theorem G7 : aC E1 cf0 2000 17 2 = some t17 := by kernel_rfl
theorem G8 : aC E1 cf0 2000 44 2 = some t44 := by kernel_rfl
theorem G9 : aC E1 cf0 2000 45 2 = some t45 := by kernel_rfl
theorem Ga : aC E1 cf0 2000 47 1 = some (t47 bH) := by kernel_rfl
theorem Gb : aC E1 cf0 2000 73 2 = some t73 := by kernel_rfl
theorem Gc (w : List UInt8 × List UInt8) (h : knw E1 25 [bs w.1] = some (eG w)) : PR E1 glK 25 [.c (bs w.1)] [] (.c (.tuple #[bs w.2, .bool true])) [] :=
 PR.known (k := eG w) h (fun r hr => by
  simp only [eG, List.mem_cons, List.not_mem_nil, or_false] at hr
  subst hr
  exact ⟨by simp [glK], by show 0 < 3; omega⟩) rfl []
theorem sP : Stk E1 glK bH cf0 cf1 cf2 2000 :=
 { FZ with
   h47 := Ga, h44 := G8, h45 := G9, h73 := Gb, h17 := G7, h4 := G6
   wants := fun w hw => by
     simp only [List.mem_cons, List.not_mem_nil, or_false] at hw
     rcases hw with rfl | rfl | rfl | rfl | rfl | rfl | rfl | rfl <;> exact Gc _ rfl }
theorem Gd (va vb vc : V) (h : va.sz + vb.sz + vc.sz <= 1048576) : ∃ μ, PR E1 glK 4 [.agg va.p, .agg vb.p, .agg vc.p] [] (Bo true) μ := by
 have hs : V.smalls 1048576 [va, vb, vc] := V.smalls_of _ (by simp only [V.szs]; omega)
 have hu : Val.smalls 1048576 (V.vals [va, vb, vc]) := mj _ (by simp only [V.szs]; omega)
 have hts := mo [va, vb, vc]
 have ht : V.smalls 1048576 (Val.trees (V.vals [va, vb, vc])) := V.smalls_of _ (Nat.le_trans hts (by simp only [V.szs]; omega))
 have hz : ∀ v, v ∈ [va, vb, vc] -> v.val.tree.sz <= 1048576 := by
  intro v hv
  have h1 := mn v
  simp only [List.mem_cons, List.not_mem_nil, or_false] at hv
  rcases hv with rfl | rfl | rfl <;> omega
 by_cases hg : va.val.chk vsR nmR = 0 /\ vb.val.chk vsR nmR = 0 /\ vc.val.chk vsR nmR = 0
 ·exact ⟨_, G4 sP hg.1 hg.2.1 hg.2.2 hs hu ht hz⟩
 ·exact ⟨_, G5 sP hg hs hu hz⟩
end Go.AM.PV
namespace Go.Proofs.YtilbjefgojocaaaGreatDoor
open Go Go.ChangeMaps Go.ChangeShapes Go.WideShapes Go.ChangeAt Go.RowKit Go.AM Go.AM.SX Go.AM.PV
set_option maxRecDepth 1000000
theorem Ge (H : Type) (enc : TypeId × Value -> H) (W : World) (base : Nat) (args : Array Value) (ds gs : List (DataW H)) (before : List MemPlace)
  (hval0 : ∀ (j : Nat) t v, Tryz.f4.params[j]? = some t -> args[j]? = some v -> Value.okWide Tryz.prog W .any base t v)
  (hW : DataW.Whole enc Tryz.prog Tryz.f4.params.toList Rows.primStacksSpec.vars false W args.toList ds gs before) (hk : Rows.uptoSmall H (ds ++ gs) = true) (hL : laidMetH Tryz.prog laidB W) :
  Calls Tryz.prog 4 args W fun e W' => ∃ v, e = .returned v /\ Rows.primStacksSpec.post enc Tryz.prog Tryz.f4 false true false false W args v W' := by
 have hval := hval0
 have hW' := hW
 obtain ⟨p, q, hA0, hV, rfl, _, _⟩ := hW
 have hA : DataW.TrodAll enc Tryz.prog W 0 (fun _ => true) true Tryz.f4.params.toList args.toList ds p := hA0
 obtain ⟨rfl, rfl⟩ := trodVars_none hV
 simp only [List.append_nil] at hW' hk
 have hlt : ∀ x, x ∈ p -> x.block < W.heap.size := fun x hx => hW'.lt x hx
 have hag : ∀ W' : World, W.keptBut W' (fun _ => False) -> DataW.TrodAll enc Tryz.prog W' 0 (fun b => decide (b < W.heap.size)) true Tryz.f4.params.toList args.toList ds p := fun W' hg =>
  CY Fg Fh Fi (by kernel_rfl) hA hlt hg
 have hb : Rows.uptoBulkAll ds <= 1048576 := of_decide_eq_true hk
 have hA1 := hA
 rw [Tryz.params4] at hA1 hval
 have hcalls : Calls Tryz.prog 4 args W fun e w' => e = .returned (.bool true) /\ W.keptBut w' (fun _ => False) := by
  refine CX (ok1 ByteArray.empty) (f := 4) (gl := glK) (ts := tsV) (tl := [35, 35, 35]) rfl F3 (Nat.le_refl 3) (by decide) F4 F5 F6 (Ff hL) (by decide) hA1 (fun j t v h1 h2 => hval j t v (by simpa using h1) (by simpa using h2)) ?_
  intro ps h
  clear hag hlt hA hA0 hA1 hval hval0 hW' hk hV hL
  obtain ⟨d1, _, p1, _, rfl, rfl, h1, h⟩ := mg h
  obtain ⟨d2, _, p2, _, rfl, rfl, h2, h⟩ := mg h
  obtain ⟨d3, _, p3, _, rfl, rfl, h3, h⟩ := mg h
  obtain ⟨rfl, rfl⟩ := C3 h
  obtain ⟨va, rfl, ha⟩ := nB h1
  obtain ⟨vb, rfl, hb2⟩ := nB h2
  obtain ⟨vc, rfl, hc⟩ := nB h3
  simp only [Rows.uptoBulkAll] at hb
  exact Gd va vb vc (by omega)
 have hds : ∃ d0 d1 d2, ds = [d0, d1, d2] := by
  clear hcalls hag hW' hk hb
  obtain ⟨v0, vs0, d0, ds0, p0, q0, hv0, rfl, rfl, h0, r0⟩ := trodAll_cons hA1
  obtain ⟨v1, vs1, d1, ds1, p1, q1, hv1, rfl, rfl, h1, r1⟩ := trodAll_cons r0
  obtain ⟨v2, vs2, d2, ds2, p2, q2, hv2, rfl, rfl, h2, r2⟩ := trodAll_cons r1
  obtain ⟨_, rfl, _⟩ := trodAll_nil r2
  exact ⟨d0, d1, d2, rfl⟩
 obtain ⟨d0, d1, d2, rfl⟩ := hds
 refine hcalls.mono fun e W' ⟨he, hg⟩ => ?_
 subst he
 refine ⟨_, rfl, _, _, _, [], p, [], hW', ?_, ?_, ?_, ?_, fun h => by cases h⟩
 ·exact trodAll_mk1 (shut_bool Tryz.underlying4 true)
 ·exact hag W' hg
 ·rfl
 ·exact World.keptBut_mono (fun _ h => h.elim) hg
theorem Gf (os : Os) {H : Type} (enc : TypeId × Value -> H) : ∃ places, DataW.whole enc Tryz.prog ((World.laidAll Tryz.prog os Rows.primStacksUptoRow.laid).forCall (fun _ _ => 0) ⟨#[], #[.agg #[.int .i64 0, .int .i64 0, .string .empty, .slice none 0 0], .agg #[.int .i64 0, .int .i64 0, .string .empty, .slice none 0 0], .agg #[.int .i64 0, .int .i64 0, .string .empty, .slice none 0 0]], []⟩).memory Tryz.f4.params.toList Rows.primStacksSpec.vars false (#[.agg #[.int .i64 0, .int .i64 0, .string .empty, .slice none 0 0], .agg #[.int .i64 0, .int .i64 0, .string .empty, .slice none 0 0], .agg #[.int .i64 0, .int .i64 0, .string .empty, .slice none 0 0]] : Array Value).toList 8 = some ([.agg [.lit (.int .i64 0), .lit (.int .i64 0), .lit (.string []), .nil], .agg [.lit (.int .i64 0), .lit (.int .i64 0), .lit (.string []), .nil], .agg [.lit (.int .i64 0), .lit (.int .i64 0), .lit (.string []), .nil]], [], places) :=
 ⟨[], by kernel_rfl⟩
theorem Gg (os : Os) : ((World.laidAll Tryz.prog os Rows.primStacksUptoRow.laid).forCall (fun _ _ => 0) ⟨#[], #[.agg #[.int .i64 0, .int .i64 0, .string .empty, .slice none 0 0], .agg #[.int .i64 0, .int .i64 0, .string .empty, .slice none 0 0], .agg #[.int .i64 0, .int .i64 0, .string .empty, .slice none 0 0]], []⟩).Shaped Tryz.prog := World.shaped_of_ZipB (by kernel_rfl) (by kernel_rfl)
theorem sQ (os : Os) : Input.okWideB Tryz.prog ((World.laidAll Tryz.prog os Rows.primStacksUptoRow.laid).forCall (fun _ _ => 0) ⟨#[], #[.agg #[.int .i64 0, .int .i64 0, .string .empty, .slice none 0 0], .agg #[.int .i64 0, .int .i64 0, .string .empty, .slice none 0 0], .agg #[.int .i64 0, .int .i64 0, .string .empty, .slice none 0 0]], []⟩) 4 ⟨#[], #[.agg #[.int .i64 0, .int .i64 0, .string .empty, .slice none 0 0], .agg #[.int .i64 0, .int .i64 0, .string .empty, .slice none 0 0], .agg #[.int .i64 0, .int .i64 0, .string .empty, .slice none 0 0]], []⟩ = true := by kernel_rfl
theorem Gh (os : Os) {H : Type} (enc : TypeId × Value -> H) : Rows.primStacksSpec.sizedB enc Tryz.prog Tryz.f4 false ((World.laidAll Tryz.prog os Rows.primStacksUptoRow.laid).forCall (fun _ _ => 0) ⟨#[], #[.agg #[.int .i64 0, .int .i64 0, .string .empty, .slice none 0 0], .agg #[.int .i64 0, .int .i64 0, .string .empty, .slice none 0 0], .agg #[.int .i64 0, .int .i64 0, .string .empty, .slice none 0 0]], []⟩).memory #[.agg #[.int .i64 0, .int .i64 0, .string .empty, .slice none 0 0], .agg #[.int .i64 0, .int .i64 0, .string .empty, .slice none 0 0], .agg #[.int .i64 0, .int .i64 0, .string .empty, .slice none 0 0]] 8 = true := by kernel_rfl
theorem Gi (os : Os) : laidMetH Tryz.prog Rows.primStacksUptoRow.laid ((World.laidAll Tryz.prog os Rows.primStacksUptoRow.laid).forCall (fun _ _ => 0) ⟨#[], #[.agg #[.int .i64 0, .int .i64 0, .string .empty, .slice none 0 0], .agg #[.int .i64 0, .int .i64 0, .string .empty, .slice none 0 0], .agg #[.int .i64 0, .int .i64 0, .string .empty, .slice none 0 0]], []⟩).memory := by
 rw [MakeChecks.laidMetH_plain _ _ _ (by kernel_rfl)]
 exact laidMet_laidAll _ (by kernel_rfl) (by kernel_rfl)
theorem Gj (os : Os) (started : os.Started) (H : Type) (enc : TypeId × Value -> H) (F : Stop.Interp) :
  ReturnsInHanded {} Tryz.checked os 4 .any ((Rows.OpenSpec.upto Rows.primStacksSpec).preRow enc Tryz.prog Tryz.f4 Rows.primStacksUptoRow.domain false Rows.primStacksUptoRow.laid) (((Rows.OpenSpec.upto Rows.primStacksSpec).at F).post enc Tryz.prog Tryz.f4 false true false false) := by
 obtain ⟨places, hx⟩ := Gf os enc
 refine returnsInHanded_of_row (C := Tryz.checked) (s := Rows.OpenSpec.upto Rows.primStacksSpec) Fj started (by kernel_rfl) Tryz.func4
  ⟨World.laidAll Tryz.prog os Rows.primStacksUptoRow.laid, fun _ _ => 0, ⟨#[], #[.agg #[.int .i64 0, .int .i64 0, .string .empty, .slice none 0 0], .agg #[.int .i64 0, .int .i64 0, .string .empty, .slice none 0 0], .agg #[.int .i64 0, .int .i64 0, .string .empty, .slice none 0 0]], []⟩, World.laidAll_os _ _ _, Gg os, (Input.okWide_of_okWideB (base := 0) (sQ os)).1, (Input.okWide_of_okWideB (sQ os)).2,
   OpenSpec.preRow_of_cond 8 hx rfl (fun k hk => by cases hk; kernel_rfl) (Gh os enc) (Gi os), by
    simp only [Assume.holds]
    exact ⟨by simp, by simp, fun _ => Modest.zero, by simp, by simp⟩⟩ ?_
 intro W base args ds gs before hval hW _ hcond _ hL _ _
 exact Ge H enc W base args ds gs before hval hW (hcond _ rfl) hL
theorem Gk : Tryz.pinned.checked.prog.funcNamed Rows.primStacksUptoRow.func = some 4 := by kernel_rfl
theorem Gm : (Rows.primStacksUptoRow.wf (OpenSpec.ofChange Rows.primStacksSpec) : Bool) = true := by kernel_rfl
theorem Gn : (laidOutB Tryz.prog : Bool) = true := by kernel_rfl
theorem Gp : (mapsRowed Tryz.prog : Bool) = true := by kernel_rfl
theorem Gq : (Tryz.f4.params.all (Tryz.prog.readableRec ·) : Bool) = true := by kernel_rfl
theorem Gr : (namedTie Tryz.prog Rows.primStacksUptoRow.named Rows.primStacksSpec.vars : Bool) = true := by kernel_rfl
theorem Gs : ((Rows.primStacksUptoRow.stops == []) : Bool) = true := by kernel_rfl
theorem Gt : ((Tryz.prog.stops == []) : Bool) = true := by kernel_rfl
theorem Gu : ((Rows.primStacksUptoRow.knobs == []) : Bool) = true := by kernel_rfl
theorem Gv : ((Tryz.prog.stopKnobs == []) : Bool) = true := by kernel_rfl
theorem Gw : ((Rows.primStacksUptoRow.inPlace == Tryz.prog.inPlace 4) : Bool) = true := by kernel_rfl
theorem Gx : ((Rows.primStacksUptoRow.unfollowed == Tryz.prog.unfollowed 4) : Bool) = true := by kernel_rfl
theorem Gy : ((Rows.primStacksUptoRow.recurses == Tryz.prog.recurses 4) : Bool) = true := by kernel_rfl
theorem Gz : ((Rows.primStacksUptoRow.named == Tryz.prog.varsNamed 4) : Bool) = true := by kernel_rfl
theorem HA : ((Rows.primStacksUptoRow.maps == (Tryz.f4.params.toList ++ Rows.primStacksSpec.plain.varTypes Tryz.prog).any (Tryz.prog.mapsRec ·)) : Bool) = true := by kernel_rfl
theorem HB : ((Rows.primStacksUptoRow.ifaces == (Tryz.f4.params.toList ++ Rows.primStacksSpec.plain.varTypes Tryz.prog).any (Tryz.prog.ifacesRec ·)) : Bool) = true := by kernel_rfl
theorem HC : ((Rows.primStacksUptoRow.mapsOut == Tryz.prog.mapsAmong Tryz.f4.resultTypes.toList) : Bool) = true := by kernel_rfl
theorem HD : ((Rows.primStacksUptoRow.loops == (Tryz.f4.params.toList ++ Rows.primStacksSpec.plain.varTypes Tryz.prog).any (Tryz.prog.loopsFrom ·)) : Bool) = true := by kernel_rfl
theorem HE : ((Rows.primStacksUptoRow.wideKeys == (Tryz.f4.params.toList ++ Rows.primStacksSpec.plain.varTypes Tryz.prog ++ Tryz.f4.resultTypes.toList).any (Tryz.prog.wideKeysFrom ·)) : Bool) = true := by kernel_rfl
theorem HF : (Rows.primStacksSpec.vars.all (Tryz.prog.varReadable ·) : Bool) = true := by kernel_rfl
theorem HG : (Tryz.f4.resultTypes.all (fun t => Tryz.prog.readableRec t && decide (t < Tryz.prog.types.size)) : Bool) = true := by kernel_rfl
theorem HH : ((Rows.primStacksUptoRow.ifacesOut == Tryz.f4.resultTypes.toList.any (Tryz.prog.ifacesRec ·)) : Bool) = true := by kernel_rfl
theorem HI : ((Rows.primStacksUptoRow.loopsOut == Tryz.f4.resultTypes.toList.any (Tryz.prog.loopsFrom ·)) : Bool) = true := by kernel_rfl
theorem HJ : ((Rows.primStacksUptoRow.plainKeys == Tryz.prog.plainKeys) : Bool) = true := by kernel_rfl
theorem HK : (Rows.primStacksUptoRow.shortTexts.isNone : Bool) = true := by kernel_rfl
theorem HL : (Tryz.prog.stopsHeard : Bool) = true := by kernel_rfl
theorem HM : (Tryz.prog.mayEnter : Bool) = true := by kernel_rfl
theorem HN : ((Rows.primStacksUptoRow.lifted == Tryz.prog.liftsFinal) : Bool) = true := by kernel_rfl
theorem HO : ((Tryz.prog.make == some Rows.primStacksUptoRow.make) : Bool) = true := by kernel_rfl
theorem HP : ((Rows.primStacksUptoRow.kinds == (if Rows.primStacksUptoRow.domain.isEmpty then [] else Tryz.f4.params.toList.map fun t => match Tryz.prog.underlying t with | some (.int k) => some k | _ => none)) : Bool) = true := by kernel_rfl
theorem HQ : ((Rows.primStacksUptoRow.pinned == Rows.primStacksUptoRow.pinnedBy) : Bool) = true := by kernel_rfl
theorem HR : ((Rows.primStacksUptoRow.veiled == (Tryz.f4.params.toList ++ Rows.primStacksSpec.plain.varTypes Tryz.prog ++ Tryz.f4.resultTypes.toList).any (Tryz.prog.veiledRec ·)) : Bool) = true := by kernel_rfl
theorem HT : (Rows.primStacksUptoRow.veiledFits Tryz.prog Tryz.f4.params.toList (Tryz.f4.params.toList ++ Rows.primStacksSpec.plain.varTypes Tryz.prog ++ Tryz.f4.resultTypes.toList) : Bool) = true := by kernel_rfl
set_option maxRecDepth 100000 in
theorem HU : joinedFacts Tryz.pinned.checked.prog 4 Tryz.f4 Rows.primStacksSpec Rows.primStacksUptoRow = true := by
 unfold joinedFacts
 simp only [Bool.and_eq_true]
 exact ⟨⟨⟨⟨⟨⟨⟨⟨⟨⟨⟨⟨⟨⟨⟨⟨⟨⟨⟨⟨⟨⟨⟨⟨⟨⟨⟨⟨⟨⟨⟨Gm, Gn⟩, Gp⟩, Gq⟩, Gr⟩, Gs⟩, Gt⟩, Gu⟩, Gv⟩, Gw⟩, Gx⟩, Gy⟩, Gz⟩, HA⟩, HB⟩, HC⟩, HD⟩, HE⟩, HF⟩, HG⟩, HH⟩, HI⟩, HJ⟩, HK⟩, HL⟩, HM⟩, HN⟩, HO⟩, HP⟩, HQ⟩, HR⟩, HT⟩
theorem HV : Tryz.f4.isInstance Tryz.pinned.checked.prog Rows.primStacksUptoRow.origin Rows.primStacksUptoRow.targs := of_decide_eq_true (by kernel_rfl)
theorem HW : Tryz.f4.isWrapper Tryz.pinned.checked.prog Rows.primStacksUptoRow.wrapper Rows.primStacksUptoRow.mainSum := by
 unfold Func.isWrapper; first | (rw [if_pos (by decide +kernel)]; kernel_rfl) | (rw [if_neg (by decide +kernel)]; exact ⟨rfl, rfl⟩)
theorem HX : Rows.PrimStacksUptoSaid :=
 OpenClaim.holds_of_cond 4 Tryz.f4 rfl rfl rfl rfl rfl rfl rfl ⟨rfl, rfl, rfl, rfl, rfl⟩ rfl rfl rfl rfl rfl Gk Tryz.func4 HU HV HW
  (fun os started H enc _ F => by rw [OpenClaim.pre_eq_preRow]; exact Gj os started H enc F)
theorem primStacks_card : Rows.PrimStacksUptoCardSaid :=
 Claim7.holds_tied_plain_at .later [] [.data, .data, .data, .data, .listed, .data, .pinned] true (true, "ea4f6b5ab0f0a490235b1b4dfac6ff680351ac7800976076e1933e8a1c5a3a5d") true HX (fun _ h => by cases h) (by kernel_rfl) (fun _ h => by cases h) primStacksUpto_row_tie rfl ⟨rfl, rfl⟩ (by kernel_rfl) rfl
  (fun f fn hf hfn => by
   obtain rfl : f = 4 := Option.some.inj ((show Tryz.prog.funcNamed Rows.primStacksUptoRow.func = some 4 by kernel_rfl).symm.trans hf) |>.symm
   obtain rfl : fn = Tryz.f4 := (Option.some.inj (Tryz.func4.symm.trans hfn)).symm
   exact ⟨by kernel_rfl, fun j t ht => by
    rw [Tryz.params4] at ht
    have hm : t ∈ [35, 35, 35] := by simpa using Array.mem_of_getElem? ht
    have hall : ([35, 35, 35] : List TypeId).all (fun t => !Tryz.prog.wantsStandIn t) = true := by kernel_rfl
    have h1 : Tryz.prog.wantsStandIn t = false := by simpa using List.all_eq_true.1 hall t hm
    exact h1⟩)
  (by kernel_rfl)

end Go.Proofs.YtilbjefgojocaaaGreatDoor
