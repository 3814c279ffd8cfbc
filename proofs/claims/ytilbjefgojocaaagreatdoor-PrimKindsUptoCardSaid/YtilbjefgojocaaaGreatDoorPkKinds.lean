/- The law PrimKinds returns true, and what was there stays, wherever its arguments and the listed variables are of bulk at most 1048576. No condition beyond the statement's own. -/
import Derived.Test.YtilbjefgojocaaaGreatDoorProg
import Derived.Ground.NamesProg
import Derived.WalkKit
import Derived.WalkMore
import Derived.Below
import Derived.Shelf.Unicode.ValidAny
import Derived.Shelf.Unicode.DecodeAny
import Derived.Test.YtilbjefgojocaaaGreatDoorPvZ1
import Derived.Test.YtilbjefgojocaaaGreatDoorPbCat
import Derived.Test.YtilbjefgojocaaaGreatDoorPbMeas
import Derived.Test.YtilbjefgojocaaaGreatDoorPvLaw
import Derived.Test.YtilbjefgojocaaaGreatDoorRows
import Derived.ProofKit
import Derived.Test.YtilbjefgojocaaaGreatDoorTie
import Derived.Test.YtilbjefgojocaaaGreatDoorCards
import Derived.OpenShut
import Derived.LaidMore
import Derived.Lay
import Derived.SevenTiedAt
import Derived.Stop.Joined
import Derived.Deep.DeepHandedRow
import Derived.JoinedCond
namespace Go.Proofs
open Go.Shelf
def Tryz.laysValid_ren : Go.Shelf.Ren := ⟨fun | 196 => 64 | 259 => 101 | n => n, fun | 9 => 9 | 4 => 4 | 3 => 3 | 5 => 5 | 12 => 12 | 119 => 154 | 0 => 0 | 46 => 107 | 139 => 160 | 138 => 159 | 53 => 165 | n => n, fun | 3 => 1 | 4 => 2 | n => n⟩
theorem Tryz.laysValid : Go.Proofs.Lays.n196 Tryz.prog Tryz.laysValid_ren := {
 mixed := by kernel_rfl
 f196 := Tryz.func64.trans (congrArg some (by kernel_rfl))
 f259 := Tryz.func101.trans (congrArg some (by kernel_rfl))
 t0 := Tryz.underlying0
 a0 := Tryz.isAgg0
 z0 := Tryz.sizeOf0
 v0 := Tryz.zeroValue0
 t3 := Tryz.underlying3
 a3 := Tryz.isAgg3
 z3 := Tryz.sizeOf3
 v3 := Tryz.zeroValue3
 t4 := Tryz.underlying4
 a4 := Tryz.isAgg4
 z4 := Tryz.sizeOf4
 v4 := Tryz.zeroValue4
 t5 := Tryz.underlying5
 a5 := Tryz.isAgg5
 z5 := Tryz.sizeOf5
 v5 := Tryz.zeroValue5
 t9 := Tryz.underlying9
 a9 := Tryz.isAgg9
 z9 := Tryz.sizeOf9
 v9 := Tryz.zeroValue9
 t12 := Tryz.underlying12
 a12 := Tryz.isAgg12
 z12 := Tryz.sizeOf12
 v12 := Tryz.zeroValue12
 t46 := Tryz.underlying107
 a46 := Tryz.isAgg107
 z46 := Tryz.sizeOf107
 v46 := Tryz.zeroValue107
 t53 := Tryz.underlying165
 a53 := Tryz.isAgg165
 z53 := Tryz.sizeOf165
 v53 := Tryz.zeroValue165
 t119 := Tryz.underlying154
 a119 := Tryz.isAgg154
 z119 := Tryz.sizeOf154
 t138 := Tryz.underlying159
 a138 := Tryz.isAgg159
 z138 := Tryz.sizeOf159
 v138 := Tryz.zeroValue159
 t139 := Tryz.underlying160
 a139 := Tryz.isAgg160
 z139 := Tryz.sizeOf160
 v139 := Tryz.zeroValue160
 g3 := by kernel_rfl
 g4 := by kernel_rfl }
def Tryz.laysDecode_ren : Go.Shelf.Ren := ⟨fun | 197 => 145 | 260 => 165 | n => n, fun | 9 => 9 | 21 => 21 | 3 => 3 | 4 => 4 | 5 => 5 | 105 => 208 | 119 => 154 | 0 => 0 | 46 => 107 | 139 => 160 | 138 => 159 | n => n, fun | 3 => 1 | 4 => 2 | n => n⟩
theorem Tryz.laysDecode : Go.Proofs.Lays.n197 Tryz.prog Tryz.laysDecode_ren := {
 mixed := by kernel_rfl
 f197 := Tryz.func145.trans (congrArg some (by kernel_rfl))
 f260 := Tryz.func165.trans (congrArg some (by kernel_rfl))
 t0 := Tryz.underlying0
 a0 := Tryz.isAgg0
 z0 := Tryz.sizeOf0
 v0 := Tryz.zeroValue0
 t3 := Tryz.underlying3
 a3 := Tryz.isAgg3
 z3 := Tryz.sizeOf3
 v3 := Tryz.zeroValue3
 t4 := Tryz.underlying4
 a4 := Tryz.isAgg4
 z4 := Tryz.sizeOf4
 v4 := Tryz.zeroValue4
 t5 := Tryz.underlying5
 a5 := Tryz.isAgg5
 z5 := Tryz.sizeOf5
 v5 := Tryz.zeroValue5
 t9 := Tryz.underlying9
 a9 := Tryz.isAgg9
 z9 := Tryz.sizeOf9
 v9 := Tryz.zeroValue9
 t21 := Tryz.underlying21
 a21 := Tryz.isAgg21
 z21 := Tryz.sizeOf21
 v21 := Tryz.zeroValue21
 t46 := Tryz.underlying107
 a46 := Tryz.isAgg107
 z46 := Tryz.sizeOf107
 v46 := Tryz.zeroValue107
 t105 := Tryz.underlying208
 a105 := Tryz.isAgg208
 z105 := Tryz.sizeOf208
 v105 := Tryz.zeroValue208
 t119 := Tryz.underlying154
 a119 := Tryz.isAgg154
 z119 := Tryz.sizeOf154
 t138 := Tryz.underlying159
 a138 := Tryz.isAgg159
 z138 := Tryz.sizeOf159
 v138 := Tryz.zeroValue159
 t139 := Tryz.underlying160
 a139 := Tryz.isAgg160
 z139 := Tryz.sizeOf160
 v139 := Tryz.zeroValue160
 g3 := by kernel_rfl
 g4 := by kernel_rfl }
end Go.Proofs
namespace Go.AM.PV
open Go Go.AM Go.AM.SX Go.Proofs
def firstCells : List Value := (List.range 256).map fun c => .int .u8 (Lib.firstT c)
def accCells : List Value := ((List.range 16).map fun i => [Value.int .u8 (Lib.accLo i), Value.int .u8 (Lib.accHi i)]).flatten
def rFirst : GRow := { g := 1, cells := firstCells, elem := 0 }
def rAcc : GRow := { g := 2, cells := accCells, elem := 0 }
def kValid (s : ByteArray) : Known := { f := 64, args := [.string s], looks := [rFirst, rAcc], v := .bool (Lib.validD s.data.toList), cnt := 0, objs := [] }
theorem firstCells_at (c : Nat) (h : c < 256) : firstCells[c]? = some (.int .u8 (Lib.firstT c)) := by
 unfold firstCells
 rw [List.getElem?_map, List.getElem?_range h]
 rfl
theorem accCells_at : ∀ i, i < 16 → accCells[2 * i]? = some (.int .u8 (Lib.accLo i)) ∧ accCells[2 * i + 1]? = some (.int .u8 (Lib.accHi i))
 | 0, _ => ⟨rfl, rfl⟩
 | 1, _ => ⟨rfl, rfl⟩
 | 2, _ => ⟨rfl, rfl⟩
 | 3, _ => ⟨rfl, rfl⟩
 | 4, _ => ⟨rfl, rfl⟩
 | 5, _ => ⟨rfl, rfl⟩
 | 6, _ => ⟨rfl, rfl⟩
 | 7, _ => ⟨rfl, rfl⟩
 | 8, _ => ⟨rfl, rfl⟩
 | 9, _ => ⟨rfl, rfl⟩
 | 10, _ => ⟨rfl, rfl⟩
 | 11, _ => ⟨rfl, rfl⟩
 | 12, _ => ⟨rfl, rfl⟩
 | 13, _ => ⟨rfl, rfl⟩
 | 14, _ => ⟨rfl, rfl⟩
 | 15, _ => ⟨rfl, rfl⟩
 | n + 16, h => absurd h (by omega)
theorem kValid_ok (nm : Nm) (s : ByteArray) (hs : s.size ≤ 9223372036854775807) : KnownOk Tryz.prog nm (kValid s) where
 calls := by
  intro w hw
  obtain ⟨t1, z1, h1⟩ := hw rFirst (by simp [kValid])
  obtain ⟨t2, z2, h2⟩ := hw rAcc (by simp [kValid])
  have hT : Lib.Utf8Tabs (Tryz.laysValid_ren.g 3) (Tryz.laysValid_ren.g 4) w := by
   show Lib.Utf8Tabs 1 2 w
   refine ⟨fun c hc => ?_, fun i hi => ?_⟩
   ·show w.cell? ⟨1, c, none⟩ = _
    have h1 : w.heap[1]? = some (.cells firstCells.toArray t1 z1) := h1
    simp only [World.cell?, h1, List.getElem?_toArray]
    exact firstCells_at c hc
   ·have h2 : w.heap[2]? = some (.cells accCells.toArray t2 z2) := h2
    simp only [World.cell?, h2, List.getElem?_toArray]
    exact accCells_at i hi
  have hc : Calls Tryz.prog 64 #[.string s] w _ := Any.utf8_ValidString Tryz.laysValid s w hs hT
  refine hc.mono ?_
  rintro e w' ⟨he, hb⟩
  refine ⟨fun _ => none, .bool (Lib.validD s.data.toList), fun _ _ h => (by cases h), fun _ _ => rfl, fun _ h => (by cases h), fun _ _ _ _ h => (by cases h), hb.block, hb.size, ⟨hb.tape, hb.os, hb.output⟩, .bool _, he⟩
 shal := rfl
 shalR := rfl
 plain := rfl
def kDecode (s : ByteArray) : Known := { f := 145, args := [.string s], looks := [rFirst, rAcc], v := .tuple #[.int .i32 (Lib.decodeGo s).1, .int .i64 (Lib.decodeGo s).2], cnt := 0, objs := [] }
theorem tabs_of {w : World} {t1 t2 : TypeId} {z1 z2 : Nat × Nat} (h1 : w.heap[1]? = some (.cells firstCells.toArray t1 z1)) (h2 : w.heap[2]? = some (.cells accCells.toArray t2 z2)) : Lib.Utf8Tabs 1 2 w := by
 refine ⟨fun c hc => ?_, fun i hi => ?_⟩
 ·simp only [World.cell?, h1, List.getElem?_toArray]
  exact firstCells_at c hc
 ·simp only [World.cell?, h2, List.getElem?_toArray]
  exact accCells_at i hi
theorem kDecode_ok (nm : Nm) (s : ByteArray) : KnownOk Tryz.prog nm (kDecode s) where
 calls := by
  intro w hw
  obtain ⟨t1, z1, h1⟩ := hw rFirst (by simp [kDecode])
  obtain ⟨t2, z2, h2⟩ := hw rAcc (by simp [kDecode])
  have hT : Lib.Utf8Tabs (Tryz.laysDecode_ren.g 3) (Tryz.laysDecode_ren.g 4) w := tabs_of h1 h2
  have hc : Calls Tryz.prog 145 #[.string s] w _ := Any.utf8_DecodeRuneInString Tryz.laysDecode s w hT
  refine hc.mono ?_
  rintro e w' ⟨he, hb⟩
  refine ⟨fun _ => none, .tuple #[.int .i32 (Lib.decodeGo s).1, .int .i64 (Lib.decodeGo s).2], fun _ _ h => (by cases h), fun _ _ => rfl, fun _ h => (by cases h), fun _ _ _ _ h => (by cases h), hb.block, hb.size, ⟨hb.tape, hb.os, hb.output⟩, ?_, he⟩
  exact .tuple' (.of rfl fun i hi => by
   match i, hi with
   | 0, _ => exact .int _ _
   | 1, _ => exact .int _ _)
 shal := rfl
 shalR := rfl
 plain := rfl
/-- The laws known from elsewhere. -/
def xtU (f : FuncId) (vs : List Value) : Option Known := match f, vs with
 | 64, [.string s] => if s.size ≤ 9223372036854775807 then some (kValid s) else none
 | 145, [.string s] => some (kDecode s)
 | _, _ => none
theorem xtU_ok (nm : Nm) : ∀ f vs k, xtU f vs = some k → KnownOk Tryz.prog nm k ∧ k.f = f ∧ k.args = vs := by
 intro f vs k h
 unfold xtU at h
 split at h
 ·split at h
  ·rename_i hs
   cases h
   exact ⟨kValid_ok nm _ hs, rfl, rfl⟩
  ·cases h
 ·cases h
  exact ⟨kDecode_ok nm _, rfl, rfl⟩
 ·cases h
theorem valid_pr {E : Env} {gl : List GRow} {s : ByteArray} (hs : s.size ≤ 9223372036854775807) (hk : knownAt 64 [.string s] E.known = none) (hx : E.xf.any (Nat.beq 64) = true) (hxt : E.xt = xtU)
  (h1 : rFirst ∈ gl) (h2 : rAcc ∈ gl) (hn : 2 < E.ng) (μ : Mu) : PR E gl 64 [.c (.string s)] μ (.c (.bool (Lib.validD s.data.toList))) μ := by
 have hh : xtU 64 [.string s] = some (kValid s) := by
  show (if s.size ≤ 9223372036854775807 then some (kValid s) else none) = _
  rw [if_pos hs]
 refine PR.known (k := kValid s) (knw_xt hk hx (by rw [hxt]; exact hh)) ?_ rfl μ
 intro r hr
 simp only [kValid, List.mem_cons, List.not_mem_nil, or_false] at hr
 rcases hr with rfl | rfl
 ·exact ⟨h1, by show 1 < E.ng; omega⟩
 ·exact ⟨h2, hn⟩
theorem decode_pr {E : Env} {gl : List GRow} {s : ByteArray} (hk : knownAt 145 [.string s] E.known = none) (hx : E.xf.any (Nat.beq 145) = true) (hxt : E.xt = xtU)
  (h1 : rFirst ∈ gl) (h2 : rAcc ∈ gl) (hn : 2 < E.ng) (μ : Mu) : PR E gl 145 [.c (.string s)] μ (.c (.tuple #[.int .i32 (Lib.decodeGo s).1, .int .i64 (Lib.decodeGo s).2])) μ := by
 refine PR.known (k := kDecode s) (knw_xt hk hx (by rw [hxt]; rfl)) ?_ rfl μ
 intro r hr
 simp only [kDecode, List.mem_cons, List.not_mem_nil, or_false] at hr
 rcases hr with rfl | rfl
 ·exact ⟨h1, by show 1 < E.ng; omega⟩
 ·exact ⟨h2, hn⟩
end Go.AM.PV
namespace Go.AM.PV
open Go Go.AM Go.AM.SX
attribute [local irreducible] pz
section
variable {E : Env} {gl : List GRow} {cfg : Cfg} {fuel : Nat}
theorem digits_ok (hE : SxEnv E) (h124 : sxFn E cfg fuel 124 1 = some t124) (h146 : sxFn E cfg fuel 146 1 = some t146) (h67 : sxFn E cfg fuel 67 2 = some t67) (h105 : sxFn E cfg fuel 105 2 = some t105) {s : ByteArray} (hlen : s.size ≤ 1048576)
  (h145 : PR E gl 145 [.c (.string s)] [] (.c (.tuple #[.int .i32 (Lib.decodeGo s).1, .int .i64 (Lib.decodeGo s).2])) []) :
  PR E gl 124 [St s] [] (.tup [.any, Bo (numR (chrs s s.size 0)), .any]) [] := by
 have hp1 := pref_ok (gl := gl) hE h67 h105 s ⟨[45].toArray⟩
 have hp2 := pref_ok (gl := gl) hE h67 h105 s ⟨[226, 136, 146].toArray⟩
 cases h1 : pref s ⟨[45].toArray⟩ with
 | true =>
  rw [h1] at hp1
  obtain ⟨e1, e2, e3⟩ := num_minus h1
  rw [e1] at h145
  rw [← e3]
  exact digits_minus hE h124 h146 hlen hp1 (r0 := (45 : Nat)) (k := 1) e2 h145
 | false =>
  rw [h1] at hp1
  cases h2 : pref s ⟨[226, 136, 146].toArray⟩ with
  | true =>
   rw [h2] at hp2
   obtain ⟨e1, e2, e3⟩ := num_sign h2
   rw [e1] at h145
   rw [← e3]
   exact digits_sign hE h124 h146 hlen hp1 hp2 (r0 := (8722 : Nat)) (k := 3) e2 h145
  | false =>
   rw [h2] at hp2
   rw [← num_plain h1 h2]
   exact digits_plain hE h124 h146 hlen hp1 hp2
theorem numR_head {l : List Chr} {c : Chr} (h : l[0]? = some c) (h1 : ¬ c.1 = 45) (h2 : ¬ c.1 = 8722) : numR l = (!(script c.1 == 0) && l.all fun x => script x.1 == script c.1) := by
 cases l with
 | nil => cases h
 | cons d t =>
  cases h
  have e1 : (c.1 == 45 || c.1 == 8722) = false := by
   rw [beq_eq_false_iff_ne.2 h1, beq_eq_false_iff_ne.2 h2]; rfl
  simp only [numR, e1]
  rfl
theorem numR_sign {l : List Chr} {c : Chr} (h : l[0]? = some c) (h1 : c.1 = 45 ∨ c.1 = 8722) : numR l = oneScript (l.drop 1) := by
 cases l with
 | nil => cases h
 | cons d t =>
  cases h
  have e1 : (c.1 == 45 || c.1 == 8722) = true := by
   rcases h1 with h1 | h1 <;> rw [h1] <;> rfl
  simp only [numR, e1]
  rfl
theorem one_head {l : List Chr} {c : Chr} (h : l[0]? = some c) : oneScript l = (!(script c.1 == 0) && l.all fun x => script x.1 == script c.1) := by
 cases l with
 | nil => cases h
 | cons d t => cases h; rfl
theorem ps_tail (l : List Chr) : P.sl 4 (l.length - 1) (((Chr.ps l).drop (1 * 4)).take ((l.length - 1) * 4)) = .sl 4 (l.drop 1).length (Chr.ps (l.drop 1)) := by
 cases l with
 | nil => rfl
 | cons c t =>
  have h : ∀ t : List Chr, (Chr.ps t).length = t.length * 4 := by
   intro t
   induction t with
   | nil => rfl
   | cons c t ih => simp only [Chr.ps, Chr.p, List.length_append, List.length_cons, List.length_nil, ih]; omega
  have e : (Chr.ps (c :: t)).drop (1 * 4) = Chr.ps t := rfl
  rw [e, List.take_of_length_le (by rw [h]; simp)]
  rfl
theorem number_ok (hE : SxEnv E) (h128 : sxFn E cfg fuel 128 1 = some t128) (h148 : sxFn E cfg fuel 148 1 = some t148) (l : List Chr) (hlen : l.length ≤ 1048576) :
  PR E gl 128 [.sl 4 l.length (Chr.ps l)] [] (.tup [.any, .any, Bo (numR l)]) [] := by
 refine fnZ hE (cfg := cfg) (fuel := fuel) h128 (by kernel_rfl) ?_
 unfold t128
 have hsc := script_ok (gl := gl) hE h148
 by_cases hpos : 0 < l.length
 ·obtain ⟨cc, hcc⟩ : ∃ c, l[0]? = some c := ⟨l[0], List.getElem?_eq_getElem hpos⟩
  have kk := (Chr.ps_k hcc).1
  refine z_run ?_
  refine z_brD rfl (fun h1 => ?_) (fun h1 => ?_)
  ·have hres := numR_sign hcc (.inl h1)
   refine z_subL1 (i := 1) rfl (by omega) ?_
   rw [ps_tail]
   rw [hres]
   have hlen2 : (l.drop 1).length ≤ 1048576 := by rw [List.length_drop]; omega
   generalize l.drop 1 = u at hlen2 ⊢
   dsimp only [go_sem]
   by_cases hpos : 0 < u.length
   ·obtain ⟨c0, hc0⟩ : ∃ c, u[0]? = some c := ⟨u[0], List.getElem?_eq_getElem hpos⟩
    have hres := one_head hc0
    have k0 := (Chr.ps_k hc0).1
    refine z_run ?_
    refine z_brD rfl (fun h => ?_) (fun hz => ?_)
    ·rw [h] at hres
     refine z_run ?_
     refine z_finW 0 rfl (LeL.one (.tup _ _ (.cons _ _ _ _ (.any _ rfl) (.cons _ _ _ _ (.any _ rfl) (.cons _ _ _ _ (.refl _) .nil))))) (Nat.zero_le _) rfl rfl (And.intro ?_ rfl)
     rw [hres]; rfl
    rw [beq_eq_false_iff_ne.2 hz, Bool.not_false, Bool.true_and] at hres
    refine z_loop (fun κ vs ν => ν = [] ∧ ∃ (i : Nat) (nn : Int), κ = u.length - i ∧ i ≤ u.length ∧ vs = [Bo true, Bo false, .c (.int .u64 nn), I i] ∧ ((u.drop i).all fun x => script x.1 == script c0.1) = (u.all fun x => script x.1 == script c0.1)) rfl u.length _ (LeL.refl _) ⟨rfl, 0, 0, by omega, by omega, rfl, rfl⟩ ?_
    rintro κ vs ν ⟨rfl, i, nn, rfl, hi, rfl, heq⟩
    dsimp only [go_sem]
    by_cases hlt : i < u.length
    ·obtain ⟨c1, hc1⟩ : ∃ c, u[i]? = some c := ⟨u[i], List.getElem?_eq_getElem hlt⟩
     have hstep : u.drop i = c1 :: u.drop (i + 1) := by
      rw [List.drop_eq_getElem_cons hlt]
      rw [List.getElem?_eq_getElem hlt] at hc1
      cases hc1; rfl
     rw [hstep, List.all_cons] at heq
     have k1 := (Chr.ps_k hc1).1
     obtain ⟨r1, x2, x3, x4⟩ := c1
     dsimp only at k1 heq
     refine z_run ?_
     refine z_brN rfl (fun hn => ?_) (fun he => ?_)
     ·refine z_fin rfl ?_
      dsimp only [go_sem]
      refine z_run ?_
      refine z_finW 0 rfl (LeL.one (.tup _ _ (.cons _ _ _ _ (.any _ rfl) (.cons _ _ _ _ (.any _ rfl) (.cons _ _ _ _ (.refl _) .nil))))) (Nat.zero_le _) rfl rfl (And.intro ?_ rfl)
      rw [hres, ← heq, beq_eq_false_iff_ne.2 hn]; rfl
     ·rw [he, beq_self_eq_true, Bool.true_and] at heq
      refine z_run ?_
      refine z_fin rfl ?_
      exact ⟨u.length - (i + 1), by omega, rfl, i + 1, _, rfl, by omega, rfl, heq⟩
    ·have hge : i = u.length := by omega
     subst hge
     rw [List.drop_length] at heq
     refine z_run ?_
     refine z_fin rfl ?_
     dsimp only [go_sem]
     refine z_run ?_
     refine z_finW 0 rfl (LeL.one (.tup _ _ (.cons _ _ _ _ (.any _ rfl) (.cons _ _ _ _ (.any _ rfl) (.cons _ _ _ _ (.refl _) .nil))))) (Nat.zero_le _) rfl rfl (And.intro ?_ rfl)
     rw [hres, ← heq]; rfl
   ·have hu : u = [] := List.length_eq_zero_iff.1 (by omega)
    subst hu
    refine z_run ?_
    exact z_finW 0 rfl (LeL.one (.tup _ _ (.cons _ _ _ _ (.any _ rfl) (.cons _ _ _ _ (.any _ rfl) (.cons _ _ _ _ (.refl _) .nil))))) (Nat.zero_le _) rfl rfl ⟨rfl, rfl⟩
  refine z_run ?_
  refine z_brD rfl (fun h2 => ?_) (fun h2 => ?_)
  ·have hres := numR_sign hcc (.inr h2)
   refine z_subL1 (i := 1) rfl (by omega) ?_
   rw [ps_tail]
   rw [hres]
   have hlen2 : (l.drop 1).length ≤ 1048576 := by rw [List.length_drop]; omega
   generalize l.drop 1 = u at hlen2 ⊢
   dsimp only [go_sem]
   by_cases hpos : 0 < u.length
   ·obtain ⟨c0, hc0⟩ : ∃ c, u[0]? = some c := ⟨u[0], List.getElem?_eq_getElem hpos⟩
    have hres := one_head hc0
    have k0 := (Chr.ps_k hc0).1
    refine z_run ?_
    refine z_brD rfl (fun h => ?_) (fun hz => ?_)
    ·rw [h] at hres
     refine z_run ?_
     refine z_finW 0 rfl (LeL.one (.tup _ _ (.cons _ _ _ _ (.any _ rfl) (.cons _ _ _ _ (.any _ rfl) (.cons _ _ _ _ (.refl _) .nil))))) (Nat.zero_le _) rfl rfl (And.intro ?_ rfl)
     rw [hres]; rfl
    rw [beq_eq_false_iff_ne.2 hz, Bool.not_false, Bool.true_and] at hres
    refine z_loop (fun κ vs ν => ν = [] ∧ ∃ (i : Nat) (nn : Int), κ = u.length - i ∧ i ≤ u.length ∧ vs = [Bo true, Bo false, .c (.int .u64 nn), I i] ∧ ((u.drop i).all fun x => script x.1 == script c0.1) = (u.all fun x => script x.1 == script c0.1)) rfl u.length _ (LeL.refl _) ⟨rfl, 0, 0, by omega, by omega, rfl, rfl⟩ ?_
    rintro κ vs ν ⟨rfl, i, nn, rfl, hi, rfl, heq⟩
    dsimp only [go_sem]
    by_cases hlt : i < u.length
    ·obtain ⟨c1, hc1⟩ : ∃ c, u[i]? = some c := ⟨u[i], List.getElem?_eq_getElem hlt⟩
     have hstep : u.drop i = c1 :: u.drop (i + 1) := by
      rw [List.drop_eq_getElem_cons hlt]
      rw [List.getElem?_eq_getElem hlt] at hc1
      cases hc1; rfl
     rw [hstep, List.all_cons] at heq
     have k1 := (Chr.ps_k hc1).1
     obtain ⟨r1, x2, x3, x4⟩ := c1
     dsimp only at k1 heq
     refine z_run ?_
     refine z_brN rfl (fun hn => ?_) (fun he => ?_)
     ·refine z_fin rfl ?_
      dsimp only [go_sem]
      refine z_run ?_
      refine z_finW 0 rfl (LeL.one (.tup _ _ (.cons _ _ _ _ (.any _ rfl) (.cons _ _ _ _ (.any _ rfl) (.cons _ _ _ _ (.refl _) .nil))))) (Nat.zero_le _) rfl rfl (And.intro ?_ rfl)
      rw [hres, ← heq, beq_eq_false_iff_ne.2 hn]; rfl
     ·rw [he, beq_self_eq_true, Bool.true_and] at heq
      refine z_run ?_
      refine z_fin rfl ?_
      exact ⟨u.length - (i + 1), by omega, rfl, i + 1, _, rfl, by omega, rfl, heq⟩
    ·have hge : i = u.length := by omega
     subst hge
     rw [List.drop_length] at heq
     refine z_run ?_
     refine z_fin rfl ?_
     dsimp only [go_sem]
     refine z_run ?_
     refine z_finW 0 rfl (LeL.one (.tup _ _ (.cons _ _ _ _ (.any _ rfl) (.cons _ _ _ _ (.any _ rfl) (.cons _ _ _ _ (.refl _) .nil))))) (Nat.zero_le _) rfl rfl (And.intro ?_ rfl)
     rw [hres, ← heq]; rfl
   ·have hu : u = [] := List.length_eq_zero_iff.1 (by omega)
    subst hu
    refine z_run ?_
    exact z_finW 0 rfl (LeL.one (.tup _ _ (.cons _ _ _ _ (.any _ rfl) (.cons _ _ _ _ (.any _ rfl) (.cons _ _ _ _ (.refl _) .nil))))) (Nat.zero_le _) rfl rfl ⟨rfl, rfl⟩
  have hres := numR_head hcc h1 h2
  have hc0 := hcc
  have k0 := kk
  generalize cc = c0 at hc0 hres k0
  refine z_run ?_
  refine z_brD rfl (fun h => ?_) (fun hz => ?_)
  ·rw [h] at hres
   refine z_run ?_
   refine z_finW 0 rfl (LeL.one (.tup _ _ (.cons _ _ _ _ (.any _ rfl) (.cons _ _ _ _ (.any _ rfl) (.cons _ _ _ _ (.refl _) .nil))))) (Nat.zero_le _) rfl rfl (And.intro ?_ rfl)
   rw [hres]; rfl
  rw [beq_eq_false_iff_ne.2 hz, Bool.not_false, Bool.true_and] at hres
  refine z_loop (fun κ vs ν => ν = [] ∧ ∃ (i : Nat) (nn : Int), κ = l.length - i ∧ i ≤ l.length ∧ vs = [Bo false, Bo false, .c (.int .u64 nn), I i] ∧ ((l.drop i).all fun x => script x.1 == script c0.1) = (l.all fun x => script x.1 == script c0.1)) rfl l.length _ (LeL.refl _) ⟨rfl, 0, 0, by omega, by omega, rfl, rfl⟩ ?_
  rintro κ vs ν ⟨rfl, i, nn, rfl, hi, rfl, heq⟩
  dsimp only [go_sem]
  by_cases hlt : i < l.length
  ·obtain ⟨c1, hc1⟩ : ∃ c, l[i]? = some c := ⟨l[i], List.getElem?_eq_getElem hlt⟩
   have hstep : l.drop i = c1 :: l.drop (i + 1) := by
    rw [List.drop_eq_getElem_cons hlt]
    rw [List.getElem?_eq_getElem hlt] at hc1
    cases hc1; rfl
   rw [hstep, List.all_cons] at heq
   have k1 := (Chr.ps_k hc1).1
   obtain ⟨r1, x2, x3, x4⟩ := c1
   dsimp only at k1 heq
   refine z_run ?_
   refine z_brN rfl (fun hn => ?_) (fun he => ?_)
   ·refine z_fin rfl ?_
    dsimp only [go_sem]
    refine z_run ?_
    refine z_finW 0 rfl (LeL.one (.tup _ _ (.cons _ _ _ _ (.any _ rfl) (.cons _ _ _ _ (.any _ rfl) (.cons _ _ _ _ (.refl _) .nil))))) (Nat.zero_le _) rfl rfl (And.intro ?_ rfl)
    rw [hres, ← heq, beq_eq_false_iff_ne.2 hn]; rfl
   ·rw [he, beq_self_eq_true, Bool.true_and] at heq
    refine z_run ?_
    refine z_fin rfl ?_
    exact ⟨l.length - (i + 1), by omega, rfl, i + 1, _, rfl, by omega, rfl, heq⟩
  ·have hge : i = l.length := by omega
   subst hge
   rw [List.drop_length] at heq
   refine z_run ?_
   refine z_fin rfl ?_
   dsimp only [go_sem]
   refine z_run ?_
   refine z_finW 0 rfl (LeL.one (.tup _ _ (.cons _ _ _ _ (.any _ rfl) (.cons _ _ _ _ (.any _ rfl) (.cons _ _ _ _ (.refl _) .nil))))) (Nat.zero_le _) rfl rfl (And.intro ?_ rfl)
   rw [hres, ← heq]; rfl
 ·have hl : l = [] := List.length_eq_zero_iff.1 (by omega)
  subst hl
  refine z_run ?_
  exact z_finW 0 rfl (LeL.one (.tup _ _ (.cons _ _ _ _ (.any _ rfl) (.cons _ _ _ _ (.any _ rfl) (.cons _ _ _ _ (.refl _) .nil))))) (Nat.zero_le _) rfl rfl ⟨rfl, rfl⟩
end
end Go.AM.PV
namespace Go.AM.PV
open Go Go.AM Go.AM.SX
attribute [local irreducible] pz LoopP
section
variable {E : Env} {gl : List GRow} {cfg : Cfg} {fuel : Nat}
/-- A function that leaves all as it is, whatever there is. -/
theorem PR.pure {f : FuncId} {ws : List Value} {v : Value} (h : ∀ A : Go.AM.St, Runs E f ws A v A) (μ : Mu) : PR E gl f (ws.map .c) μ (.c v) μ := by
 intro A β S vs gs gm R
 have hv : vs = ws := by
  have h1 := R.vars.fz
  rw [List.map_map] at h1
  have : ∀ (ws vs : List Value), RepL β S A.h vs (ws.map (fz ∘ .c)) → vs = ws := by
   intro ws
   induction ws with
   | nil => intro vs h; cases h; rfl
   | cons a ws ih =>
    intro vs h
    cases h with
    | cons v _ vs _ h1 h2 => cases h1; rw [ih vs h2]
  exact this ws vs h1
 subst hv
 refine ⟨v, A, β, S, [], gm, h A, ⟨⟨Nat.le_refl _, fun _ _ _ => rfl, fun _ _ _ => rfl⟩, fun _ _ => rfl, fun _ h => .inl h, fun _ h => h, fun _ h => .inl h, fun j hj => .inl (List.mem_append_right _ hj)⟩, ?_⟩
 exact R.setVars (RepO.one (Rep.toT (.c v))) ⟨gs, by simp⟩
def idxB (l : List UInt8) (c : UInt8) : Int := match l.findIdx? (· == c) with
 | some i => (i : Int)
 | none => -1
theorem index153_ok (hE : SxEnv E) (h153 : sxFn E cfg fuel 153 2 = some t153) (s : ByteArray) (c : Int) (μ : Mu) : PR E gl 153 [St s, .c (.int .u8 c)] μ (I (idxB s.data.toList c.toNat.toUInt8)) μ := by
 refine PR.pure (ws := [.string s, .int .u8 c]) (v := .int .i64 (idxB s.data.toList c.toNat.toUInt8)) (fun A => ?_) μ
 obtain ⟨v, A', h1, h2⟩ := fn_ok hE (vs := [.string s, .int .u8 c]) h153 (A := A) (Q := fun v B => v = .int .i64 (idxB s.data.toList c.toNat.toUInt8) ∧ B = A) (by
  unfold t153
  refine wp_op (v := .int .i64 (idxB s.data.toList c.toNat.toUInt8)) (A' := A) rfl ?_
  refine wp_fin ?_
  intro v hv
  have hv : [Value.int .i64 (idxB s.data.toList c.toNat.toUInt8)] = [v] := hv
  cases hv
  exact ⟨rfl, rfl⟩)
 obtain ⟨rfl, rfl⟩ := h2
 exact h1
def validR (r : Int) : Bool := (decide (0 ≤ r) && decide (r < 55296)) || (decide (57343 < r) && decide (r ≤ 1114111))
theorem valid191_ok (hE : SxEnv E) (h191 : sxFn E cfg fuel 191 1 = some t191) (r : Int) : PR E gl 191 [R32 r] [] (Bo (validR r)) [] := by
 refine fnZ hE (cfg := cfg) (fuel := fuel) h191 (by kernel_rfl) ?_
 unfold t191
 repeat' (first | (refine z_finD 0 rfl (Nat.zero_le _) rfl rfl (And.intro ?_ rfl)) | refine z_brD rfl (fun h => ?_) (fun h => ?_) | refine z_run ?_)
 all_goals first
  | (rw [show validR r = true by unfold validR; simp only [Bool.or_eq_true, Bool.and_eq_true, decide_eq_true_eq]; omega]; rfl)
  | (rw [show validR r = false by unfold validR; simp only [Bool.or_eq_false_iff, Bool.and_eq_false_iff, decide_eq_false_iff_not]; omega]; rfl)
def blk : List UInt8 := [9, 10, 13, 32, 194, 160, 227, 128, 128]
theorem idx_none {l : List UInt8} {c : UInt8} (h : c ∉ l) : idxB l c = -1 := by
 unfold idxB
 have : l.findIdx? (· == c) = none := by
  rw [List.findIdx?_eq_none_iff]
  intro x hx
  exact beq_eq_false_iff_ne.2 fun e => h (e ▸ hx)
 rw [this]
theorem u8_of {n : Nat} (h : n < 256) : (UInt8.ofNat n).toNat = n := by
 rw [UInt8.toNat_ofNat']; omega
theorem enc2 {r : Int} (h0 : 128 ≤ r) (h1 : r < 2048) : ∃ a b : UInt8, Utf8.encode r = ⟨[a, b].toArray⟩ ∧ (a.toNat : Int) = 192 + r / 64 ∧ (b.toNat : Int) = 128 + r % 64 := by
 obtain ⟨n, rfl⟩ : ∃ n : Nat, r = n := ⟨r.toNat, by omega⟩
 refine ⟨UInt8.ofNat (0xC0 + n / 64), UInt8.ofNat (0x80 + n % 64), ?_, ?_, ?_⟩
 ·have hv : Utf8.valid (n : Int) = true := by simp [Utf8.valid]; omega
  unfold Utf8.encode
  simp only [hv, if_true, Int.toNat_natCast]
  rw [if_neg (by omega), if_pos (by omega)]
 ·rw [u8_of (by omega)]; omega
 ·rw [u8_of (by omega)]; omega
theorem enc3 {r : Int} (h0 : 2048 ≤ r) (h1 : r < 65536) (hv : Utf8.valid r = true) : ∃ a b c : UInt8, Utf8.encode r = ⟨[a, b, c].toArray⟩ ∧ (a.toNat : Int) = 224 + r / 4096 ∧ (b.toNat : Int) = 128 + r / 64 % 64 ∧ (c.toNat : Int) = 128 + r % 64 := by
 obtain ⟨n, rfl⟩ : ∃ n : Nat, r = n := ⟨r.toNat, by omega⟩
 refine ⟨UInt8.ofNat (0xE0 + n / 4096), UInt8.ofNat (0x80 + n / 64 % 64), UInt8.ofNat (0x80 + n % 64), ?_, ?_, ?_, ?_⟩
 ·unfold Utf8.encode
  simp only [hv, if_true, Int.toNat_natCast]
  rw [if_neg (by omega), if_neg (by omega), if_pos (by omega)]
 ·rw [u8_of (by omega)]; omega
 ·rw [u8_of (by omega)]; omega
 ·rw [u8_of (by omega)]; omega
theorem enc4 {r : Int} (h0 : 65536 ≤ r) (h1 : r ≤ 1114111) (hv : Utf8.valid r = true) : ∃ a b c e : UInt8, Utf8.encode r = ⟨[a, b, c, e].toArray⟩ ∧ (a.toNat : Int) = 240 + r / 262144 ∧ (b.toNat : Int) = 128 + r / 4096 % 64 ∧ (c.toNat : Int) = 128 + r / 64 % 64 ∧ (e.toNat : Int) = 128 + r % 64 := by
 obtain ⟨n, rfl⟩ : ∃ n : Nat, r = n := ⟨r.toNat, by omega⟩
 refine ⟨UInt8.ofNat (0xF0 + n / 262144), UInt8.ofNat (0x80 + n / 4096 % 64), UInt8.ofNat (0x80 + n / 64 % 64), UInt8.ofNat (0x80 + n % 64), ?_, ?_, ?_, ?_, ?_⟩
 ·unfold Utf8.encode
  simp only [hv, if_true, Int.toNat_natCast]
  rw [if_neg (by omega), if_neg (by omega), if_neg (by omega)]
 ·rw [u8_of (by omega)]; omega
 ·rw [u8_of (by omega)]; omega
 ·rw [u8_of (by omega)]; omega
 ·rw [u8_of (by omega)]; omega
section
variable {E : Env} {gl : List GRow} {cfg : Cfg} {fuel : Nat}
theorem u8_back (b : UInt8) : ((b.toNat : Int)).toNat.toUInt8 = b := by simp
theorem blank_low : ∀ n, n < 128 → decide (idxB blk (UInt8.ofNat n) ≥ 0) = blankR n := by decide
/-- The place of a byte in what is behind the k-th. -/
theorem index_at (hE : SxEnv E) (h153 : sxFn E cfg fuel 153 2 = some t153) (k : Nat) (x : UInt8) {v : Int} (h : idxB (blk.drop k) x = v) : PR E gl 153 [.c (.string ((⟨blk.toArray⟩ : ByteArray).extract k (⟨blk.toArray⟩ : ByteArray).size)), .c (.int .u8 (x.toNat : Int))] [] (I v) [] := by
 have := index153_ok (gl := gl) hE h153 ((⟨blk.toArray⟩ : ByteArray).extract k (⟨blk.toArray⟩ : ByteArray).size) (x.toNat : Int) []
 rw [u8_back, extract_tail] at this
 rwa [show ((⟨blk.toArray⟩ : ByteArray).data.toList.drop k) = blk.drop k from rfl, h] at this
set_option maxHeartbeats 4000000 in
theorem blank157_ok (hE : SxEnv E) (h157 : sxFn E cfg fuel 157 1 = some t157) (h153 : sxFn E cfg fuel 153 2 = some t153) (h191 : sxFn E cfg fuel 191 1 = some t191) (r : Int) (h0 : 0 ≤ r) (h1 : r ≤ 1114111) : PR E gl 157 [R32 r] [] (Bo (blankR r)) [] := by
 refine fnZ hE (cfg := cfg) (fuel := fuel) h157 (by kernel_rfl) ?_
 unfold t157
 by_cases hlow : r < 128
 ·obtain ⟨n, rfl⟩ : ∃ n : Nat, r = n := ⟨r.toNat, by omega⟩
  have hq := index153_ok (gl := gl) hE h153
  refine z_run ?_
  refine z_finD 0 rfl (Nat.zero_le _) rfl rfl (And.intro ?_ rfl)
  have hn : n < 128 := by omega
  have e1 : wrapF .u8 (n : Int) = n := by
   unfold wrapF
   rw [if_pos ⟨by simp only [lo]; omega, by simp only [hi]; omega⟩]
  have e2 : ((n : Int)).toNat.toUInt8 = UInt8.ofNat n := rfl
  try dsimp only [go_sem]
  rw [e1, e2, ← blank_low n hn]
  rfl
 by_cases hbad : r = 65533
 ·refine z_run ?_
  refine z_range rfl ?_
  dsimp only [go_sem]
  refine z_loop (fun κ vs ν => vs = [I 0] ∧ ∃ pos : Nat, κ = 9 - pos ∧ ν = [.sit ⟨blk.toArray⟩ pos] ∧ (pos = 0 ∨ pos = 1 ∨ pos = 2 ∨ pos = 3 ∨ pos = 4 ∨ pos = 6 ∨ pos = 9)) rfl 9 _ (LeL.refl _) ⟨rfl, 0, rfl, rfl, .inl rfl⟩ ?_
  rintro κ vs ν ⟨rfl, pos, rfl, rfl, hpos⟩
  try dsimp only [go_sem]
  refine z_next (i := 0) (s := ⟨blk.toArray⟩) (pos := pos) rfl rfl (fun hlt => ?_) (fun hge => ?_)
  ·have hsz : (⟨blk.toArray⟩ : ByteArray).size = 9 := rfl
   rw [hsz] at hlt
   obtain ⟨x, w, hd, hx, hw, hw2⟩ : ∃ x w, Utf8.decode ⟨blk.toArray⟩ pos = (x, w) ∧ x ≠ 65533 ∧ 1 ≤ w ∧ (pos + w = 0 ∨ pos + w = 1 ∨ pos + w = 2 ∨ pos + w = 3 ∨ pos + w = 4 ∨ pos + w = 6 ∨ pos + w = 9) := by
    rcases hpos with rfl | rfl | rfl | rfl | rfl | rfl | rfl
    ·exact ⟨9, 1, by decide, by decide, by decide, by decide⟩
    ·exact ⟨10, 1, by decide, by decide, by decide, by decide⟩
    ·exact ⟨13, 1, by decide, by decide, by decide, by decide⟩
    ·exact ⟨32, 1, by decide, by decide, by decide, by decide⟩
    ·exact ⟨160, 2, by decide, by decide, by decide, by decide⟩
    ·exact ⟨12288, 3, by decide, by decide, by decide, by decide⟩
    ·omega
   rw [hd]
   dsimp only [go_sem]
   refine z_run ?_
   refine z_fin rfl ?_
   exact ⟨9 - (pos + w), by omega, rfl, pos + w, rfl, rfl, hw2⟩
  ·refine z_run ?_
   refine z_fin rfl ?_
   dsimp only [go_sem]
   refine z_run ?_
   refine z_finD 0 rfl (Nat.zero_le _) rfl rfl (And.intro ?_ rfl)
   rw [hbad]
   rfl
 have hne : blankR r = (decide (r = 160) || decide (r = 12288)) := by
  unfold blankR
  rw [beq_eq_false_iff_ne.2 (by omega : r ≠ 9), beq_eq_false_iff_ne.2 (by omega : r ≠ 10), beq_eq_false_iff_ne.2 (by omega : r ≠ 13), beq_eq_false_iff_ne.2 (by omega : r ≠ 32)]
  rfl
 have hp := valid191_ok (gl := gl) hE h191 r
 cases hv : validR r with
 | false =>
  rw [hv] at hp
  refine z_run ?_
  refine z_finD 0 rfl (Nat.zero_le _) rfl rfl (And.intro ?_ rfl)
  have h160 : r ≠ 160 := fun e => by rw [e] at hv; revert hv; decide
  have h288 : r ≠ 12288 := fun e => by rw [e] at hv; revert hv; decide
  rw [hne, decide_eq_false h160, decide_eq_false h288]
  rfl
 | true =>
  rw [hv] at hp
  have hvu : Utf8.valid r = true := by
   unfold validR at hv
   unfold Utf8.valid
   simp only [Bool.or_eq_true, Bool.and_eq_true, decide_eq_true_eq] at hv ⊢
   omega
  refine z_run ?_
  by_cases hs2 : r < 2048
  ·obtain ⟨a, b, he, ha, hb⟩ := enc2 (by omega) hs2
   rw [he]
   rw [show (ByteArray.size ⟨[a, b].toArray⟩) = 2 from rfl, show wrapF .i64 (((2 : Nat) : Int) - 1) = 1 from rfl]
   have hsz : ByteArray.size ⟨[a, b].toArray⟩ = 2 := rfl
   have hsz2 : ([a, b].toArray).size = 2 := rfl
   have qa := fun v (h : idxB (blk.drop 2) b = v) => index_at (gl := gl) hE h153 2 b h
   have qb := fun v (h : idxB (blk.drop 7) b = v) => index_at (gl := gl) hE h153 7 b h
   by_cases hx : b = 160
   ·subst hx
    have hb : (160 : Int) = 128 + r % 64 := hb
    have ha1 := qa 3 (by decide)
    try have hb1 := qb (-1) (by decide)
    clear qa qb
    repeat' (first | refine z_brN rfl (fun h => ?_) (fun h => ?_) | refine z_go ?_)
    all_goals refine ⟨?_, rfl⟩
    all_goals first
     | (rw [hne, decide_eq_false (by omega : ¬ r = 160), decide_eq_false (by omega : ¬ r = 12288)]; rfl)
     | (have hr : r = 160 := by omega
        rw [hr]; rfl)
     | (have hr : r = 12288 := by omega
        rw [hr]; rfl)
   by_cases hy : b = 128
   ·subst hy
    have hb : (128 : Int) = 128 + r % 64 := hb
    have ha1 := qa 5 (by decide)
    clear qa qb
    repeat' (first | refine z_brN rfl (fun h => ?_) (fun h => ?_) | refine z_go ?_)
    all_goals refine ⟨?_, rfl⟩
    all_goals first
     | (rw [hne, decide_eq_false (by omega : ¬ r = 160), decide_eq_false (by omega : ¬ r = 12288)]; rfl)
     | (have hr : r = 160 := by omega
        rw [hr]; rfl)
     | (have hr : r = 12288 := by omega
        rw [hr]; rfl)
   have hx' : ¬ (b.toNat = 160) := fun e => hx (UInt8.toNat_inj.1 (e.trans rfl))
   have hy' : ¬ (b.toNat = 128) := fun e => hy (UInt8.toNat_inj.1 (e.trans rfl))
   have hno : b ∉ blk.drop 2 := by
    intro h
    have h : b ∈ blk := List.mem_of_mem_drop h
    simp only [blk, List.mem_cons, List.not_mem_nil, or_false] at h
    rcases h with h | h | h | h | h | h | h | h | h <;> (have := congrArg UInt8.toNat h; simp at this; omega)
   have ha1 := qa (-1) (idx_none hno)
   clear qa qb
   repeat' (first | refine z_brN rfl (fun h => ?_) (fun h => ?_) | refine z_go ?_)
   all_goals refine ⟨?_, rfl⟩
   all_goals first
    | (rw [hne, decide_eq_false (by omega : ¬ r = 160), decide_eq_false (by omega : ¬ r = 12288)]; rfl)
    | (have hr : r = 160 := by omega
       rw [hr]; rfl)
    | (have hr : r = 12288 := by omega
       rw [hr]; rfl)
  by_cases hs3 : r < 65536
  ·obtain ⟨a, b, c, he, ha, hb, hc⟩ := enc3 (by omega) hs3 hvu
   rw [he]
   rw [show (ByteArray.size ⟨[a, b, c].toArray⟩) = 3 from rfl, show wrapF .i64 (((3 : Nat) : Int) - 1) = 2 from rfl]
   have hsz : ByteArray.size ⟨[a, b, c].toArray⟩ = 3 := rfl
   have hsz2 : ([a, b, c].toArray).size = 3 := rfl
   have qa := fun v (h : idxB (blk.drop 3) c = v) => index_at (gl := gl) hE h153 3 c h
   have qb := fun v (h : idxB (blk.drop 7) c = v) => index_at (gl := gl) hE h153 7 c h
   by_cases hx : c = 160
   ·subst hx
    have hc : (160 : Int) = 128 + r % 64 := hc
    have ha1 := qa 2 (by decide)
    try have hb1 := qb (-1) (by decide)
    clear qa qb
    repeat' (first | refine z_brN rfl (fun h => ?_) (fun h => ?_) | refine z_go ?_)
    all_goals refine ⟨?_, rfl⟩
    all_goals first
     | (rw [hne, decide_eq_false (by omega : ¬ r = 160), decide_eq_false (by omega : ¬ r = 12288)]; rfl)
     | (have hr : r = 160 := by omega
        rw [hr]; rfl)
     | (have hr : r = 12288 := by omega
        rw [hr]; rfl)
   by_cases hy : c = 128
   ·subst hy
    have hc : (128 : Int) = 128 + r % 64 := hc
    have ha1 := qa 4 (by decide)
    clear qa qb
    repeat' (first | refine z_brN rfl (fun h => ?_) (fun h => ?_) | refine z_go ?_)
    all_goals refine ⟨?_, rfl⟩
    all_goals first
     | (rw [hne, decide_eq_false (by omega : ¬ r = 160), decide_eq_false (by omega : ¬ r = 12288)]; rfl)
     | (have hr : r = 160 := by omega
        rw [hr]; rfl)
     | (have hr : r = 12288 := by omega
        rw [hr]; rfl)
   have hx' : ¬ (c.toNat = 160) := fun e => hx (UInt8.toNat_inj.1 (e.trans rfl))
   have hy' : ¬ (c.toNat = 128) := fun e => hy (UInt8.toNat_inj.1 (e.trans rfl))
   have hno : c ∉ blk.drop 3 := by
    intro h
    have h : c ∈ blk := List.mem_of_mem_drop h
    simp only [blk, List.mem_cons, List.not_mem_nil, or_false] at h
    rcases h with h | h | h | h | h | h | h | h | h <;> (have := congrArg UInt8.toNat h; simp at this; omega)
   have ha1 := qa (-1) (idx_none hno)
   clear qa qb
   repeat' (first | refine z_brN rfl (fun h => ?_) (fun h => ?_) | refine z_go ?_)
   all_goals refine ⟨?_, rfl⟩
   all_goals first
    | (rw [hne, decide_eq_false (by omega : ¬ r = 160), decide_eq_false (by omega : ¬ r = 12288)]; rfl)
    | (have hr : r = 160 := by omega
       rw [hr]; rfl)
    | (have hr : r = 12288 := by omega
       rw [hr]; rfl)
  obtain ⟨a, b, c, g, he, ha, hb, hc, hg⟩ := enc4 (by omega) h1 hvu
  rw [he]
  rw [show (ByteArray.size ⟨[a, b, c, g].toArray⟩) = 4 from rfl, show wrapF .i64 (((4 : Nat) : Int) - 1) = 3 from rfl]
  have hsz : ByteArray.size ⟨[a, b, c, g].toArray⟩ = 4 := rfl
  have hsz2 : ([a, b, c, g].toArray).size = 4 := rfl
  have qa := fun v (h : idxB (blk.drop 4) g = v) => index_at (gl := gl) hE h153 4 g h
  have qb := fun v (h : idxB (blk.drop 7) g = v) => index_at (gl := gl) hE h153 7 g h
  by_cases hx : g = 160
  ·subst hx
   have hg : (160 : Int) = 128 + r % 64 := hg
   have ha1 := qa 1 (by decide)
   try have hb1 := qb (-1) (by decide)
   clear qa qb
   repeat' (first | refine z_brN rfl (fun h => ?_) (fun h => ?_) | refine z_go ?_)
   all_goals refine ⟨?_, rfl⟩
   all_goals first
    | (rw [hne, decide_eq_false (by omega : ¬ r = 160), decide_eq_false (by omega : ¬ r = 12288)]; rfl)
    | (have hr : r = 160 := by omega
       rw [hr]; rfl)
    | (have hr : r = 12288 := by omega
       rw [hr]; rfl)
  by_cases hy : g = 128
  ·subst hy
   have hg : (128 : Int) = 128 + r % 64 := hg
   have ha1 := qa 3 (by decide)
   try have hb1 := qb (-1) (by decide)
   clear qa qb
   repeat' (first | refine z_brN rfl (fun h => ?_) (fun h => ?_) | refine z_go ?_)
   all_goals refine ⟨?_, rfl⟩
   all_goals first
    | (rw [hne, decide_eq_false (by omega : ¬ r = 160), decide_eq_false (by omega : ¬ r = 12288)]; rfl)
    | (have hr : r = 160 := by omega
       rw [hr]; rfl)
    | (have hr : r = 12288 := by omega
       rw [hr]; rfl)
  have hx' : ¬ (g.toNat = 160) := fun e => hx (UInt8.toNat_inj.1 (e.trans rfl))
  have hy' : ¬ (g.toNat = 128) := fun e => hy (UInt8.toNat_inj.1 (e.trans rfl))
  have hno : g ∉ blk.drop 4 := by
   intro h
   have h : g ∈ blk := List.mem_of_mem_drop h
   simp only [blk, List.mem_cons, List.not_mem_nil, or_false] at h
   rcases h with h | h | h | h | h | h | h | h | h <;> (have := congrArg UInt8.toNat h; simp at this; omega)
  have ha1 := qa (-1) (idx_none hno)
  clear qa qb
  repeat' (first | refine z_brN rfl (fun h => ?_) (fun h => ?_) | refine z_go ?_)
  all_goals refine ⟨?_, rfl⟩
  all_goals first
   | (rw [hne, decide_eq_false (by omega : ¬ r = 160), decide_eq_false (by omega : ¬ r = 12288)]; rfl)
   | (have hr : r = 160 := by omega
      rw [hr]; rfl)
   | (have hr : r = 12288 := by omega
      rw [hr]; rfl)
end
end
end Go.AM.PV
namespace Go.AM.PV
open Go Go.AM Go.AM.SX
def nmR (s : ByteArray) : Bool := nameR (chrs s s.size 0) s (numR (chrs s s.size 0)) && !reserved s
def vsR (s : ByteArray) : Bool := Lib.validD s.data.toList
attribute [local irreducible] pz LoopP
structure Nms (E : Env) (gl : List GRow) (inf : Nat → TypeInfo) (c0 c1 : Cfg) (fuel : Nat) : Prop where
 hE : SxEnv E
 hx : E.xf = [64, 145]
 hxt : E.xt = xtU
 hk1 : ∀ s, knownAt 64 [.string s] E.known = none
 hk2 : ∀ s, knownAt 145 [.string s] E.known = none
 g1 : rFirst ∈ gl
 g2 : rAcc ∈ gl
 hn : 2 < E.ng
 i1 : (inf 151).size = 4
 i2 : (inf 151).bytes = 32
 h16 : sxFn E c0 fuel 16 1 = some t16
 h21 : sxFn E c0 fuel 21 1 = some t21
 h24 : sxFn E c0 fuel 24 1 = some t24
 h33 : sxFn E c0 fuel 33 3 = some t33
 h37 : sxFn E c0 fuel 37 2 = some t37
 h39 : sxFn E c0 fuel 39 3 = some t39
 h56 : sxFn E c0 fuel 56 1 = some t56
 h57 : sxFn E c0 fuel 57 1 = some t57
 h62 : sxFn E c0 fuel 62 2 = some t62
 h65 : sxFn E c0 fuel 65 3 = some t65
 h67 : sxFn E c0 fuel 67 2 = some t67
 h95 : sxFn E c0 fuel 95 1 = some (t95 inf)
 h96 : sxFn E c0 fuel 96 1 = some t96
 h97 : sxFn E c0 fuel 97 1 = some t97
 h102 : sxFn E c0 fuel 102 1 = some t102
 h105 : sxFn E c0 fuel 105 2 = some t105
 h124 : sxFn E c0 fuel 124 1 = some t124
 h128 : sxFn E c0 fuel 128 1 = some t128
 h130 : sxFn E c0 fuel 130 1 = some t130
 h133 : sxFn E c0 fuel 133 1 = some t133
 h134 : sxFn E c0 fuel 134 1 = some t134
 h146 : sxFn E c0 fuel 146 1 = some t146
 h148 : sxFn E c0 fuel 148 1 = some t148
 h153 : sxFn E c1 fuel 153 2 = some t153
 h157 : sxFn E c1 fuel 157 1 = some t157
 h191 : sxFn E c1 fuel 191 1 = some t191
theorem in21_ok {E : Env} {gl : List GRow} {cfg : Cfg} {fuel : Nat} (hE : SxEnv E) (h21 : sxFn E cfg fuel 21 1 = some t21) (n : Int) : PR E gl 21 [I n] [] (Bo (decide (n ≥ -1152921504606846976) && decide (n ≤ 1152921504606846975))) [] := by
 refine fnZ hE (cfg := cfg) (fuel := fuel) h21 (by kernel_rfl) ?_
 unfold t21
 repeat' (first | (refine z_finD 0 rfl (Nat.zero_le _) rfl rfl (And.intro ?_ rfl)) | refine z_brD rfl (fun h => ?_) (fun h => ?_) | refine z_run ?_)
 ·rw [decide_eq_true (show n ≥ -1152921504606846976 by omega)]; rfl
 ·rw [decide_eq_false (show ¬ n ≥ -1152921504606846976 by omega)]; rfl
variable {E : Env} {gl : List GRow} {inf : Nat → TypeInfo} {c0 c1 : Cfg} {fuel : Nat}
theorem Nms.chars (H : Nms E gl inf c0 c1 fuel) {s : ByteArray} (hs : s.size ≤ 1048576) : PR E gl 95 [St s] [] (.ow 151 4 (chrs s s.size 0).length (Chr.ps (chrs s s.size 0))) [] :=
 chars_ok H.hE H.h95 H.i1 H.i2 hs
theorem Nms.n96 (H : Nms E gl inf c0 c1 fuel) {s : ByteArray} (hs : s.size ≤ 1048576) : PR E gl 96 [St s] [] (Bo (nameR (chrs s s.size 0) s (numR (chrs s s.size 0)))) [] :=
 name96_ok H.hE H.h96 H.h130 (H.chars hs) (number_ok H.hE H.h128 H.h148 _ (by have := chrs_len s s.size 0; omega))
theorem Nms.n133 (H : Nms E gl inf c0 c1 fuel) {s : ByteArray} (hs : s.size ≤ 1048576) : PR E gl 133 [St s] [] (Bo (nameR (chrs s s.size 0) s (numR (chrs s s.size 0)))) [] :=
 name133_ok H.hE H.h133 hs (fun r h0 h1 => blank157_ok H.hE H.h157 H.h153 H.h191 r h0 h1) (digits_ok H.hE H.h124 H.h146 H.h67 H.h105 hs (decode_pr (H.hk2 s) (by rw [H.hx]; rfl) H.hxt H.g1 H.g2 H.hn []))
theorem Nms.n102 (H : Nms E gl inf c0 c1 fuel) {s : ByteArray} (hs : s.size ≤ 1048576) : PR E gl 102 [St s] [] (Bo (nmR s)) [] :=
 name102_ok H.hE H.h102 (H.n133 hs) (reserved134_ok H.hE H.h134 H.h37 H.h62 s)
theorem Nms.n57 (H : Nms E gl inf c0 c1 fuel) {s : ByteArray} (hs : s.size ≤ 1048576) : PR E gl 57 [St s] [] (Bo (nmR s)) [] :=
 name57_ok H.hE H.h57 (H.n96 hs) (reserved97_ok H.hE H.h97 s)
theorem Nms.valid (H : Nms E gl inf c0 c1 fuel) {s : ByteArray} (hs : s.size ≤ 1048576) : PR E gl 64 [St s] [] (Bo (vsR s)) [] :=
 valid_pr (by omega) (H.hk1 s) (by rw [H.hx]; rfl) H.hxt H.g1 H.g2 H.hn []
theorem Nms.check (H : Nms E gl inf c0 c1 fuel) (v : Val) (hv : v.small 1048576) : PR E gl 24 [v.p] [] (I (v.chk vsR nmR)) [] :=
 check_ok vsR nmR H.hE H.h24 H.h39 H.h65 (fun _ h => H.valid (by omega)) (fun _ h => H.n102 h) v hv
theorem Nms.sound (H : Nms E gl inf c0 c1 fuel) (v : V) (hv : v.sz ≤ 1048576) : PR E gl 16 [.agg v.p] [] (Bo (v.sound vsR nmR)) [] :=
 sound_ok vsR nmR H.hE H.h16 H.h33 (fun n => in21_ok H.hE H.h21 n) bad (fun s h => bad_ok H.hE H.h56 (by omega) (H.chars (by omega))) bad_vs (fun _ h => H.n57 h) v hv
end Go.AM.PV
namespace Go.AM.PV
open Go Go.AM Go.AM.SX
attribute [local irreducible] pz LoopP
structure Dos (E : Env) (gl : List GRow) (inf : Nat → TypeInfo) (c0 c1 c2 : Cfg) (fuel : Nat) : Prop extends Nms E gl inf c0 c1 fuel where
 j1 : (inf 41).size = 1
 j2 : (inf 41).bytes = 16
 h13 : sxFn E c0 fuel 13 2 = some (t13 inf)
 h26 : sxFn E c0 fuel 26 2 = some t26
 h27 : sxFn E c2 fuel 27 1 = some (t27 inf)
 h28 : sxFn E c0 fuel 28 1 = some (t28 inf)
 h41 : sxFn E c0 fuel 41 2 = some t41
 h42 : sxFn E c0 fuel 42 1 = some t42
 h43 : sxFn E c0 fuel 43 2 = some t43
 h72 : sxFn E c0 fuel 72 1 = some t72
variable {E : Env} {gl : List GRow} {inf : Nat → TypeInfo} {c0 c1 c2 : Cfg} {fuel : Nat}
theorem takeSl1 {ps : List P} {a : At} {p : P} (h : denA ps a = .lit [p]) : takeL ps [.sl a 1] = some ([fz (.fx 1 1 [p])], ps) := by
 have h1 : takeX ps (.sl a 1) = some (fz (.fx 1 1 [p]), ps) := by
  show (match denX ps (.sl a 1) with
   | some p => some (fz p, ps)
   | none => none) = _
  have h2 : denX ps (.sl a 1) = some (.fx 1 1 [p]) := by
   show (match denA ps a with
    | .lit l => if l.length = 1 * (if (1 : Nat) = 0 then 1 else l.length / 1) then some (P.fx (if (1 : Nat) = 0 then 1 else l.length / 1) 1 l) else none
    | _ => none) = _
   rw [h]
   simp
  rw [h2]
 unfold takeL
 rw [h1]
 rfl
def Val.letter : Val → Int
 | .nil => 111
 | .int _ => 110
 | .str _ => 115
 | .bool _ => 98
 | .list _ => 108
 | .quot _ => 113
 | .box _ => 111
theorem letter_ok (H : Dos E gl inf c0 c1 c2 fuel) (v : Val) : PR E gl 42 [v.p] [] (.c (.int .u8 v.letter)) [] := by
 refine fnZ H.hE (cfg := c0) (fuel := fuel) H.h42 (by kernel_rfl) ?_
 unfold t42
 cases v <;> (refine z_run ?_; exact z_finD 0 rfl (Nat.zero_le _) rfl rfl ⟨rfl, rfl⟩)
theorem fits_x (H : Dos E gl inf c0 c1 c2 fuel) (v : Val) : PR E gl 41 [.c (.int .u8 120), v.p] [] (Bo true) [] := by
 refine fnZ H.hE (cfg := c0) (fuel := fuel) H.h41 (by kernel_rfl) ?_
 unfold t41
 have h := letter_ok H v
 cases v <;> (refine z_run ?_; exact z_finD 0 rfl (Nat.zero_le _) rfl rfl ⟨rfl, rfl⟩)
theorem flag_ok (H : Dos E gl inf c0 c1 c2 fuel) (b : Bool) : PR E gl 72 [Bo b] [] (.fx 1 1 [(Val.bool b).p]) [] := by
 refine fnZ H.hE (cfg := c0) (fuel := fuel) H.h72 (by kernel_rfl) ?_
 unfold t72
 refine z_run ?_
 exact z_finD 0 (takeSl1 rfl) (Nat.zero_le _) rfl rfl ⟨rfl, rfl⟩
/-- The six words, each with the kind that it asks for. -/
def askW : List (List UInt8 × (Val → Bool)) :=
 [([105, 110, 116, 63], fun | .int _ => true | _ => false), ([115, 116, 114, 63], fun | .str _ => true | _ => false), ([98, 111, 111, 108, 63], fun | .bool _ => true | _ => false),
  ([108, 105, 115, 116, 63], fun | .list _ => true | _ => false), ([113, 117, 111, 116, 63], fun | .quot _ => true | _ => false), ([98, 111, 120, 63], fun | .box _ => true | _ => false)]
theorem moves_ask (H : Dos E gl inf c0 c1 c2 fuel) (v : Val) (hv : v ≠ .nil) : ∀ w, w ∈ askW → PR E gl 43 [.c (bs w.1), .sl 1 1 [v.p]] [] (.fx 1 1 [(Val.bool (w.2 v)).p]) [] := by
 have ht := flag_ok H true
 have hf := flag_ok H false
 have hl := letter_ok H v
 intro w hw
 refine fnZ H.hE (cfg := c0) (fuel := fuel) H.h43 (by kernel_rfl) ?_
 unfold t43
 simp only [askW, List.mem_cons, List.not_mem_nil, or_false] at hw
 rcases hw with rfl | rfl | rfl | rfl | rfl | rfl <;> dsimp only <;> cases v <;> first
  | exact (hv rfl).elim
  | (simp only [Val.p, Val.letter] at ht hf hl ⊢; refine z_run ?_; exact z_finD 0 rfl (Nat.zero_le _) rfl rfl ⟨rfl, rfl⟩)
theorem chk_bool (b : Bool) : (Val.bool b).chk vsR nmR = 0 := by cases b <;> rfl
theorem apply_ask (H : Dos E gl inf c0 c1 c2 fuel) (v : Val) (hv : v ≠ .nil) (w : List UInt8 × (Val → Bool)) (hw : w ∈ askW) (hwant : PR E gl 25 [.c (bs w.1)] [] (.c (.tuple #[bs [120], .bool true])) []) :
  PR E gl 26 [.c (bs w.1), .sl 1 1 [v.p]] [] (.tup [.fx 1 1 [(Val.bool (w.2 v)).p], I 0]) [] := by
 have hm := moves_ask H v hv w hw
 have hf := fits_x H v
 have hc := H.check (.bool (w.2 v)) (by simp [Val.small])
 rw [chk_bool] at hc
 have ha : ¬ w.1 = [97, 112, 112, 101, 110, 100] := by
  simp only [askW, List.mem_cons, List.not_mem_nil, or_false] at hw
  rcases hw with rfl | rfl | rfl | rfl | rfl | rfl <;> decide
 obtain ⟨nmw, fw⟩ := w
 dsimp only at *
 generalize fw v = b at *
 simp only [Val.p] at hm hc ⊢
 refine fnZ H.hE (cfg := c0) (fuel := fuel) H.h26 (by kernel_rfl) ?_
 unfold t26
 clear hw
 have hw0 : wrapF .i64 (((#[(120 : UInt8)].size : Nat) : Int) - 1) = 0 := rfl
 have hb0 : (nmw == [97, 112, 112, 101, 110, 100]) = false := beq_eq_false_iff_ne.2 ha
 cases v <;> first
  | exact (hv rfl).elim
  | skip
 all_goals simp only [Val.p] at *
 all_goals
  refine z_run ?_
  rw [hw0]
  refine z_go ?_
  rw [hb0]
  repeat (refine z_go ?_)
 all_goals exact ⟨rfl, rfl⟩
end Go.AM.PV
namespace Go.AM.PV
open Go Go.AM Go.AM.SX
attribute [local irreducible] pz LoopP
variable {E : Env} {gl : List GRow} {inf : Nat → TypeInfo} {c0 c1 c2 : Cfg} {fuel : Nat}
theorem denSl {ps : List P} {a : At} {n : Nat} {l : List P} (h : denA ps a = .lit l) (hn : l.length = n) (h0 : 0 < n) : denF ps [.sl a n] = some [.fx 1 n l] := by
 have h2 : denX ps (.sl a n) = some (.fx 1 n l) := by
  show (match denA ps a with
   | .lit l => if l.length = n * (if n = 0 then 1 else l.length / n) then some (P.fx (if n = 0 then 1 else l.length / n) n l) else none
   | _ => none) = _
  rw [h]
  dsimp only
  have hd : (if n = 0 then 1 else l.length / n) = 1 := by rw [if_neg (by omega), hn, Nat.div_self h0]
  rw [hd, if_pos (by omega)]
 unfold denF
 rw [h2]
 rfl
theorem clone_bool (H : Dos E gl inf c0 c1 c2 fuel) (b : Bool) : PR E gl 28 [(Val.bool b).p] [] (Val.bool b).p [] := by
 refine fnZ H.hE (cfg := c0) (fuel := fuel) H.h28 (by kernel_rfl) ?_
 unfold t28
 simp only [Val.p]
 refine z_run ?_
 exact z_finD 0 rfl (Nat.zero_le _) rfl rfl ⟨rfl, rfl⟩
theorem do_bad (H : Dos E gl inf c0 c1 c2 fuel) (v : Val) (hs : v.small 1048576) (nmw : List UInt8) (hv : ¬ v.chk vsR nmR = 0) :
  PR E gl 13 [.c (bs nmw), .fx 1 1 [v.p]] [] (.tup [.c (.slice none 0 0), I 1]) [] := by
 have hc := H.check v hs
 have hv1 : v.chk vsR nmR = 1 := by
  unfold Val.chk at hv ⊢
  split
  ·rename_i h; rw [if_pos h] at hv; exact (hv rfl).elim
  ·rfl
 rw [hv1] at hc
 refine fnZ H.hE (cfg := c0) (fuel := fuel) H.h13 (by kernel_rfl) ?_
 unfold t13
 cases v
 all_goals
  simp only [Val.p] at hc ⊢
  repeat (refine z_go ?_)
 all_goals exact ⟨rfl, rfl⟩
theorem do_ask (H : Dos E gl inf c0 c1 c2 fuel) (v : Val) (hs : v.small 1048576) (hv : v.chk vsR nmR = 0) (w : List UInt8 × (Val → Bool)) (hw : w ∈ askW) (hwant : PR E gl 25 [.c (bs w.1)] [] (.c (.tuple #[bs [120], .bool true])) []) :
  PR E gl 13 [.c (bs w.1), .fx 1 1 [v.p]] [] (.tup [.sl 1 1 [(Val.bool (w.2 v)).p], I 0]) [] := by
 have hc := H.check v hs
 rw [hv] at hc
 have hn : v ≠ .nil := by
  rintro rfl
  revert hv
  decide
 have ha := apply_ask H v hn w hw hwant
 have hcat := concat_ok (gl := gl) H.hE H.h27 H.j1 H.j2 (SlP.sl 0 []) (SlP.fx 1 [(Val.bool (w.2 v)).p]) (by omega) (by omega) []
 have hcl := clone_bool H (w.2 v)
 obtain ⟨nmw, fw⟩ := w
 dsimp only at *
 generalize fw v = b at *
 clear hw
 refine fnZ H.hE (cfg := c0) (fuel := fuel) H.h13 (by kernel_rfl) ?_
 unfold t13
 cases v <;> first
  | exact (hn rfl).elim
  | skip
 all_goals
  simp only [Val.p] at *
  repeat (refine z_go ?_)
  rw [show ((#[(120 : UInt8)].size : Nat) : Int) = 1 from rfl]
  repeat (refine z_go ?_)
  rw [show ((#[(120 : UInt8)].size : Nat) : Int) = 1 from rfl]
  repeat (refine z_go ?_)
  refine z_call (denSl rfl rfl (by decide)) hcat (Nat.le_refl _) ?_
  repeat (refine z_go ?_)
  refine z_app1 rfl rfl rfl H.j1 rfl rfl rfl rfl (by rw [H.j2]; omega) (by omega) ?_
  dsimp only [go_sem]
  repeat (refine z_go ?_)
 all_goals exact ⟨rfl, rfl⟩
end Go.AM.PV
namespace Go.AM.PV
open Go Go.AM Go.AM.SX
attribute [local irreducible] pz LoopP
structure Knd (E : Env) (gl : List GRow) (inf : Nat → TypeInfo) (c0 c1 c2 : Cfg) (fuel : Nat) : Prop extends Dos E gl inf c0 c1 c2 fuel where
 conv : ConvT E inf c0 fuel
 h8 : sxFn E c0 fuel 8 1 = some t8
 h15 : sxFn E c0 fuel 15 2 = some t15
 h18 : sxFn E c0 fuel 18 2 = some t18
 h32 : sxFn E c0 fuel 32 2 = some t32
 awake : PR E gl 10 [] [] (.c (.bool true)) []
 want : ∀ w, w ∈ askW → PR E gl 25 [.c (bs w.1)] [] (.c (.tuple #[bs [120], .bool true])) []
variable {E : Env} {gl : List GRow} {inf : Nat → TypeInfo} {c0 c1 c2 : Cfg} {fuel : Nat}
theorem same15_nil (H : Knd E gl inf c0 c1 c2 fuel) : PR E gl 15 [.sl 4 0 [], .c (.slice none 0 0)] [] (Bo true) [] := by
 refine fnZ H.hE (cfg := c0) (fuel := fuel) H.h15 (by kernel_rfl) ?_
 unfold t15
 repeat (first | refine z_go ?_ | refine z_run ?_)
 exact ⟨rfl, rfl⟩
theorem same32_bool (H : Knd E gl inf c0 c1 c2 fuel) (b : Bool) : PR E gl 32 [.agg [I 3, I (if b then 1 else 0), St ⟨#[]⟩, .sl 4 0 []], .agg [I 3, I 1, .c (bs []), .c (.slice none 0 0)]] [] (Bo b) [] := by
 have h := same15_nil H
 refine fnZ H.hE (cfg := c0) (fuel := fuel) H.h32 (by kernel_rfl) ?_
 unfold t32
 cases b
 ·repeat (first | refine z_go ?_ | refine z_run ?_)
  refine z_true rfl ?_
  exact z_finD 0 rfl (Nat.zero_le _) rfl rfl ⟨rfl, rfl⟩
 ·repeat (first | refine z_go ?_ | refine z_run ?_)
  refine z_false rfl ?_
  repeat (refine z_run ?_)
  exact z_finD 0 rfl (Nat.zero_le _) rfl rfl ⟨rfl, rfl⟩
theorem same15_bool (H : Knd E gl inf c0 c1 c2 fuel) (b : Bool) : PR E gl 15 [.sl 4 1 [I 3, I (if b then 1 else 0), St ⟨#[]⟩, .sl 4 0 []], .fx 4 1 [I 3, I 1, .c (bs []), .c (.slice none 0 0)]] [] (Bo b) [] := by
 have h := same32_bool H b
 refine fnZ H.hE (cfg := c0) (fuel := fuel) H.h15 (by kernel_rfl) ?_
 unfold t15
 cases b
 ·repeat (first | refine z_go ?_ | refine z_run ?_)
  exact ⟨rfl, rfl⟩
 ·repeat (first | refine z_go ?_ | refine z_run ?_)
  exact ⟨rfl, rfl⟩
theorem same18_bool (H : Knd E gl inf c0 c1 c2 fuel) (b : Bool) : PR E gl 18 [.sl 1 1 [(Val.bool b).p], .fx 4 1 [I 3, I 1, .c (bs []), .c (.slice none 0 0)]] [] (Bo b) [] := by
 have h := same15_bool H b
 have ht : PR E gl 11 [.sl 1 1 [(Val.bool b).p]] [] (.ow tV 4 1 [I 3, I (if b then 1 else 0), St ⟨#[]⟩, .sl 4 0 []]) [] :=
  trees_all H.hE H.conv (l := [.bool b]) (by simp) (by simp [Val.smalls, Val.small])
 simp only [Val.p] at ht ⊢
 refine fnZ H.hE (cfg := c0) (fuel := fuel) H.h18 (by kernel_rfl) ?_
 unfold t18
 repeat (first | refine z_go ?_ | refine z_run ?_)
 exact ⟨rfl, rfl⟩
end Go.AM.PV
namespace Go.AM.PV
open Go Go.AM Go.AM.SX
attribute [local irreducible] pz LoopP
variable {E : Env} {gl : List GRow} {inf : Nat → TypeInfo} {c0 c1 c2 : Cfg} {fuel : Nat}
theorem denSlG {ps : List P} {x : X} {a : At} {p : P} {n sz : Nat} {l : List P} (hx : denX ps x = some p) (h : denA ps a = .lit l) (hn : l.length = n * sz) (h0 : 0 < n) : denF ps [x, .sl a n] = some [fz p, .fx sz n l] := by
 have h2 : denX ps (.sl a n) = some (.fx sz n l) := by
  show (match denA ps a with
   | .lit l => if l.length = n * (if n = 0 then 1 else l.length / n) then some (P.fx (if n = 0 then 1 else l.length / n) n l) else none
   | _ => none) = _
  rw [h]
  dsimp only
  have hd : (if n = 0 then 1 else l.length / n) = sz := by rw [if_neg (by omega), hn, Nat.mul_div_cancel_left _ h0]
  rw [hd, if_pos hn]
 unfold denF
 rw [hx]
 unfold denF
 rw [h2]
 rfl
set_option maxHeartbeats 4000000 in
theorem kinds_good (H : Knd E gl inf c0 c1 c2 fuel) (v : V) (hs : v.small 1048576) (hu : v.val.small 1048576) (hz : v.val.tree.sz ≤ 1048576) (hc : v.val.chk vsR nmR = 0) : PR E gl 8 [.agg v.p] [] (Bo true) [.cells v.p] := by
 have hv1 : okm.okL 0 [.agg v.p] = true := by simp only [okm.okL, okm, okL_v, Bool.and_self]
 have hu1 : okm.okL 0 [v.val.p] = true := by simp only [okm.okL, okm_val, Bool.and_self]
 have ht1 : okm.okL 0 [.agg v.val.tree.p] = true := by simp only [okm.okL, okm, okL_v, Bool.and_self]
 have hd1 : ∀ s, okm.okL 0 [.c s, .fx 1 1 [v.val.p]] = true := fun s => by simp only [okm.okL, okm, okm_val, Bool.and_self]
 have hval := PR.frame (value_all (gl := gl) H.hE H.conv v hs) hv1 [.cells v.p]
 have htr := PR.frame (tree_all (gl := gl) H.hE H.conv v.val hu) hu1 [.cells v.p]
 have hsd := H.sound v.val.tree hz
 rw [sound_chk, hc, decide_eq_true rfl] at hsd
 have hsd := PR.frame hsd ht1 [.cells v.p]
 have hd := fun w hw => PR.frame (do_ask H.toDos v.val hu hc w hw (H.want w hw)) (hd1 _) [.cells v.p]
 have hst := PR.frame (same18_bool H true) rfl [.cells v.p]
 have hsf := PR.frame (same18_bool H false) rfl [.cells v.p]
 have haw := PR.frame H.awake rfl [.cells v.p]
 clear hv1 hu1 ht1 hd1
 have hn : v.val ≠ .nil := by
  intro e
  rw [e] at hc
  revert hc
  decide
 generalize v.val = u at *
 have hd1 := hd _ (.head _)
 have hd2 := hd _ (.tail _ (.head _))
 have hd3 := hd _ (.tail _ (.tail _ (.head _)))
 have hd4 := hd _ (.tail _ (.tail _ (.tail _ (.head _))))
 have hd5 := hd _ (.tail _ (.tail _ (.tail _ (.tail _ (.head _)))))
 have hd6 := hd _ (.tail _ (.tail _ (.tail _ (.tail _ (.tail _ (.head _))))))
 clear hd
 dsimp only at hd1 hd2 hd3 hd4 hd5 hd6
 refine fnZ H.hE (cfg := c0) (fuel := fuel) H.h8 (by kernel_rfl) ?_
 unfold t8
 clear hs hu
 cases u <;> first
  | exact (hn rfl).elim
  | skip
 all_goals
  clear hn hc
  generalize Val.tree _ = tt at *
  simp only [Val.p] at *
  obtain ⟨tk, tn, ts, tl⟩ := tt
  obtain ⟨vk, vn', vs, vl⟩ := v
  simp only [V.p] at *
  repeat (first | refine z_go ?_ | refine z_run ?_ | refine z_call (denSlG (sz := 1) rfl rfl rfl (by decide)) (by assumption) (Nat.le_refl _) ?_ | refine z_call (denSlG (sz := 4) rfl rfl rfl (by decide)) (by assumption) (Nat.le_refl _) ?_ | dsimp only [List.map, List.take, List.drop, fz])
  exact ⟨rfl, rfl⟩
set_option maxHeartbeats 4000000 in
theorem kinds_bad (H : Knd E gl inf c0 c1 c2 fuel) (v : V) (hs : v.small 1048576) (hu : v.val.small 1048576) (hz : v.val.tree.sz ≤ 1048576) (hc : ¬ v.val.chk vsR nmR = 0) : PR E gl 8 [.agg v.p] [] (Bo true) [.cells v.p] := by
 have hv1 : okm.okL 0 [.agg v.p] = true := by simp only [okm.okL, okm, okL_v, Bool.and_self]
 have hu1 : okm.okL 0 [v.val.p] = true := by simp only [okm.okL, okm_val, Bool.and_self]
 have ht1 : okm.okL 0 [.agg v.val.tree.p] = true := by simp only [okm.okL, okm, okL_v, Bool.and_self]
 have hd1 : ∀ s, okm.okL 0 [.c s, .fx 1 1 [v.val.p]] = true := fun s => by simp only [okm.okL, okm, okm_val, Bool.and_self]
 have hval := PR.frame (value_all (gl := gl) H.hE H.conv v hs) hv1 [.cells v.p]
 have htr := PR.frame (tree_all (gl := gl) H.hE H.conv v.val hu) hu1 [.cells v.p]
 have hsd := H.sound v.val.tree hz
 rw [sound_chk, decide_eq_false hc] at hsd
 have hsd := PR.frame hsd ht1 [.cells v.p]
 have hd1 := PR.frame (do_bad H.toDos v.val hu [105, 110, 116, 63] hc) (hd1 _) [.cells v.p]
 have hd2 := PR.frame (do_bad H.toDos v.val hu [115, 116, 114, 63] hc) (by simp only [okm.okL, okm, okm_val, Bool.and_self]) [.cells v.p]
 have hd3 := PR.frame (do_bad H.toDos v.val hu [98, 111, 111, 108, 63] hc) (by simp only [okm.okL, okm, okm_val, Bool.and_self]) [.cells v.p]
 have hd4 := PR.frame (do_bad H.toDos v.val hu [108, 105, 115, 116, 63] hc) (by simp only [okm.okL, okm, okm_val, Bool.and_self]) [.cells v.p]
 have hd5 := PR.frame (do_bad H.toDos v.val hu [113, 117, 111, 116, 63] hc) (by simp only [okm.okL, okm, okm_val, Bool.and_self]) [.cells v.p]
 have hd6 := PR.frame (do_bad H.toDos v.val hu [98, 111, 120, 63] hc) (by simp only [okm.okL, okm, okm_val, Bool.and_self]) [.cells v.p]
 have haw := PR.frame H.awake rfl [.cells v.p]
 clear hv1 hu1 ht1 hs hu hz hc
 generalize v.val = u at *
 refine fnZ H.hE (cfg := c0) (fuel := fuel) H.h8 (by kernel_rfl) ?_
 unfold t8
 cases u
 all_goals
  generalize Val.tree _ = tt at *
  simp only [Val.p] at *
  obtain ⟨tk, tn, ts, tl⟩ := tt
  obtain ⟨vk, vn', vs, vl⟩ := v
  simp only [V.p] at *
  repeat (first | refine z_go ?_ | refine z_run ?_ | refine z_call (denSlG (sz := 1) rfl rfl rfl (by decide)) (by assumption) (Nat.le_refl _) ?_ | dsimp only [List.map, List.take, List.drop, fz])
  exact ⟨rfl, rfl⟩
theorem kinds_ok (H : Knd E gl inf c0 c1 c2 fuel) (v : V) (hs : v.small 1048576) (hu : v.val.small 1048576) (hz : v.val.tree.sz ≤ 1048576) : PR E gl 8 [.agg v.p] [] (Bo true) [.cells v.p] := by
 by_cases hc : v.val.chk vsR nmR = 0
 ·exact kinds_good H v hs hu hz hc
 ·exact kinds_bad H v hs hu hz hc
end Go.AM.PV
namespace Go.AM.PV
open Go Go.AM Go.AM.SX
theorem V.len_szs : ∀ l : List V, l.length ≤ V.szs l
 | [] => Nat.le_refl _
 | v :: l => by
  have h := V.len_szs l
  have h1 := V.sz_pos v
  simp only [V.szs, List.length_cons]
  omega
mutual
theorem V.small_of : ∀ (v : V) {n : Nat}, v.sz ≤ n → v.small n
 | .mk k m s l, n, h => by
  simp only [V.sz] at h
  have h1 := V.len_szs l
  simp only [V.small]
  exact ⟨by omega, V.smalls_of l (by omega), by omega⟩
theorem V.smalls_of : ∀ (l : List V) {n : Nat}, V.szs l ≤ n → V.smalls n l
 | [], n, h => by simp only [V.smalls]
 | v :: l, n, h => by
  simp only [V.szs] at h
  simp only [V.smalls]
  exact ⟨V.small_of v (by omega), V.smalls_of l (by omega)⟩
end
theorem vals_len : ∀ l : List V, (V.vals l).length = l.length
 | [] => rfl
 | v :: l => by simp only [V.vals, List.length_cons, vals_len l]
theorem itms_len : ∀ l : List V, (V.itms l).length = l.length
 | [] => rfl
 | v :: l => by simp only [V.itms, List.length_cons, itms_len l]
mutual
theorem val_small : ∀ (v : V) {n : Nat}, v.sz ≤ n → v.val.small n
 | .mk k m s l, n, h => by
  simp only [V.sz] at h
  have h1 := V.len_szs l
  have h2 := vals_small l (n := n) (by omega)
  have h3 := itms_small l (n := n) (by omega)
  have h4 := vals_len l
  have h5 := itms_len l
  simp only [V.val]
  repeat' split
  all_goals simp only [Val.small]
  ·omega
  ·exact ⟨by omega, h2⟩
  ·exact ⟨by omega, h3⟩
theorem vals_small : ∀ (l : List V) {n : Nat}, V.szs l ≤ n → Val.smalls n (V.vals l)
 | [], n, h => by simp only [V.vals, Val.smalls]
 | v :: l, n, h => by
  simp only [V.szs] at h
  simp only [V.vals, Val.smalls]
  exact ⟨val_small v (by omega), vals_small l (by omega)⟩
theorem itm_small : ∀ (v : V) {n : Nat}, v.sz ≤ n → v.itm.small n
 | .mk k m s l, n, h => by
  have hv := val_small (.mk k m s l) h
  rw [V.itm_eq]
  simp only [V.sz] at h
  dsimp only
  repeat' split
  all_goals simp only [Itm.small]
  ·omega
  ·exact hv
theorem itms_small : ∀ (l : List V) {n : Nat}, V.szs l ≤ n → Itm.smalls n (V.itms l)
 | [], n, h => by simp only [V.itms, Itm.smalls]
 | v :: l, n, h => by
  simp only [V.szs] at h
  simp only [V.itms, Itm.smalls]
  exact ⟨itm_small v (by omega), itms_small l (by omega)⟩
end
mutual
theorem tree_sz : ∀ (v : V), v.val.tree.sz ≤ v.sz
 | .mk k m s l => by
  have h2 := trees_sz l
  have h3 := itrees_sz l
  have h0 : (ByteArray.mk #[]).size = 0 := rfl
  simp only [V.val]
  repeat' split
  all_goals simp only [Val.tree, V.sz, V.szs, h0]
  all_goals omega
theorem trees_sz : ∀ (l : List V), V.szs (Val.trees (V.vals l)) ≤ V.szs l
 | [] => by simp only [V.vals, Val.trees, V.szs]; exact Nat.le_refl _
 | v :: l => by
  have h1 := tree_sz v
  have h2 := trees_sz l
  simp only [V.vals, Val.trees, V.szs]
  omega
theorem itree_sz : ∀ (v : V), v.itm.tree.sz ≤ v.sz
 | .mk k m s l => by
  have hv := tree_sz (.mk k m s l)
  have h0 : (ByteArray.mk #[]).size = 0 := rfl
  rw [V.itm_eq]
  dsimp only
  repeat' split
  all_goals simp only [Itm.tree, V.sz, V.szs, h0] at hv ⊢
  all_goals omega
theorem itrees_sz : ∀ (l : List V), V.szs (Itm.trees (V.itms l)) ≤ V.szs l
 | [] => by simp only [V.itms, Itm.trees, V.szs]; exact Nat.le_refl _
 | v :: l => by
  have h1 := itree_sz v
  have h2 := itrees_sz l
  simp only [V.itms, Itm.trees, V.szs]
  omega
end
variable {E : Env} {gl : List GRow} {inf : Nat → TypeInfo} {c0 c1 c2 : Cfg} {fuel : Nat}
/-- The law PrimKinds at every tree that is small. -/
theorem kinds_small (H : Knd E gl inf c0 c1 c2 fuel) (v : V) (hv : v.sz ≤ 1048576) : PR E gl 8 [.agg v.p] [] (Bo true) [.cells v.p] :=
 kinds_ok H v (V.small_of v hv) (val_small v hv) (Nat.le_trans (tree_sz v) hv)
end Go.AM.PV
namespace Go.AM.PV
open Go Go.AM Go.AM.SX Go.Proofs
noncomputable def E1 : Env := { mkEnv Tryz.prog with ng := 3, known := k10 :: sixW.map k25, xf := [64, 145], xt := xtU }
noncomputable def inf1 (e : Nat) : TypeInfo := match E1.inf e with
 | some i => i
 | none => default
def cf0 : Cfg := { inl := [], unr := [] }
def cf1 : Cfg := { inl := [168, 180, 190, 155], unr := [] }
def cf2 : Cfg := { inl := [46], unr := [] }
set_option maxRecDepth 1000000
set_option maxHeartbeats 0
theorem e_h16 : sxFn E1 cf0 2000 16 1 = some t16 := by kernel_rfl
theorem e_h21 : sxFn E1 cf0 2000 21 1 = some t21 := by kernel_rfl
theorem e_h24 : sxFn E1 cf0 2000 24 1 = some t24 := by kernel_rfl
theorem e_h33 : sxFn E1 cf0 2000 33 3 = some t33 := by kernel_rfl
theorem e_h37 : sxFn E1 cf0 2000 37 2 = some t37 := by kernel_rfl
theorem e_h39 : sxFn E1 cf0 2000 39 3 = some t39 := by kernel_rfl
theorem e_h56 : sxFn E1 cf0 2000 56 1 = some t56 := by kernel_rfl
theorem e_h57 : sxFn E1 cf0 2000 57 1 = some t57 := by kernel_rfl
theorem e_h62 : sxFn E1 cf0 2000 62 2 = some t62 := by kernel_rfl
theorem e_h65 : sxFn E1 cf0 2000 65 3 = some t65 := by kernel_rfl
theorem e_h67 : sxFn E1 cf0 2000 67 2 = some t67 := by kernel_rfl
theorem e_h95 : sxFn E1 cf0 2000 95 1 = some (t95 inf1) := by kernel_rfl
theorem e_h96 : sxFn E1 cf0 2000 96 1 = some t96 := by kernel_rfl
theorem e_h97 : sxFn E1 cf0 2000 97 1 = some t97 := by kernel_rfl
theorem e_h102 : sxFn E1 cf0 2000 102 1 = some t102 := by kernel_rfl
theorem e_h105 : sxFn E1 cf0 2000 105 2 = some t105 := by kernel_rfl
theorem e_h124 : sxFn E1 cf0 2000 124 1 = some t124 := by kernel_rfl
theorem e_h128 : sxFn E1 cf0 2000 128 1 = some t128 := by kernel_rfl
theorem e_h130 : sxFn E1 cf0 2000 130 1 = some t130 := by kernel_rfl
theorem e_h133 : sxFn E1 cf0 2000 133 1 = some t133 := by kernel_rfl
theorem e_h134 : sxFn E1 cf0 2000 134 1 = some t134 := by kernel_rfl
theorem e_h146 : sxFn E1 cf0 2000 146 1 = some t146 := by kernel_rfl
theorem e_h148 : sxFn E1 cf0 2000 148 1 = some t148 := by kernel_rfl
theorem e_h13 : sxFn E1 cf0 2000 13 2 = some (t13 inf1) := by kernel_rfl
theorem e_h26 : sxFn E1 cf0 2000 26 2 = some t26 := by kernel_rfl
theorem e_h28 : sxFn E1 cf0 2000 28 1 = some (t28 inf1) := by kernel_rfl
theorem e_h41 : sxFn E1 cf0 2000 41 2 = some t41 := by kernel_rfl
theorem e_h42 : sxFn E1 cf0 2000 42 1 = some t42 := by kernel_rfl
theorem e_h43 : sxFn E1 cf0 2000 43 2 = some t43 := by kernel_rfl
theorem e_h72 : sxFn E1 cf0 2000 72 1 = some t72 := by kernel_rfl
theorem e_h8 : sxFn E1 cf0 2000 8 1 = some t8 := by kernel_rfl
theorem e_h15 : sxFn E1 cf0 2000 15 2 = some t15 := by kernel_rfl
theorem e_h18 : sxFn E1 cf0 2000 18 2 = some t18 := by kernel_rfl
theorem e_h32 : sxFn E1 cf0 2000 32 2 = some t32 := by kernel_rfl
theorem e_h153 : sxFn E1 cf1 2000 153 2 = some t153 := by kernel_rfl
theorem e_h157 : sxFn E1 cf1 2000 157 1 = some t157 := by kernel_rfl
theorem e_h191 : sxFn E1 cf1 2000 191 1 = some t191 := by kernel_rfl
theorem e_h27 : sxFn E1 cf2 2000 27 1 = some (t27 inf1) := by kernel_rfl
theorem e_h19 : sxFn E1 cf0 2000 19 1 = some t19 := by kernel_rfl
theorem e_h12 : sxFn E1 cf0 2000 12 1 = some (t12 inf1) := by kernel_rfl
theorem e_h58 : sxFn E1 cf0 2000 58 1 = some t58 := by kernel_rfl
theorem e_h34 : sxFn E1 cf0 2000 34 1 = some (t34 inf1) := by kernel_rfl
theorem e_h20 : sxFn E1 cf0 2000 20 1 = some t20 := by kernel_rfl
theorem e_h11 : sxFn E1 cf0 2000 11 1 = some (t11 inf1) := by kernel_rfl
theorem e_h59 : sxFn E1 cf0 2000 59 1 = some t59 := by kernel_rfl
theorem e_h35 : sxFn E1 cf0 2000 35 1 = some (t35 inf1) := by kernel_rfl
theorem e_i1a : (inf1 151).size = 4 := by kernel_rfl
theorem e_i1b : (inf1 151).bytes = 32 := by kernel_rfl
theorem e_i2a : (inf1 41).size = 1 := by kernel_rfl
theorem e_i2b : (inf1 41).bytes = 16 := by kernel_rfl
theorem e_i3a : (inf1 100).size = 1 := by kernel_rfl
theorem e_i3b : (inf1 100).bytes = 16 := by kernel_rfl
theorem e_i4a : (inf1 35).size = 4 := by kernel_rfl
theorem e_i4b : (inf1 35).bytes = 56 := by kernel_rfl
end Go.AM.PV
namespace Go.AM.PV
open Go Go.AM Go.AM.SX Go.Proofs
set_option maxRecDepth 1000000
theorem pn_names : Tryz.prog.funcs.all (fun g => !(g.name == "runtime.NumGoroutine")) = true := by kernel_rfl
theorem pn_mix : Tryz.prog.follows .mixedOrders = true := by kernel_rfl
theorem pn_ext : Tryz.prog.funcs.all (fun g => !(extNames.contains g.name) || (Extern.allNextRows.lookup g.origin).isNone) = true := by kernel_rfl
section
variable (nm : Nm)
theorem ok00 : EnvOk E00 Tryz.prog nm := (envOk Tryz.prog [] (fun _ h => by cases h) pn_names pn_mix (ext_ok _ pn_ext)).ng 0
theorem ok0 : EnvOk E0 Tryz.prog nm := (envOk Tryz.prog [] (fun _ h => by cases h) pn_names pn_mix (ext_ok _ pn_ext)).ng 1
theorem kF_ok : KnownOk Tryz.prog nm kF := known_of_run (ok0 nm) (Nat.le_refl 1) kF_run
theorem okK : EnvOk EK Tryz.prog nm := (ok0 nm).knows _ fun k hk => by
 rcases List.mem_cons.1 hk with rfl | hk
 ·exact kF_ok nm
 ·exact known_of_run (ok00 nm) (Nat.zero_le _) fun f => List.all_eq_true.1 (cuts_run f) k hk
theorem known_ok : ∀ k, k ∈ k10 :: sixW.map k25 → KnownOk Tryz.prog nm k := by
 intro k hk
 rcases List.mem_cons.1 hk with rfl | hk
 ·exact known_of_run (okK nm) (Nat.le_refl 1) k10_run
 ·refine known_of_run (okK nm) ?_ fun f => List.all_eq_true.1 (k25_run f) k hk
  obtain ⟨w, _, rfl⟩ := List.mem_map.1 hk
  exact Nat.le_refl 1
theorem ok1 : EnvOk E1 Tryz.prog nm := (((envOk Tryz.prog [] (fun _ h => by cases h) pn_names pn_mix (ext_ok _ pn_ext)).ng 3).knows _ (known_ok nm)).xts [64, 145] xtU (xtU_ok nm)
end
theorem hE1 : SxEnv E1 := SxEnv.of (ok1 .empty) rfl
/-- The globals that are looked at. -/
def glK : List GRow := [asc, rFirst, rAcc]
theorem known_none {f : FuncId} {vs : List Value} : ∀ {ks : List Known}, (ks.all fun k => !Nat.beq k.f f) = true → knownAt f vs ks = none
 | [], _ => rfl
 | k :: ks, h => by
  simp only [List.all_cons, Bool.and_eq_true, Bool.not_eq_true'] at h
  show (if Nat.beq k.f f && peqL k.args vs then some k else knownAt f vs ks) = none
  rw [h.1, Bool.false_and, if_neg (by simp)]
  exact known_none h.2
theorem conv1 : ConvT E1 inf1 cf0 2000 :=
 { t19 := e_h19, t12 := e_h12, t58 := e_h58, t34 := e_h34, t20 := e_h20, t11 := e_h11, t59 := e_h59, t35 := e_h35, val1 := e_i2a, val2 := e_i2b, itm1 := e_i3a, itm2 := e_i3b, v1 := e_i4a, v2 := e_i4b }
theorem knd1 : Knd E1 glK inf1 cf0 cf1 cf2 2000 :=
 { hE := hE1, hx := rfl, hxt := rfl, hk1 := fun s => known_none (by kernel_rfl), hk2 := fun s => known_none (by kernel_rfl), g1 := by simp [glK], g2 := by simp [glK], hn := Nat.le_refl 3, i1 := e_i1a, i2 := e_i1b,
   h16 := e_h16, h21 := e_h21, h24 := e_h24, h33 := e_h33, h37 := e_h37, h39 := e_h39, h56 := e_h56, h57 := e_h57, h62 := e_h62, h65 := e_h65, h67 := e_h67, h95 := e_h95, h96 := e_h96, h97 := e_h97, h102 := e_h102, h105 := e_h105,
   h124 := e_h124, h128 := e_h128, h130 := e_h130, h133 := e_h133, h134 := e_h134, h146 := e_h146, h148 := e_h148, h153 := e_h153, h157 := e_h157, h191 := e_h191,
   j1 := e_i2a, j2 := e_i2b, h13 := e_h13, h26 := e_h26, h27 := e_h27, h28 := e_h28, h41 := e_h41, h42 := e_h42, h43 := e_h43, h72 := e_h72,
   conv := conv1, h8 := e_h8, h15 := e_h15, h18 := e_h18, h32 := e_h32,
   awake := PR.known (k := k10) (show knw E1 10 [] = some k10 from rfl) (fun r hr => by
    simp only [k10, List.mem_cons, List.not_mem_nil, or_false] at hr
    subst hr
    exact ⟨by simp [glK], by show 0 < 3; omega⟩) rfl [],
   want := fun w hw => by
    simp only [askW, List.mem_cons, List.not_mem_nil, or_false] at hw
    have hl : ∀ (l : List UInt8) (r : GRow), r ∈ (k25 l).looks → r ∈ glK ∧ r.g < E1.ng := fun l r hr => by
     simp only [k25, List.mem_cons, List.not_mem_nil, or_false] at hr
     subst hr
     exact ⟨by simp [glK], by show 0 < 3; omega⟩
    rcases hw with rfl | rfl | rfl | rfl | rfl | rfl <;> exact PR.known (k := k25 _) (show knw E1 25 [bs _] = some (k25 _) from rfl) (hl _) rfl [] }
/-- The law PrimKinds, at the program. -/
theorem kinds1 (v : V) (hv : v.sz ≤ 1048576) : PR E1 glK 8 [.agg v.p] [] (Bo true) [.cells v.p] := kinds_small knd1 v hv
end Go.AM.PV
namespace Go.Proofs.YtilbjefgojocaaaGreatDoor
open Go Go.AM Go.AM.SX Go.AM.PV
set_option maxRecDepth 1000000
section
variable {H : Type}
theorem bulk_pos (d : DataW H) : 1 ≤ Rows.uptoBulk d := by
 cases d with
 | lit l => cases l <;> simp [Rows.uptoBulk]
 | nil => simp [Rows.uptoBulk]
 | ptr d => simp [Rows.uptoBulk]
 | slice elems spare => simp [Rows.uptoBulk]
 | agg parts => simp [Rows.uptoBulk]
 | iface t d => simp [Rows.uptoBulk]
 | map entries => simp [Rows.uptoBulk]
 | held h => simp [Rows.uptoBulk]
theorem rdVs {n : Nat} (ih : ∀ (d : DataW H) (ps : List P), Rows.uptoBulk d ≤ n → Rd Tryz.prog 35 d ps → ∃ v : V, ps = v.p ∧ v.sz ≤ Rows.uptoBulk d) :
  ∀ (ds : List (DataW H)) (ps : List P), Rows.uptoBulkAll ds ≤ n → RdL Tryz.prog 35 ds ps → ∃ l : List V, ps = V.ps l ∧ ds.length = l.length ∧ V.szs l ≤ Rows.uptoBulkAll ds
 | [], ps, _, h => by
  cases h
  exact ⟨[], rfl, rfl, Nat.zero_le _⟩
 | d :: ds, ps, hn, h => by
  simp only [Rows.uptoBulkAll] at hn
  cases h with
  | cons _ _ _ p ps h1 h2 =>
   obtain ⟨v, rfl, hv⟩ := ih d p (by omega) h1
   obtain ⟨l, rfl, hl, hs⟩ := rdVs ih ds ps (by omega) h2
   refine ⟨v :: l, rfl, by simp [hl], ?_⟩
   simp only [V.szs, Rows.uptoBulkAll]
   omega
theorem fs35 : ∃ fs : Array Field, Tryz.prog.underlying 35 = some (.struct fs) ∧ ∃ a b c d : Field, fs.toList = [a, b, c, d] ∧ Tryz.prog.underlying a.type = some (.int .i64) ∧ Tryz.prog.underlying b.type = some (.int .i64) ∧ Tryz.prog.underlying c.type = some .string ∧ Tryz.prog.underlying d.type = some (.slice 35) :=
 ⟨_, Tryz.underlying35, _, _, _, _, rfl, by kernel_rfl, by kernel_rfl, by kernel_rfl, by kernel_rfl⟩
theorem c35 : Tryz.prog.cellsOf 35 = 4 := by kernel_rfl
theorem rdV : ∀ (n : Nat) (d : DataW H) (ps : List P), Rows.uptoBulk d ≤ n → Rd Tryz.prog 35 d ps → ∃ v : V, ps = v.p ∧ v.sz ≤ Rows.uptoBulk d
 | 0, d, ps, hn, _ => by
  have := bulk_pos d
  omega
 | n + 1, d, ps, hn, h => by
  obtain ⟨fs, hu, fa, fb, fc, fd, hfs, ua, ub, uc, ud⟩ := fs35
  obtain ⟨ds, rfl, hF⟩ := rd_struct hu h
  rw [hfs] at hF
  obtain ⟨d1, ds, p1, ps, rfl, rfl, h1, hF⟩ := rdf_cons hF
  obtain ⟨d2, ds, p2, ps, rfl, rfl, h2, hF⟩ := rdf_cons hF
  obtain ⟨d3, ds, p3, ps, rfl, rfl, h3, hF⟩ := rdf_cons hF
  obtain ⟨d4, ds, p4, ps, rfl, rfl, h4, hF⟩ := rdf_cons hF
  obtain ⟨rfl, rfl⟩ := rdf_nil hF
  obtain ⟨k, rfl, rfl, _⟩ := rd_int ua h1
  obtain ⟨m, rfl, rfl, _⟩ := rd_int ub h2
  obtain ⟨s, rfl, rfl, _⟩ := rd_str uc h3
  simp only [Rows.uptoBulk, Rows.uptoBulkAll] at hn ⊢
  have hs : s.data.toList.length = s.size := by rw [Array.length_toList]; rfl
  rcases rd_slice ud h4 with ⟨rfl, rfl⟩ | ⟨es, rest, qs, rfl, rfl, hl⟩
  ·refine ⟨.mk k m s [], ?_, ?_⟩
   ·rw [c35]; rfl
   ·simp only [V.sz, V.szs, Rows.uptoBulk]; omega
  ·simp only [Rows.uptoBulk] at hn ⊢
   obtain ⟨l, rfl, hl1, hl2⟩ := rdVs (n := n) (fun d ps h1 h2 => rdV n d ps h1 h2) es qs (by omega) hl
   refine ⟨.mk k m s l, ?_, ?_⟩
   ·rw [c35, hl1]; rfl
   ·simp only [V.sz]; omega
/-- An argument that is a tree. -/
theorem argV {d : DataW H} {p : P} (h : RdV Tryz.prog 35 d p) : ∃ v : V, p = .agg v.p ∧ v.sz ≤ Rows.uptoBulk d := by
 obtain ⟨fs, hu, _⟩ := fs35
 obtain ⟨ps, rfl, h1⟩ := rdv_agg hu h
 obtain ⟨v, rfl, hv⟩ := rdV _ d ps (Nat.le_refl _) h1
 exact ⟨v, rfl, hv⟩
end
/-- The types that a law's arguments are made of. -/
def tsV : List TypeId := [35, 2, 3, 4, 9, 22]
theorem tsV_ok : typsOk Tryz.prog tsV = true := by kernel_rfl
theorem laidG : numbered glK = true := by kernel_rfl
theorem laidP : glK.all (fun r => r.cells.all plainV) = true := by kernel_rfl
theorem laidL : ∀ g : Nat → TypeId, glK.all (fun r => lookOk (stOf (gRows g glK)) r) = true := by
 intro g
 kernel_rfl
def laidB : List (String × DataW Unit) := Rows.primKindsRow.laid
theorem laid_plain : (laidB.all fun x => x.2.handleName?.isNone) = true := by kernel_rfl
theorem gAsc : Tryz.prog.globalNamed "strings.asciiSpace" = some 0 := by kernel_rfl
theorem gFirst : Tryz.prog.globalNamed "unicode/utf8.first" = some 1 := by kernel_rfl
theorem gAcc : Tryz.prog.globalNamed "unicode/utf8.acceptRanges" = some 2 := by kernel_rfl
theorem gAscD : cellsD Tryz.prog 3 (((Tryz.prog.globals[0]?).map (·.type)).getD 0) (Rows.laid_strings_asciiSpace (H := Unit)) = some asc.cells := by kernel_rfl
theorem gFirstD : cellsD Tryz.prog 3 (((Tryz.prog.globals[1]?).map (·.type)).getD 0) Rows.laid_unicode_utf8_first = some rFirst.cells := by kernel_rfl
theorem gAccD : cellsD Tryz.prog 3 (((Tryz.prog.globals[2]?).map (·.type)).getD 0) (Rows.laid_unicode_utf8_acceptRanges (H := Unit)) = some rAcc.cells := by kernel_rfl
theorem gT (g : Nat) (h : ((Tryz.prog.globals[g]?).map (·.type)).isSome = true) : (Tryz.prog.globals[g]?).map (·.type) = some (((Tryz.prog.globals[g]?).map (·.type)).getD 0) := by
 cases hh : (Tryz.prog.globals[g]?).map (·.type) with
 | none => rw [hh] at h; cases h
 | some x => rfl
theorem laid_rows {W : World} (h : laidMetH Tryz.prog laidB W) : ∀ r, r ∈ glK → ∃ t fz, W.heap[r.g]? = some (.cells r.cells.toArray t fz) := by
 rw [MakeChecks.laidMetH_plain _ _ _ laid_plain] at h
 intro r hr
 simp only [glK, List.mem_cons, List.not_mem_nil, or_false] at hr
 rcases hr with rfl | rfl | rfl
 ·exact laid_at h (x := "strings.asciiSpace") (by simp [laidB, Rows.primKindsRow]) gAsc (gT 0 (by kernel_rfl)) gAscD
 ·exact laid_at h (x := "unicode/utf8.first") (by simp [laidB, Rows.primKindsRow]) gFirst (gT 1 (by kernel_rfl)) gFirstD
 ·exact laid_at h (x := "unicode/utf8.acceptRanges") (by simp [laidB, Rows.primKindsRow]) gAcc (gT 2 (by kernel_rfl)) gAccD
theorem pk_laidOut : laidOutB Tryz.prog = true := by kernel_rfl
theorem pk_maps : mapsRowed Tryz.prog = true := by kernel_rfl
theorem pk_slices : ((List.range Tryz.prog.types.size).all fun t => match Tryz.prog.underlying t with | some (.slice e) => decide (0 < Tryz.prog.cellsOf e) | _ => true) = true := by kernel_rfl
theorem pk_own : ownKnob Tryz.prog.godebug = none := by kernel_rfl
end Go.Proofs.YtilbjefgojocaaaGreatDoor
namespace Go.Proofs.YtilbjefgojocaaaGreatDoor
open Go Go.ChangeMaps Go.ChangeShapes Go.WideShapes Go.ChangeAt Go.RowKit Go.AM Go.AM.SX Go.AM.PV
set_option maxRecDepth 1000000
theorem primKinds_contract (H : Type) (enc : TypeId × Value → H) (W : World) (base : Nat) (args : Array Value) (ds gs : List (DataW H)) (before : List MemPlace)
  (hval0 : ∀ (j : Nat) t v, Tryz.f8.params[j]? = some t → args[j]? = some v → Value.okWide Tryz.prog W .any base t v)
  (hW : DataW.Whole enc Tryz.prog Tryz.f8.params.toList Rows.primKindsSpec.vars false W args.toList ds gs before) (hk : Rows.uptoSmall H (ds ++ gs) = true) (hL : laidMetH Tryz.prog laidB W) :
  Calls Tryz.prog 8 args W fun e W' => ∃ v, e = .returned v ∧ Rows.primKindsSpec.post enc Tryz.prog Tryz.f8 false true false false W args v W' := by
 have hval := hval0
 have hW' := hW
 obtain ⟨p, q, hA0, hV, rfl, _, _⟩ := hW
 have hA : DataW.TrodAll enc Tryz.prog W 0 (fun _ => true) true Tryz.f8.params.toList args.toList ds p := hA0
 obtain ⟨rfl, rfl⟩ := trodVars_none hV
 simp only [List.append_nil] at hW' hk
 have hlt : ∀ x, x ∈ p → x.block < W.heap.size := fun x hx => hW'.lt x hx
 have hag : ∀ W' : World, W.keptBut W' (fun _ => False) → DataW.TrodAll enc Tryz.prog W' 0 (fun b => decide (b < W.heap.size)) true Tryz.f8.params.toList args.toList ds p := fun W' hg =>
  again_ok pk_laidOut pk_maps pk_slices (by kernel_rfl) hA hlt hg
 have hb : Rows.uptoBulkAll ds ≤ 1048576 := of_decide_eq_true hk
 have hA1 := hA
 rw [Tryz.params8] at hA1 hval
 have hcalls : Calls Tryz.prog 8 args W fun e w' => e = .returned (.bool true) ∧ W.keptBut w' (fun _ => False) := by
  refine law_calls (ok1 ByteArray.empty) (f := 8) (gl := glK) (ts := tsV) (tl := [35]) rfl tsV_ok (Nat.le_refl 3) (by decide) laidG laidP laidL (laid_rows hL) (by decide) hA1 (fun j t v h1 h2 => hval j t v (by simpa using h1) (by simpa using h2)) ?_
  intro ps h
  clear hag hlt hA hA0 hA1 hval hval0 hW' hk hV hL
  obtain ⟨d, _, p, _, rfl, rfl, h1, h⟩ := rda_cons h
  obtain ⟨rfl, rfl⟩ := rda_nil h
  obtain ⟨v, rfl, hv⟩ := argV h1
  refine ⟨_, kinds1 v ?_⟩
  simp only [Rows.uptoBulkAll] at hb
  omega
 have hds : ∃ d0, ds = [d0] := by
  clear hcalls hag hW' hk hb
  obtain ⟨v0, vs0, d0, ds0, p0, q0, hv0, rfl, rfl, h0, r0⟩ := trodAll_cons hA1
  obtain ⟨_, rfl, _⟩ := trodAll_nil r0
  exact ⟨d0, rfl⟩
 obtain ⟨d0, rfl⟩ := hds
 refine hcalls.mono fun e W' ⟨he, hg⟩ => ?_
 subst he
 refine ⟨_, rfl, _, _, _, [], p, [], hW', ?_, ?_, ?_, ?_, fun h => by cases h⟩
 ·exact trodAll_mk1 (shut_bool Tryz.underlying4 true)
 ·exact hag W' hg
 ·rfl
 ·exact World.keptBut_mono (fun _ h => h.elim) hg
theorem primKinds_reads (os : Os) {H : Type} (enc : TypeId × Value → H) : ∃ places, DataW.whole enc Tryz.prog ((World.laidAll Tryz.prog os Rows.primKindsUptoRow.laid).forCall (fun _ _ => 0) ⟨#[], #[.agg #[.int .i64 0, .int .i64 0, .string .empty, .slice none 0 0]], []⟩).memory Tryz.f8.params.toList Rows.primKindsSpec.vars false (#[.agg #[.int .i64 0, .int .i64 0, .string .empty, .slice none 0 0]] : Array Value).toList 8 = some ([.agg [.lit (.int .i64 0), .lit (.int .i64 0), .lit (.string []), .nil]], [], places) :=
 ⟨[], by kernel_rfl⟩
theorem primKinds_w1 (os : Os) : ((World.laidAll Tryz.prog os Rows.primKindsUptoRow.laid).forCall (fun _ _ => 0) ⟨#[], #[.agg #[.int .i64 0, .int .i64 0, .string .empty, .slice none 0 0]], []⟩).Shaped Tryz.prog := World.shaped_of_ZipB (by kernel_rfl) (by kernel_rfl)
theorem primKinds_w2 (os : Os) : Input.okWideB Tryz.prog ((World.laidAll Tryz.prog os Rows.primKindsUptoRow.laid).forCall (fun _ _ => 0) ⟨#[], #[.agg #[.int .i64 0, .int .i64 0, .string .empty, .slice none 0 0]], []⟩) 8 ⟨#[], #[.agg #[.int .i64 0, .int .i64 0, .string .empty, .slice none 0 0]], []⟩ = true := by kernel_rfl
theorem primKinds_w3 (os : Os) {H : Type} (enc : TypeId × Value → H) : Rows.primKindsSpec.sizedB enc Tryz.prog Tryz.f8 false ((World.laidAll Tryz.prog os Rows.primKindsUptoRow.laid).forCall (fun _ _ => 0) ⟨#[], #[.agg #[.int .i64 0, .int .i64 0, .string .empty, .slice none 0 0]], []⟩).memory #[.agg #[.int .i64 0, .int .i64 0, .string .empty, .slice none 0 0]] 8 = true := by kernel_rfl
theorem primKinds_w4 (os : Os) : laidMetH Tryz.prog Rows.primKindsUptoRow.laid ((World.laidAll Tryz.prog os Rows.primKindsUptoRow.laid).forCall (fun _ _ => 0) ⟨#[], #[.agg #[.int .i64 0, .int .i64 0, .string .empty, .slice none 0 0]], []⟩).memory := by
 rw [MakeChecks.laidMetH_plain _ _ _ (by kernel_rfl)]
 exact laidMet_laidAll _ (by kernel_rfl) (by kernel_rfl)
theorem primKinds_lifted (os : Os) (started : os.Started) (H : Type) (enc : TypeId × Value → H) (F : Stop.Interp) :
  ReturnsInHanded {} Tryz.checked os 8 .any ((Rows.OpenSpec.upto Rows.primKindsSpec).preRow enc Tryz.prog Tryz.f8 Rows.primKindsUptoRow.domain false Rows.primKindsUptoRow.laid) (((Rows.OpenSpec.upto Rows.primKindsSpec).at F).post enc Tryz.prog Tryz.f8 false true false false) := by
 obtain ⟨places, hx⟩ := primKinds_reads os enc
 refine returnsInHanded_of_row (C := Tryz.checked) (s := Rows.OpenSpec.upto Rows.primKindsSpec) pk_own started (by kernel_rfl) Tryz.func8
  ⟨World.laidAll Tryz.prog os Rows.primKindsUptoRow.laid, fun _ _ => 0, ⟨#[], #[.agg #[.int .i64 0, .int .i64 0, .string .empty, .slice none 0 0]], []⟩, World.laidAll_os _ _ _, primKinds_w1 os, (Input.okWide_of_okWideB (base := 0) (primKinds_w2 os)).1, (Input.okWide_of_okWideB (primKinds_w2 os)).2,
   OpenSpec.preRow_of_cond 8 hx rfl (fun k hk => by cases hk; kernel_rfl) (primKinds_w3 os enc) (primKinds_w4 os), by
    simp only [Assume.holds]
    exact ⟨by simp, by simp, fun _ => Modest.zero, by simp, by simp⟩⟩ ?_
 intro W base args ds gs before hval hW _ hcond _ hL _ _
 exact primKinds_contract H enc W base args ds gs before hval hW (hcond _ rfl) hL
theorem primKinds_named' : Tryz.pinned.checked.prog.funcNamed Rows.primKindsUptoRow.func = some 8 := by kernel_rfl
theorem primKindsUpto_fact0 : (Rows.primKindsUptoRow.wf (OpenSpec.ofChange Rows.primKindsSpec) : Bool) = true := by kernel_rfl
theorem primKindsUpto_fact1 : (laidOutB Tryz.prog : Bool) = true := by kernel_rfl
theorem primKindsUpto_fact2 : (mapsRowed Tryz.prog : Bool) = true := by kernel_rfl
theorem primKindsUpto_fact3 : (Tryz.f8.params.all (Tryz.prog.readableRec ·) : Bool) = true := by kernel_rfl
theorem primKindsUpto_fact4 : (namedTie Tryz.prog Rows.primKindsUptoRow.named Rows.primKindsSpec.vars : Bool) = true := by kernel_rfl
theorem primKindsUpto_fact5 : ((Rows.primKindsUptoRow.stops == []) : Bool) = true := by kernel_rfl
theorem primKindsUpto_fact6 : ((Tryz.prog.stops == []) : Bool) = true := by kernel_rfl
theorem primKindsUpto_fact7 : ((Rows.primKindsUptoRow.knobs == []) : Bool) = true := by kernel_rfl
theorem primKindsUpto_fact8 : ((Tryz.prog.stopKnobs == []) : Bool) = true := by kernel_rfl
theorem primKindsUpto_fact9 : ((Rows.primKindsUptoRow.inPlace == Tryz.prog.inPlace 8) : Bool) = true := by kernel_rfl
theorem primKindsUpto_fact10 : ((Rows.primKindsUptoRow.unfollowed == Tryz.prog.unfollowed 8) : Bool) = true := by kernel_rfl
theorem primKindsUpto_fact11 : ((Rows.primKindsUptoRow.recurses == Tryz.prog.recurses 8) : Bool) = true := by kernel_rfl
theorem primKindsUpto_fact12 : ((Rows.primKindsUptoRow.named == Tryz.prog.varsNamed 8) : Bool) = true := by kernel_rfl
theorem primKindsUpto_fact13 : ((Rows.primKindsUptoRow.maps == (Tryz.f8.params.toList ++ Rows.primKindsSpec.plain.varTypes Tryz.prog).any (Tryz.prog.mapsRec ·)) : Bool) = true := by kernel_rfl
theorem primKindsUpto_fact14 : ((Rows.primKindsUptoRow.ifaces == (Tryz.f8.params.toList ++ Rows.primKindsSpec.plain.varTypes Tryz.prog).any (Tryz.prog.ifacesRec ·)) : Bool) = true := by kernel_rfl
theorem primKindsUpto_fact15 : ((Rows.primKindsUptoRow.mapsOut == Tryz.prog.mapsAmong Tryz.f8.resultTypes.toList) : Bool) = true := by kernel_rfl
theorem primKindsUpto_fact16 : ((Rows.primKindsUptoRow.loops == (Tryz.f8.params.toList ++ Rows.primKindsSpec.plain.varTypes Tryz.prog).any (Tryz.prog.loopsFrom ·)) : Bool) = true := by kernel_rfl
theorem primKindsUpto_fact17 : ((Rows.primKindsUptoRow.wideKeys == (Tryz.f8.params.toList ++ Rows.primKindsSpec.plain.varTypes Tryz.prog ++ Tryz.f8.resultTypes.toList).any (Tryz.prog.wideKeysFrom ·)) : Bool) = true := by kernel_rfl
theorem primKindsUpto_fact18 : (Rows.primKindsSpec.vars.all (Tryz.prog.varReadable ·) : Bool) = true := by kernel_rfl
theorem primKindsUpto_fact19 : (Tryz.f8.resultTypes.all (fun t => Tryz.prog.readableRec t && decide (t < Tryz.prog.types.size)) : Bool) = true := by kernel_rfl
theorem primKindsUpto_fact20 : ((Rows.primKindsUptoRow.ifacesOut == Tryz.f8.resultTypes.toList.any (Tryz.prog.ifacesRec ·)) : Bool) = true := by kernel_rfl
theorem primKindsUpto_fact21 : ((Rows.primKindsUptoRow.loopsOut == Tryz.f8.resultTypes.toList.any (Tryz.prog.loopsFrom ·)) : Bool) = true := by kernel_rfl
theorem primKindsUpto_fact22 : ((Rows.primKindsUptoRow.plainKeys == Tryz.prog.plainKeys) : Bool) = true := by kernel_rfl
theorem primKindsUpto_fact23 : (Rows.primKindsUptoRow.shortTexts.isNone : Bool) = true := by kernel_rfl
theorem primKindsUpto_fact24 : (Tryz.prog.stopsHeard : Bool) = true := by kernel_rfl
theorem primKindsUpto_fact25 : (Tryz.prog.mayEnter : Bool) = true := by kernel_rfl
theorem primKindsUpto_fact26 : ((Rows.primKindsUptoRow.lifted == Tryz.prog.liftsFinal) : Bool) = true := by kernel_rfl
theorem primKindsUpto_fact27 : ((Tryz.prog.make == some Rows.primKindsUptoRow.make) : Bool) = true := by kernel_rfl
theorem primKindsUpto_fact28 : ((Rows.primKindsUptoRow.kinds == (if Rows.primKindsUptoRow.domain.isEmpty then [] else Tryz.f8.params.toList.map fun t => match Tryz.prog.underlying t with | some (.int k) => some k | _ => none)) : Bool) = true := by kernel_rfl
theorem primKindsUpto_fact29 : ((Rows.primKindsUptoRow.pinned == Rows.primKindsUptoRow.pinnedBy) : Bool) = true := by kernel_rfl
theorem primKindsUpto_fact30 : ((Rows.primKindsUptoRow.veiled == (Tryz.f8.params.toList ++ Rows.primKindsSpec.plain.varTypes Tryz.prog ++ Tryz.f8.resultTypes.toList).any (Tryz.prog.veiledRec ·)) : Bool) = true := by kernel_rfl
theorem primKindsUpto_fact31 : (Rows.primKindsUptoRow.veiledFits Tryz.prog Tryz.f8.params.toList (Tryz.f8.params.toList ++ Rows.primKindsSpec.plain.varTypes Tryz.prog ++ Tryz.f8.resultTypes.toList) : Bool) = true := by kernel_rfl
set_option maxRecDepth 100000 in
theorem primKindsUpto_facts : joinedFacts Tryz.pinned.checked.prog 8 Tryz.f8 Rows.primKindsSpec Rows.primKindsUptoRow = true := by
 unfold joinedFacts
 simp only [Bool.and_eq_true]
 exact ⟨⟨⟨⟨⟨⟨⟨⟨⟨⟨⟨⟨⟨⟨⟨⟨⟨⟨⟨⟨⟨⟨⟨⟨⟨⟨⟨⟨⟨⟨⟨primKindsUpto_fact0, primKindsUpto_fact1⟩, primKindsUpto_fact2⟩, primKindsUpto_fact3⟩, primKindsUpto_fact4⟩, primKindsUpto_fact5⟩, primKindsUpto_fact6⟩, primKindsUpto_fact7⟩, primKindsUpto_fact8⟩, primKindsUpto_fact9⟩, primKindsUpto_fact10⟩, primKindsUpto_fact11⟩, primKindsUpto_fact12⟩, primKindsUpto_fact13⟩, primKindsUpto_fact14⟩, primKindsUpto_fact15⟩, primKindsUpto_fact16⟩, primKindsUpto_fact17⟩, primKindsUpto_fact18⟩, primKindsUpto_fact19⟩, primKindsUpto_fact20⟩, primKindsUpto_fact21⟩, primKindsUpto_fact22⟩, primKindsUpto_fact23⟩, primKindsUpto_fact24⟩, primKindsUpto_fact25⟩, primKindsUpto_fact26⟩, primKindsUpto_fact27⟩, primKindsUpto_fact28⟩, primKindsUpto_fact29⟩, primKindsUpto_fact30⟩, primKindsUpto_fact31⟩
theorem primKinds_inst : Tryz.f8.isInstance Tryz.pinned.checked.prog Rows.primKindsUptoRow.origin Rows.primKindsUptoRow.targs := of_decide_eq_true (by kernel_rfl)
theorem primKinds_wrap : Tryz.f8.isWrapper Tryz.pinned.checked.prog Rows.primKindsUptoRow.wrapper Rows.primKindsUptoRow.mainSum := by
 unfold Func.isWrapper; first | (rw [if_pos (by decide +kernel)]; kernel_rfl) | (rw [if_neg (by decide +kernel)]; exact ⟨rfl, rfl⟩)
theorem primKinds_holds : Rows.PrimKindsUptoSaid :=
 OpenClaim.holds_of_cond 8 Tryz.f8 rfl rfl rfl rfl rfl rfl rfl ⟨rfl, rfl, rfl, rfl, rfl⟩ rfl rfl rfl rfl rfl primKinds_named' Tryz.func8 primKindsUpto_facts primKinds_inst primKinds_wrap
  (fun os started H enc _ F => by rw [OpenClaim.pre_eq_preRow]; exact primKinds_lifted os started H enc F)
/-- The tied card. -/
theorem primKinds_card : Rows.PrimKindsUptoCardSaid :=
 Claim7.holds_tied_plain_at .later [] [.data, .data, .data, .data, .listed, .data, .pinned] true (true, "ea4f6b5ab0f0a490235b1b4dfac6ff680351ac7800976076e1933e8a1c5a3a5d") true primKinds_holds (fun _ h => by cases h) (by kernel_rfl) (fun _ h => by cases h) primKindsUpto_row_tie rfl ⟨rfl, rfl⟩ (by kernel_rfl) rfl
  (fun f fn hf hfn => by
   obtain rfl : f = 8 := Option.some.inj ((show Tryz.prog.funcNamed Rows.primKindsUptoRow.func = some 8 by kernel_rfl).symm.trans hf) |>.symm
   obtain rfl : fn = Tryz.f8 := (Option.some.inj (Tryz.func8.symm.trans hfn)).symm
   exact ⟨by kernel_rfl, fun j t ht => by
    rw [Tryz.params8] at ht
    have hm : t ∈ [35] := by simpa using Array.mem_of_getElem? ht
    have hall : ([35] : List TypeId).all (fun t => !Tryz.prog.wantsStandIn t) = true := by kernel_rfl
    have h1 : Tryz.prog.wantsStandIn t = false := by simpa using List.all_eq_true.1 hall t hm
    exact h1⟩)
  (by kernel_rfl)

end Go.Proofs.YtilbjefgojocaaaGreatDoor
