/- The law PrimTexts returns true, and what was there stays. No condition beyond the statement's own. -/
import Derived.Test.YtilbjefgojocaaaGreatDoorProg
import Derived.Ground.NamesProg
import Derived.WalkKit
import Derived.WalkMore
import Derived.Below
import Derived.Shelf.Unicode.ValidAny
import Derived.Shelf.Unicode.DecodeAny
import Derived.Test.YtilbjefgojocaaaGreatDoorPvAuto
import Derived.Test.YtilbjefgojocaaaGreatDoorPvRead
import Derived.Test.YtilbjefgojocaaaGreatDoorPbBad
import Derived.Test.YtilbjefgojocaaaGreatDoorPbLay3
import Derived.Test.YtilbjefgojocaaaGreatDoorRows
import Derived.ProofKit
import Derived.Test.YtilbjefgojocaaaGreatDoorTie
import Derived.Test.YtilbjefgojocaaaGreatDoorCards
import Derived.OpenShut
import Derived.LaidMore
import Derived.Lay
import Derived.SevenTiedAt
import Derived.Stop.Joined
import Derived.Deep.DeepHandedRow
import Derived.JoinedCond
namespace Go.Proofs
open Go.Shelf
def Tryz.laysValid_ren : Go.Shelf.Ren := ⟨fun | 196 => 64 | 259 => 101 | n => n, fun | 9 => 9 | 4 => 4 | 3 => 3 | 5 => 5 | 12 => 12 | 119 => 154 | 0 => 0 | 46 => 107 | 139 => 160 | 138 => 159 | 53 => 165 | n => n, fun | 3 => 1 | 4 => 2 | n => n⟩
theorem Tryz.laysValid : Go.Proofs.Lays.n196 Tryz.prog Tryz.laysValid_ren := {
 mixed := by kernel_rfl
 f196 := Tryz.func64.trans (congrArg some (by kernel_rfl))
 f259 := Tryz.func101.trans (congrArg some (by kernel_rfl))
 t0 := Tryz.underlying0
 a0 := Tryz.isAgg0
 z0 := Tryz.sizeOf0
 v0 := Tryz.zeroValue0
 t3 := Tryz.underlying3
 a3 := Tryz.isAgg3
 z3 := Tryz.sizeOf3
 v3 := Tryz.zeroValue3
 t4 := Tryz.underlying4
 a4 := Tryz.isAgg4
 z4 := Tryz.sizeOf4
 v4 := Tryz.zeroValue4
 t5 := Tryz.underlying5
 a5 := Tryz.isAgg5
 z5 := Tryz.sizeOf5
 v5 := Tryz.zeroValue5
 t9 := Tryz.underlying9
 a9 := Tryz.isAgg9
 z9 := Tryz.sizeOf9
 v9 := Tryz.zeroValue9
 t12 := Tryz.underlying12
 a12 := Tryz.isAgg12
 z12 := Tryz.sizeOf12
 v12 := Tryz.zeroValue12
 t46 := Tryz.underlying107
 a46 := Tryz.isAgg107
 z46 := Tryz.sizeOf107
 v46 := Tryz.zeroValue107
 t53 := Tryz.underlying165
 a53 := Tryz.isAgg165
 z53 := Tryz.sizeOf165
 v53 := Tryz.zeroValue165
 t119 := Tryz.underlying154
 a119 := Tryz.isAgg154
 z119 := Tryz.sizeOf154
 t138 := Tryz.underlying159
 a138 := Tryz.isAgg159
 z138 := Tryz.sizeOf159
 v138 := Tryz.zeroValue159
 t139 := Tryz.underlying160
 a139 := Tryz.isAgg160
 z139 := Tryz.sizeOf160
 v139 := Tryz.zeroValue160
 g3 := by kernel_rfl
 g4 := by kernel_rfl }
def Tryz.laysDecode_ren : Go.Shelf.Ren := ⟨fun | 197 => 145 | 260 => 165 | n => n, fun | 9 => 9 | 21 => 21 | 3 => 3 | 4 => 4 | 5 => 5 | 105 => 208 | 119 => 154 | 0 => 0 | 46 => 107 | 139 => 160 | 138 => 159 | n => n, fun | 3 => 1 | 4 => 2 | n => n⟩
theorem Tryz.laysDecode : Go.Proofs.Lays.n197 Tryz.prog Tryz.laysDecode_ren := {
 mixed := by kernel_rfl
 f197 := Tryz.func145.trans (congrArg some (by kernel_rfl))
 f260 := Tryz.func165.trans (congrArg some (by kernel_rfl))
 t0 := Tryz.underlying0
 a0 := Tryz.isAgg0
 z0 := Tryz.sizeOf0
 v0 := Tryz.zeroValue0
 t3 := Tryz.underlying3
 a3 := Tryz.isAgg3
 z3 := Tryz.sizeOf3
 v3 := Tryz.zeroValue3
 t4 := Tryz.underlying4
 a4 := Tryz.isAgg4
 z4 := Tryz.sizeOf4
 v4 := Tryz.zeroValue4
 t5 := Tryz.underlying5
 a5 := Tryz.isAgg5
 z5 := Tryz.sizeOf5
 v5 := Tryz.zeroValue5
 t9 := Tryz.underlying9
 a9 := Tryz.isAgg9
 z9 := Tryz.sizeOf9
 v9 := Tryz.zeroValue9
 t21 := Tryz.underlying21
 a21 := Tryz.isAgg21
 z21 := Tryz.sizeOf21
 v21 := Tryz.zeroValue21
 t46 := Tryz.underlying107
 a46 := Tryz.isAgg107
 z46 := Tryz.sizeOf107
 v46 := Tryz.zeroValue107
 t105 := Tryz.underlying208
 a105 := Tryz.isAgg208
 z105 := Tryz.sizeOf208
 v105 := Tryz.zeroValue208
 t119 := Tryz.underlying154
 a119 := Tryz.isAgg154
 z119 := Tryz.sizeOf154
 t138 := Tryz.underlying159
 a138 := Tryz.isAgg159
 z138 := Tryz.sizeOf159
 v138 := Tryz.zeroValue159
 t139 := Tryz.underlying160
 a139 := Tryz.isAgg160
 z139 := Tryz.sizeOf160
 v139 := Tryz.zeroValue160
 g3 := by kernel_rfl
 g4 := by kernel_rfl }
end Go.Proofs
namespace Go.AM.PV
open Go Go.AM Go.AM.SX Go.Proofs
def firstCells : List Value := (List.range 256).map fun c => .int .u8 (Lib.firstT c)
def jC : List Value := ((List.range 16).map fun i => [Value.int .u8 (Lib.accLo i), Value.int .u8 (Lib.accHi i)]).flatten
def dz : GRow := { g := 1, cells := firstCells, elem := 0 }
def eA : GRow := { g := 2, cells := jC, elem := 0 }
def e9 (s : ByteArray) : Known := { f := 64, args := [.string s], looks := [dz, eA], v := .bool (Lib.validD s.data.toList), cnt := 0, objs := [] }
theorem rV (c : Nat) (h : c < 256) : firstCells[c]? = some (.int .u8 (Lib.firstT c)) := by
 unfold firstCells
 rw [List.getElem?_map, List.getElem?_range h]
 rfl
theorem rW : ∀ i, i < 16 -> jC[2 * i]? = some (.int .u8 (Lib.accLo i)) /\ jC[2 * i + 1]? = some (.int .u8 (Lib.accHi i))
 | 0, _ => ⟨rfl, rfl⟩
 | 1, _ => ⟨rfl, rfl⟩
 | 2, _ => ⟨rfl, rfl⟩
 | 3, _ => ⟨rfl, rfl⟩
 | 4, _ => ⟨rfl, rfl⟩
 | 5, _ => ⟨rfl, rfl⟩
 | 6, _ => ⟨rfl, rfl⟩
 | 7, _ => ⟨rfl, rfl⟩
 | 8, _ => ⟨rfl, rfl⟩
 | 9, _ => ⟨rfl, rfl⟩
 | 10, _ => ⟨rfl, rfl⟩
 | 11, _ => ⟨rfl, rfl⟩
 | 12, _ => ⟨rfl, rfl⟩
 | 13, _ => ⟨rfl, rfl⟩
 | 14, _ => ⟨rfl, rfl⟩
 | 15, _ => ⟨rfl, rfl⟩
 | n + 16, h => absurd h (by omega)
theorem EG (nm : Nm) (s : ByteArray) (hs : s.size <= 9223372036854775807) : KnownOk Tryz.prog nm (e9 s) where
 calls := by
  intro w hw
  obtain ⟨t1, z1, h1⟩ := hw dz (by simp [e9])
  obtain ⟨t2, z2, h2⟩ := hw eA (by simp [e9])
  have hT : Lib.Utf8Tabs (Tryz.laysValid_ren.g 3) (Tryz.laysValid_ren.g 4) w := by
   show Lib.Utf8Tabs 1 2 w
   refine ⟨fun c hc => ?_, fun i hi => ?_⟩
   ·show w.cell? ⟨1, c, none⟩ = _
    have h1 : w.heap[1]? = some (.cells firstCells.toArray t1 z1) := h1
    simp only [World.cell?, h1, List.getElem?_toArray]
    exact rV c hc
   ·have h2 : w.heap[2]? = some (.cells jC.toArray t2 z2) := h2
    simp only [World.cell?, h2, List.getElem?_toArray]
    exact rW i hi
  have hc : Calls Tryz.prog 64 #[.string s] w _ := Any.utf8_ValidString Tryz.laysValid s w hs hT
  refine hc.mono ?_
  rintro e w' ⟨he, hb⟩
  refine ⟨fun _ => none, .bool (Lib.validD s.data.toList), fun _ _ h => (by cases h), fun _ _ => rfl, fun _ h => (by cases h), fun _ _ _ _ h => (by cases h), hb.block, hb.size, ⟨hb.tape, hb.os, hb.output⟩, .bool _, he⟩
 shal := rfl
 shalR := rfl
 plain := rfl
def gq (s : ByteArray) : Known := { f := 145, args := [.string s], looks := [dz, eA], v := .tuple #[.int .i32 (Lib.decodeGo s).1, .int .i64 (Lib.decodeGo s).2], cnt := 0, objs := [] }
theorem EH {w : World} {t1 t2 : TypeId} {z1 z2 : Nat × Nat} (h1 : w.heap[1]? = some (.cells firstCells.toArray t1 z1)) (h2 : w.heap[2]? = some (.cells jC.toArray t2 z2)) : Lib.Utf8Tabs 1 2 w := by
 refine ⟨fun c hc => ?_, fun i hi => ?_⟩
 ·simp only [World.cell?, h1, List.getElem?_toArray]
  exact rV c hc
 ·simp only [World.cell?, h2, List.getElem?_toArray]
  exact rW i hi
theorem EI (nm : Nm) (s : ByteArray) : KnownOk Tryz.prog nm (gq s) where
 calls := by
  intro w hw
  obtain ⟨t1, z1, h1⟩ := hw dz (by simp [gq])
  obtain ⟨t2, z2, h2⟩ := hw eA (by simp [gq])
  have hT : Lib.Utf8Tabs (Tryz.laysDecode_ren.g 3) (Tryz.laysDecode_ren.g 4) w := EH h1 h2
  have hc : Calls Tryz.prog 145 #[.string s] w _ := Any.utf8_DecodeRuneInString Tryz.laysDecode s w hT
  refine hc.mono ?_
  rintro e w' ⟨he, hb⟩
  refine ⟨fun _ => none, .tuple #[.int .i32 (Lib.decodeGo s).1, .int .i64 (Lib.decodeGo s).2], fun _ _ h => (by cases h), fun _ _ => rfl, fun _ h => (by cases h), fun _ _ _ _ h => (by cases h), hb.block, hb.size, ⟨hb.tape, hb.os, hb.output⟩, ?_, he⟩
  exact .tuple' (.of rfl fun i hi => by
   match i, hi with
   | 0, _ => exact .int _ _
   | 1, _ => exact .int _ _)
 shal := rfl
 shalR := rfl
 plain := rfl
def xtU (f : FuncId) (vs : List Value) : Option Known := match f, vs with
 | 64, [.string s] => if s.size <= 9223372036854775807 then some (e9 s) else none
 | 145, [.string s] => some (gq s)
 | _, _ => none
theorem EJ (nm : Nm) : ∀ f vs k, xtU f vs = some k -> KnownOk Tryz.prog nm k /\ k.f = f /\ k.args = vs := by
 intro f vs k h
 unfold xtU at h
 split at h
 ·split at h
  ·rename_i hs
   cases h
   exact ⟨EG nm _ hs, rfl, rfl⟩
  ·cases h
 ·cases h
  exact ⟨EI nm _, rfl, rfl⟩
 ·cases h
theorem EL {E : Env} {gl : List GRow} {s : ByteArray} (hs : s.size <= 9223372036854775807) (hk : cS 64 [.string s] E.known = none) (hx : E.xf.any (Nat.beq 64) = true) (hxt : ∀ f vs k, xtU f vs = some k -> E.xt f vs = some k)
  (h1 : dz ∈ gl) (h2 : eA ∈ gl) (hn : 2 < E.ng) (μ : Mu) : PR E gl 64 [.c (.string s)] μ (.c (.bool (Lib.validD s.data.toList))) μ := by
 have hh : xtU 64 [.string s] = some (e9 s) := by
  show (if s.size <= 9223372036854775807 then some (e9 s) else none) = _
  rw [if_pos hs]
 refine PR.known (k := e9 s) (tS hk hx (hxt _ _ _ hh)) ?_ rfl μ
 intro r hr
 simp only [e9, List.mem_cons, List.not_mem_nil, or_false] at hr
 rcases hr with rfl | rfl
 ·exact ⟨h1, by show 1 < E.ng; omega⟩
 ·exact ⟨h2, hn⟩
theorem EM {E : Env} {gl : List GRow} {s : ByteArray} (hk : cS 145 [.string s] E.known = none) (hx : E.xf.any (Nat.beq 145) = true) (hxt : ∀ f vs k, xtU f vs = some k -> E.xt f vs = some k)
  (h1 : dz ∈ gl) (h2 : eA ∈ gl) (hn : 2 < E.ng) (μ : Mu) : PR E gl 145 [.c (.string s)] μ (.c (.tuple #[.int .i32 (Lib.decodeGo s).1, .int .i64 (Lib.decodeGo s).2])) μ := by
 refine PR.known (k := gq s) (tS hk hx (hxt _ _ _ rfl)) ?_ rfl μ
 intro r hr
 simp only [gq, List.mem_cons, List.not_mem_nil, or_false] at hr
 rcases hr with rfl | rfl
 ·exact ⟨h1, by show 1 < E.ng; omega⟩
 ·exact ⟨h2, hn⟩
end Go.AM.PV
namespace Go.AM.PV
open Go Go.AM Go.AM.SX
attribute [local irreducible] pz
section
variable {E : Env} {gl : List GRow} {cfg : Cfg} {fuel : Nat}
theorem EN (hE : SxEnv E) (h124 : aC E cfg fuel 124 1 = some t124) (h146 : aC E cfg fuel 146 1 = some t146) (h67 : aC E cfg fuel 67 2 = some t67) (h105 : aC E cfg fuel 105 2 = some t105) {s : ByteArray} (hlen : s.size <= 1048576)
  (h145 : PR E gl 145 [.c (.string s)] [] (.c (.tuple #[.int .i32 (Lib.decodeGo s).1, .int .i64 (Lib.decodeGo s).2])) []) :
  PR E gl 124 [St s] [] (.tup [.any, Bo (cJ (chrs s s.size 0)), .any]) [] := by
 have hp1 := s8 (gl := gl) hE h67 h105 s ⟨[45].toArray⟩
 have hp2 := s8 (gl := gl) hE h67 h105 s ⟨[226, 136, 146].toArray⟩
 cases h1 : cZ s ⟨[45].toArray⟩ with
 | true =>
  rw [h1] at hp1
  obtain ⟨e1, e2, e3⟩ := Ka h1
  rw [e1] at h145
  rw [<- e3]
  exact K5 hE h124 h146 hlen hp1 (r0 := (45 : Nat)) (k := 1) e2 h145
 | false =>
  rw [h1] at hp1
  cases h2 : cZ s ⟨[226, 136, 146].toArray⟩ with
  | true =>
   rw [h2] at hp2
   obtain ⟨e1, e2, e3⟩ := Kb h2
   rw [e1] at h145
   rw [<- e3]
   exact K6 hE h124 h146 hlen hp1 hp2 (r0 := (8722 : Nat)) (k := 3) e2 h145
  | false =>
   rw [h2] at hp2
   rw [<- Ke h1 h2]
   exact K4 hE h124 h146 hlen hp1 hp2
end
end Go.AM.PV
namespace Go.AM.PV
open Go Go.AM Go.AM.SX
attribute [local irreducible] pz aY
section
variable {E : Env} {gl : List GRow} {cfg : Cfg} {fuel : Nat}
theorem PR.pure {f : FuncId} {ws : List Value} {v : Value} (h : ∀ A : Go.AM.St, dJ E f ws A v A) (μ : Mu) : PR E gl f (ws.map .c) μ (.c v) μ := by
 intro A β S vs gs gm R
 have hv : vs = ws := by
  have h1 := R.vars.fz
  rw [List.map_map] at h1
  have : ∀ (ws vs : List Value), RepL β S A.h vs (ws.map (fz ∘ .c)) -> vs = ws := by
   intro ws
   induction ws with
   | nil => intro vs h; cases h; rfl
   | cons a ws ih =>
    intro vs h
    cases h with
    | cons v _ vs _ h1 h2 => cases h1; rw [ih vs h2]
  exact this ws vs h1
 subst hv
 refine ⟨v, A, β, S, [], gm, h A, ⟨⟨Nat.le_refl _, fun _ _ _ => rfl, fun _ _ _ => rfl⟩, fun _ _ => rfl, fun _ h => .inl h, fun _ h => h, fun _ h => .inl h, fun j hj => .inl (List.mem_append_right _ hj)⟩, ?_⟩
 exact R.setVars (RepO.one (Rep.toT (.c v))) ⟨gs, by simp⟩
def bx (l : List UInt8) (c : UInt8) : Int := match l.findIdx? (· == c) with
 | some i => (i : Int)
 | none => -1
theorem r9 (hE : SxEnv E) (h153 : aC E cfg fuel 153 2 = some t153) (s : ByteArray) (c : Int) (μ : Mu) : PR E gl 153 [St s, .c (.int .u8 c)] μ (I (bx s.data.toList c.toNat.toUInt8)) μ := by
 refine PR.pure (ws := [.string s, .int .u8 c]) (v := .int .i64 (bx s.data.toList c.toNat.toUInt8)) (fun A => ?_) μ
 obtain ⟨v, A', h1, h2⟩ := oK hE (vs := [.string s, .int .u8 c]) h153 (A := A) (Q := fun v B => v = .int .i64 (bx s.data.toList c.toNat.toUInt8) /\ B = A) (by
  unfold t153
  refine aO (v := .int .i64 (bx s.data.toList c.toNat.toUInt8)) (A' := A) rfl ?_
  refine cu ?_
  intro v hv
  have hv : [Value.int .i64 (bx s.data.toList c.toNat.toUInt8)] = [v] := hv
  cases hv
  exact ⟨rfl, rfl⟩)
 obtain ⟨rfl, rfl⟩ := h2
 exact h1
def fe (r : Int) : Bool := (decide (0 <= r) && decide (r < 55296)) || (decide (57343 < r) && decide (r <= 1114111))
theorem ER (hE : SxEnv E) (h191 : aC E cfg fuel 191 1 = some t191) (r : Int) : PR E gl 191 [R32 r] [] (Bo (fe r)) [] := by
 refine fnZ hE (cfg := cfg) (fuel := fuel) h191 (by kernel_rfl) ?_
 unfold t191
 repeat' (first | (refine aE 0 rfl (Nat.zero_le _) rfl rfl (And.intro ?_ rfl)) | refine bF rfl (fun h => ?_) (fun h => ?_) | refine aA ?_)
 all_goals first
  | (rw [show fe r = true by unfold fe; simp only [Bool.or_eq_true, Bool.and_eq_true, decide_eq_true_eq]; omega]; rfl)
  | (rw [show fe r = false by unfold fe; simp only [Bool.or_eq_false_iff, Bool.and_eq_false_iff, decide_eq_false_iff_not]; omega]; rfl)
def blk : List UInt8 := [9, 10, 13, 32, 194, 160, 227, 128, 128]
theorem mh {l : List UInt8} {c : UInt8} (h : c ∉ l) : bx l c = -1 := by
 unfold bx
 have : l.findIdx? (· == c) = none := by
  rw [List.findIdx?_eq_none_iff]
  intro x hx
  exact beq_eq_false_iff_ne.2 fun e => h (e ▸ hx)
 rw [this]
theorem eB {n : Nat} (h : n < 256) : (UInt8.ofNat n).toNat = n := by
 rw [UInt8.toNat_ofNat']; omega
theorem ES {r : Int} (h0 : 128 <= r) (h1 : r < 2048) : ∃ a b : UInt8, Utf8.encode r = ⟨[a, b].toArray⟩ /\ (a.toNat : Int) = 192 + r / 64 /\ (b.toNat : Int) = 128 + r % 64 := by
 obtain ⟨n, rfl⟩ : ∃ n : Nat, r = n := ⟨r.toNat, by omega⟩
 refine ⟨UInt8.ofNat (0xC0 + n / 64), UInt8.ofNat (0x80 + n % 64), ?_, ?_, ?_⟩
 ·have hv : Utf8.valid (n : Int) = true := by simp [Utf8.valid]; omega
  unfold Utf8.encode
  simp only [hv, if_true, Int.toNat_natCast]
  rw [if_neg (by omega), if_pos (by omega)]
 ·rw [eB (by omega)]; omega
 ·rw [eB (by omega)]; omega
theorem ET {r : Int} (h0 : 2048 <= r) (h1 : r < 65536) (hv : Utf8.valid r = true) : ∃ a b c : UInt8, Utf8.encode r = ⟨[a, b, c].toArray⟩ /\ (a.toNat : Int) = 224 + r / 4096 /\ (b.toNat : Int) = 128 + r / 64 % 64 /\ (c.toNat : Int) = 128 + r % 64 := by
 obtain ⟨n, rfl⟩ : ∃ n : Nat, r = n := ⟨r.toNat, by omega⟩
 refine ⟨UInt8.ofNat (0xE0 + n / 4096), UInt8.ofNat (0x80 + n / 64 % 64), UInt8.ofNat (0x80 + n % 64), ?_, ?_, ?_, ?_⟩
 ·unfold Utf8.encode
  simp only [hv, if_true, Int.toNat_natCast]
  rw [if_neg (by omega), if_neg (by omega), if_pos (by omega)]
 ·rw [eB (by omega)]; omega
 ·rw [eB (by omega)]; omega
 ·rw [eB (by omega)]; omega
theorem EU {r : Int} (h0 : 65536 <= r) (h1 : r <= 1114111) (hv : Utf8.valid r = true) : ∃ a b c e : UInt8, Utf8.encode r = ⟨[a, b, c, e].toArray⟩ /\ (a.toNat : Int) = 240 + r / 262144 /\ (b.toNat : Int) = 128 + r / 4096 % 64 /\ (c.toNat : Int) = 128 + r / 64 % 64 /\ (e.toNat : Int) = 128 + r % 64 := by
 obtain ⟨n, rfl⟩ : ∃ n : Nat, r = n := ⟨r.toNat, by omega⟩
 refine ⟨UInt8.ofNat (0xF0 + n / 262144), UInt8.ofNat (0x80 + n / 4096 % 64), UInt8.ofNat (0x80 + n / 64 % 64), UInt8.ofNat (0x80 + n % 64), ?_, ?_, ?_, ?_, ?_⟩
 ·unfold Utf8.encode
  simp only [hv, if_true, Int.toNat_natCast]
  rw [if_neg (by omega), if_neg (by omega), if_neg (by omega)]
 ·rw [eB (by omega)]; omega
 ·rw [eB (by omega)]; omega
 ·rw [eB (by omega)]; omega
 ·rw [eB (by omega)]; omega
section
variable {E : Env} {gl : List GRow} {cfg : Cfg} {fuel : Nat}
theorem EV (b : UInt8) : ((b.toNat : Int)).toNat.toUInt8 = b := by simp
theorem EW : ∀ n, n < 128 -> decide (bx blk (UInt8.ofNat n) >= 0) = cr n := by decide
theorem gr (hE : SxEnv E) (h153 : aC E cfg fuel 153 2 = some t153) (k : Nat) (x : UInt8) {v : Int} (h : bx (blk.drop k) x = v) : PR E gl 153 [.c (.string ((⟨blk.toArray⟩ : ByteArray).extract k (⟨blk.toArray⟩ : ByteArray).size)), .c (.int .u8 (x.toNat : Int))] [] (I v) [] := by
 have := r9 (gl := gl) hE h153 ((⟨blk.toArray⟩ : ByteArray).extract k (⟨blk.toArray⟩ : ByteArray).size) (x.toNat : Int) []
 rw [EV, sk] at this
 rwa [show ((⟨blk.toArray⟩ : ByteArray).data.toList.drop k) = blk.drop k from rfl, h] at this
set_option maxHeartbeats 4000000 in
theorem EX (hE : SxEnv E) (h157 : aC E cfg fuel 157 1 = some t157) (h153 : aC E cfg fuel 153 2 = some t153) (h191 : aC E cfg fuel 191 1 = some t191) (r : Int) (h0 : 0 <= r) (h1 : r <= 1114111) : PR E gl 157 [R32 r] [] (Bo (cr r)) [] := by
 refine fnZ hE (cfg := cfg) (fuel := fuel) h157 (by kernel_rfl) ?_
 unfold t157
 by_cases hlow : r < 128
 ·obtain ⟨n, rfl⟩ : ∃ n : Nat, r = n := ⟨r.toNat, by omega⟩
  have hq := r9 (gl := gl) hE h153
  refine aA ?_
  refine aE 0 rfl (Nat.zero_le _) rfl rfl (And.intro ?_ rfl)
  have hn : n < 128 := by omega
  have e1 : aT .u8 (n : Int) = n := by
   unfold aT
   rw [if_pos ⟨by simp only [lo]; omega, by simp only [hi]; omega⟩]
  have e2 : ((n : Int)).toNat.toUInt8 = UInt8.ofNat n := rfl
  try dsimp only [go_sem]
  rw [e1, e2, <- EW n hn]
  rfl
 by_cases hbad : r = 65533
 ·refine aA ?_
  refine gY rfl ?_
  dsimp only [go_sem]
  refine ah (fun κ vs ν => vs = [I 0] /\ ∃ pos : Nat, κ = 9 - pos /\ ν = [.sit ⟨blk.toArray⟩ pos] /\ (pos = 0 \/ pos = 1 \/ pos = 2 \/ pos = 3 \/ pos = 4 \/ pos = 6 \/ pos = 9)) rfl 9 _ (LeL.refl _) ⟨rfl, 0, rfl, rfl, .inl rfl⟩ ?_
  rintro κ vs ν ⟨rfl, pos, rfl, rfl, hpos⟩
  try dsimp only [go_sem]
  refine gZ (i := 0) (s := ⟨blk.toArray⟩) (pos := pos) rfl rfl (fun hlt => ?_) (fun hge => ?_)
  ·have hsz : (⟨blk.toArray⟩ : ByteArray).size = 9 := rfl
   rw [hsz] at hlt
   obtain ⟨x, w, hd, hx, hw, hw2⟩ : ∃ x w, Utf8.decode ⟨blk.toArray⟩ pos = (x, w) /\ x ≠ 65533 /\ 1 <= w /\ (pos + w = 0 \/ pos + w = 1 \/ pos + w = 2 \/ pos + w = 3 \/ pos + w = 4 \/ pos + w = 6 \/ pos + w = 9) := by
    rcases hpos with rfl | rfl | rfl | rfl | rfl | rfl | rfl
    ·exact ⟨9, 1, by decide, by decide, by decide, by decide⟩
    ·exact ⟨10, 1, by decide, by decide, by decide, by decide⟩
    ·exact ⟨13, 1, by decide, by decide, by decide, by decide⟩
    ·exact ⟨32, 1, by decide, by decide, by decide, by decide⟩
    ·exact ⟨160, 2, by decide, by decide, by decide, by decide⟩
    ·exact ⟨12288, 3, by decide, by decide, by decide, by decide⟩
    ·omega
   rw [hd]
   dsimp only [go_sem]
   refine aA ?_
   refine aF rfl ?_
   exact ⟨9 - (pos + w), by omega, rfl, pos + w, rfl, rfl, hw2⟩
  ·refine aA ?_
   refine aF rfl ?_
   dsimp only [go_sem]
   refine aA ?_
   refine aE 0 rfl (Nat.zero_le _) rfl rfl (And.intro ?_ rfl)
   rw [hbad]
   rfl
 have hne : cr r = (decide (r = 160) || decide (r = 12288)) := by
  unfold cr
  rw [beq_eq_false_iff_ne.2 (by omega : r ≠ 9), beq_eq_false_iff_ne.2 (by omega : r ≠ 10), beq_eq_false_iff_ne.2 (by omega : r ≠ 13), beq_eq_false_iff_ne.2 (by omega : r ≠ 32)]
  rfl
 have hp := ER (gl := gl) hE h191 r
 cases hv : fe r with
 | false =>
  rw [hv] at hp
  refine aA ?_
  refine aE 0 rfl (Nat.zero_le _) rfl rfl (And.intro ?_ rfl)
  have h160 : r ≠ 160 := fun e => by rw [e] at hv; revert hv; decide
  have h288 : r ≠ 12288 := fun e => by rw [e] at hv; revert hv; decide
  rw [hne, decide_eq_false h160, decide_eq_false h288]
  rfl
 | true =>
  rw [hv] at hp
  have hvu : Utf8.valid r = true := by
   unfold fe at hv
   unfold Utf8.valid
   simp only [Bool.or_eq_true, Bool.and_eq_true, decide_eq_true_eq] at hv ⊢
   omega
  refine aA ?_
  by_cases hs2 : r < 2048
  ·obtain ⟨a, b, he, ha, hb⟩ := ES (by omega) hs2
   rw [he]
   rw [show (ByteArray.size ⟨[a, b].toArray⟩) = 2 from rfl, show aT .i64 (((2 : Nat) : Int) - 1) = 1 from rfl]
   have hsz : ByteArray.size ⟨[a, b].toArray⟩ = 2 := rfl
   have hsz2 : ([a, b].toArray).size = 2 := rfl
   have qa := fun v (h : bx (blk.drop 2) b = v) => gr (gl := gl) hE h153 2 b h
   have qb := fun v (h : bx (blk.drop 7) b = v) => gr (gl := gl) hE h153 7 b h
   by_cases hx : b = 160
   ·subst hx
    have hb : (160 : Int) = 128 + r % 64 := hb
    have ha1 := qa 3 (by decide)
    try have hb1 := qb (-1) (by decide)
    clear qa qb
    repeat' (first | refine bS rfl (fun h => ?_) (fun h => ?_) | refine af ?_)
    all_goals refine ⟨?_, rfl⟩
    all_goals first
     | (rw [hne, decide_eq_false (by omega : ¬ r = 160), decide_eq_false (by omega : ¬ r = 12288)]; rfl)
     | (have hr : r = 160 := by omega
        rw [hr]; rfl)
     | (have hr : r = 12288 := by omega
        rw [hr]; rfl)
   by_cases hy : b = 128
   ·subst hy
    have hb : (128 : Int) = 128 + r % 64 := hb
    have ha1 := qa 5 (by decide)
    clear qa qb
    repeat' (first | refine bS rfl (fun h => ?_) (fun h => ?_) | refine af ?_)
    all_goals refine ⟨?_, rfl⟩
    all_goals first
     | (rw [hne, decide_eq_false (by omega : ¬ r = 160), decide_eq_false (by omega : ¬ r = 12288)]; rfl)
     | (have hr : r = 160 := by omega
        rw [hr]; rfl)
     | (have hr : r = 12288 := by omega
        rw [hr]; rfl)
   have hx' : ¬ (b.toNat = 160) := fun e => hx (UInt8.toNat_inj.1 (e.trans rfl))
   have hy' : ¬ (b.toNat = 128) := fun e => hy (UInt8.toNat_inj.1 (e.trans rfl))
   have hno : b ∉ blk.drop 2 := by
    intro h
    have h : b ∈ blk := List.mem_of_mem_drop h
    simp only [blk, List.mem_cons, List.not_mem_nil, or_false] at h
    rcases h with h | h | h | h | h | h | h | h | h <;> (have := congrArg UInt8.toNat h; simp at this; omega)
   have ha1 := qa (-1) (mh hno)
   clear qa qb
   repeat' (first | refine bS rfl (fun h => ?_) (fun h => ?_) | refine af ?_)
   all_goals refine ⟨?_, rfl⟩
   all_goals first
    | (rw [hne, decide_eq_false (by omega : ¬ r = 160), decide_eq_false (by omega : ¬ r = 12288)]; rfl)
    | (have hr : r = 160 := by omega
       rw [hr]; rfl)
    | (have hr : r = 12288 := by omega
       rw [hr]; rfl)
  by_cases hs3 : r < 65536
  ·obtain ⟨a, b, c, he, ha, hb, hc⟩ := ET (by omega) hs3 hvu
   rw [he]
   rw [show (ByteArray.size ⟨[a, b, c].toArray⟩) = 3 from rfl, show aT .i64 (((3 : Nat) : Int) - 1) = 2 from rfl]
   have hsz : ByteArray.size ⟨[a, b, c].toArray⟩ = 3 := rfl
   have hsz2 : ([a, b, c].toArray).size = 3 := rfl
   have qa := fun v (h : bx (blk.drop 3) c = v) => gr (gl := gl) hE h153 3 c h
   have qb := fun v (h : bx (blk.drop 7) c = v) => gr (gl := gl) hE h153 7 c h
   by_cases hx : c = 160
   ·subst hx
    have hc : (160 : Int) = 128 + r % 64 := hc
    have ha1 := qa 2 (by decide)
    try have hb1 := qb (-1) (by decide)
    clear qa qb
    repeat' (first | refine bS rfl (fun h => ?_) (fun h => ?_) | refine af ?_)
    all_goals refine ⟨?_, rfl⟩
    all_goals first
     | (rw [hne, decide_eq_false (by omega : ¬ r = 160), decide_eq_false (by omega : ¬ r = 12288)]; rfl)
     | (have hr : r = 160 := by omega
        rw [hr]; rfl)
     | (have hr : r = 12288 := by omega
        rw [hr]; rfl)
   by_cases hy : c = 128
   ·subst hy
    have hc : (128 : Int) = 128 + r % 64 := hc
    have ha1 := qa 4 (by decide)
    clear qa qb
    repeat' (first | refine bS rfl (fun h => ?_) (fun h => ?_) | refine af ?_)
    all_goals refine ⟨?_, rfl⟩
    all_goals first
     | (rw [hne, decide_eq_false (by omega : ¬ r = 160), decide_eq_false (by omega : ¬ r = 12288)]; rfl)
     | (have hr : r = 160 := by omega
        rw [hr]; rfl)
     | (have hr : r = 12288 := by omega
        rw [hr]; rfl)
   have hx' : ¬ (c.toNat = 160) := fun e => hx (UInt8.toNat_inj.1 (e.trans rfl))
   have hy' : ¬ (c.toNat = 128) := fun e => hy (UInt8.toNat_inj.1 (e.trans rfl))
   have hno : c ∉ blk.drop 3 := by
    intro h
    have h : c ∈ blk := List.mem_of_mem_drop h
    simp only [blk, List.mem_cons, List.not_mem_nil, or_false] at h
    rcases h with h | h | h | h | h | h | h | h | h <;> (have := congrArg UInt8.toNat h; simp at this; omega)
   have ha1 := qa (-1) (mh hno)
   clear qa qb
   repeat' (first | refine bS rfl (fun h => ?_) (fun h => ?_) | refine af ?_)
   all_goals refine ⟨?_, rfl⟩
   all_goals first
    | (rw [hne, decide_eq_false (by omega : ¬ r = 160), decide_eq_false (by omega : ¬ r = 12288)]; rfl)
    | (have hr : r = 160 := by omega
       rw [hr]; rfl)
    | (have hr : r = 12288 := by omega
       rw [hr]; rfl)
  obtain ⟨a, b, c, g, he, ha, hb, hc, hg⟩ := EU (by omega) h1 hvu
  rw [he]
  rw [show (ByteArray.size ⟨[a, b, c, g].toArray⟩) = 4 from rfl, show aT .i64 (((4 : Nat) : Int) - 1) = 3 from rfl]
  have hsz : ByteArray.size ⟨[a, b, c, g].toArray⟩ = 4 := rfl
  have hsz2 : ([a, b, c, g].toArray).size = 4 := rfl
  have qa := fun v (h : bx (blk.drop 4) g = v) => gr (gl := gl) hE h153 4 g h
  have qb := fun v (h : bx (blk.drop 7) g = v) => gr (gl := gl) hE h153 7 g h
  by_cases hx : g = 160
  ·subst hx
   have hg : (160 : Int) = 128 + r % 64 := hg
   have ha1 := qa 1 (by decide)
   try have hb1 := qb (-1) (by decide)
   clear qa qb
   repeat' (first | refine bS rfl (fun h => ?_) (fun h => ?_) | refine af ?_)
   all_goals refine ⟨?_, rfl⟩
   all_goals first
    | (rw [hne, decide_eq_false (by omega : ¬ r = 160), decide_eq_false (by omega : ¬ r = 12288)]; rfl)
    | (have hr : r = 160 := by omega
       rw [hr]; rfl)
    | (have hr : r = 12288 := by omega
       rw [hr]; rfl)
  by_cases hy : g = 128
  ·subst hy
   have hg : (128 : Int) = 128 + r % 64 := hg
   have ha1 := qa 3 (by decide)
   try have hb1 := qb (-1) (by decide)
   clear qa qb
   repeat' (first | refine bS rfl (fun h => ?_) (fun h => ?_) | refine af ?_)
   all_goals refine ⟨?_, rfl⟩
   all_goals first
    | (rw [hne, decide_eq_false (by omega : ¬ r = 160), decide_eq_false (by omega : ¬ r = 12288)]; rfl)
    | (have hr : r = 160 := by omega
       rw [hr]; rfl)
    | (have hr : r = 12288 := by omega
       rw [hr]; rfl)
  have hx' : ¬ (g.toNat = 160) := fun e => hx (UInt8.toNat_inj.1 (e.trans rfl))
  have hy' : ¬ (g.toNat = 128) := fun e => hy (UInt8.toNat_inj.1 (e.trans rfl))
  have hno : g ∉ blk.drop 4 := by
   intro h
   have h : g ∈ blk := List.mem_of_mem_drop h
   simp only [blk, List.mem_cons, List.not_mem_nil, or_false] at h
   rcases h with h | h | h | h | h | h | h | h | h <;> (have := congrArg UInt8.toNat h; simp at this; omega)
  have ha1 := qa (-1) (mh hno)
  clear qa qb
  repeat' (first | refine bS rfl (fun h => ?_) (fun h => ?_) | refine af ?_)
  all_goals refine ⟨?_, rfl⟩
  all_goals first
   | (rw [hne, decide_eq_false (by omega : ¬ r = 160), decide_eq_false (by omega : ¬ r = 12288)]; rfl)
   | (have hr : r = 160 := by omega
      rw [hr]; rfl)
   | (have hr : r = 12288 := by omega
      rw [hr]; rfl)
end
end
end Go.AM.PV
namespace Go.AM.PV
open Go Go.AM Go.AM.SX
def nmR (s : ByteArray) : Bool := cI (chrs s s.size 0) s (cJ (chrs s s.size 0)) && !gz s
def vsR (s : ByteArray) : Bool := Lib.validD s.data.toList
attribute [local irreducible] pz aY
structure Nms (E : Env) (gl : List GRow) (inf : Nat -> TypeInfo) (c0 c1 : Cfg) (fuel : Nat) : Prop where
 hE : SxEnv E
 hx : (E.xf.any (Nat.beq 64) && E.xf.any (Nat.beq 145)) = true
 hxt : ∀ f vs k, xtU f vs = some k -> E.xt f vs = some k
 hk1 : ∀ s, cS 64 [.string s] E.known = none
 hk2 : ∀ s, cS 145 [.string s] E.known = none
 g1 : dz ∈ gl
 g2 : eA ∈ gl
 hn : 2 < E.ng
 i1 : (inf 151).size = 4
 i2 : (inf 151).bytes = 32
 h16 : aC E c0 fuel 16 1 = some t16
 h21 : aC E c0 fuel 21 1 = some t21
 h24 : aC E c0 fuel 24 1 = some t24
 h33 : aC E c0 fuel 33 3 = some t33
 h37 : aC E c0 fuel 37 2 = some t37
 h39 : aC E c0 fuel 39 3 = some t39
 h56 : aC E c0 fuel 56 1 = some t56
 h57 : aC E c0 fuel 57 1 = some t57
 h62 : aC E c0 fuel 62 2 = some t62
 h65 : aC E c0 fuel 65 3 = some t65
 h67 : aC E c0 fuel 67 2 = some t67
 h95 : aC E c0 fuel 95 1 = some (t95 inf)
 h96 : aC E c0 fuel 96 1 = some t96
 h97 : aC E c0 fuel 97 1 = some t97
 h102 : aC E c0 fuel 102 1 = some t102
 h105 : aC E c0 fuel 105 2 = some t105
 h124 : aC E c0 fuel 124 1 = some t124
 h128 : aC E c0 fuel 128 1 = some t128
 h130 : aC E c0 fuel 130 1 = some t130
 h133 : aC E c0 fuel 133 1 = some t133
 h134 : aC E c0 fuel 134 1 = some t134
 h146 : aC E c0 fuel 146 1 = some t146
 h148 : aC E c0 fuel 148 1 = some t148
 h153 : aC E c1 fuel 153 2 = some t153
 h157 : aC E c1 fuel 157 1 = some t157
 h191 : aC E c1 fuel 191 1 = some t191
theorem EY {E : Env} {gl : List GRow} {cfg : Cfg} {fuel : Nat} (hE : SxEnv E) (h21 : aC E cfg fuel 21 1 = some t21) (n : Int) : PR E gl 21 [I n] [] (Bo (decide (n >= -1152921504606846976) && decide (n <= 1152921504606846975))) [] := by
 refine fnZ hE (cfg := cfg) (fuel := fuel) h21 (by kernel_rfl) ?_
 unfold t21
 repeat' (first | (refine aE 0 rfl (Nat.zero_le _) rfl rfl (And.intro ?_ rfl)) | refine bF rfl (fun h => ?_) (fun h => ?_) | refine aA ?_)
 ·rw [decide_eq_true (show n >= -1152921504606846976 by omega)]; rfl
 ·rw [decide_eq_false (show ¬ n >= -1152921504606846976 by omega)]; rfl
variable {E : Env} {gl : List GRow} {inf : Nat -> TypeInfo} {c0 c1 : Cfg} {fuel : Nat}
theorem Nms.decode (H : Nms E gl inf c0 c1 fuel) (s : ByteArray) : PR E gl 145 [.c (.string s)] [] (.c (.tuple #[.int .i32 (Lib.decodeGo s).1, .int .i64 (Lib.decodeGo s).2])) [] :=
 EM (H.hk2 s) (by have h := H.hx; rw [Bool.and_eq_true] at h; exact h.2) H.hxt H.g1 H.g2 H.hn []
theorem Nms.n133 (H : Nms E gl inf c0 c1 fuel) {s : ByteArray} (hs : s.size <= 1048576) : PR E gl 133 [St s] [] (Bo (cI (chrs s s.size 0) s (cJ (chrs s s.size 0)))) [] :=
 I8 H.hE H.h133 hs (fun r h0 h1 => EX H.hE H.h157 H.h153 H.h191 r h0 h1) (EN H.hE H.h124 H.h146 H.h67 H.h105 hs (H.decode s))
theorem Nms.n102 (H : Nms E gl inf c0 c1 fuel) {s : ByteArray} (hs : s.size <= 1048576) : PR E gl 102 [St s] [] (Bo (nmR s)) [] :=
 I9 H.hE H.h102 (H.n133 hs) (I6 H.hE H.h134 H.h37 H.h62 s)
theorem Nms.valid (H : Nms E gl inf c0 c1 fuel) {s : ByteArray} (hs : s.size <= 1048576) : PR E gl 64 [St s] [] (Bo (vsR s)) [] :=
 EL (by omega) (H.hk1 s) (by have h := H.hx; rw [Bool.and_eq_true] at h; exact h.1) H.hxt H.g1 H.g2 H.hn []
theorem Nms.check (H : Nms E gl inf c0 c1 fuel) (v : Val) (hv : v.small 1048576) : PR E gl 24 [v.p] [] (I (v.chk vsR nmR)) [] :=
 CI vsR nmR H.hE H.h24 H.h39 H.h65 (fun _ h => H.valid (by omega)) (fun _ h => H.n102 h) v hv
end Go.AM.PV
namespace Go.AM.PV
open Go Go.AM Go.AM.SX
attribute [local irreducible] pz aY
structure Dos (E : Env) (gl : List GRow) (inf : Nat -> TypeInfo) (c0 c1 c2 : Cfg) (fuel : Nat) : Prop extends Nms E gl inf c0 c1 fuel where
 j1 : (inf 41).size = 1
 j2 : (inf 41).bytes = 16
 h13 : aC E c0 fuel 13 2 = some (t13 inf)
 h26 : aC E c0 fuel 26 2 = some t26
 h27 : aC E c2 fuel 27 1 = some (t27 inf)
 h28 : aC E c0 fuel 28 1 = some (t28 inf)
 h41 : aC E c0 fuel 41 2 = some t41
 h42 : aC E c0 fuel 42 1 = some t42
 h43 : aC E c0 fuel 43 2 = some t43
 h72 : aC E c0 fuel 72 1 = some t72
variable {E : Env} {gl : List GRow} {inf : Nat -> TypeInfo} {c0 c1 c2 : Cfg} {fuel : Nat}
theorem RA {ps : List P} {a : At} {p : P} (h : bI ps a = .lit [p]) : aj ps [.sl a 1] = some ([fz (.fx 1 1 [p])], ps) := by
 have h1 : ft ps (.sl a 1) = some (fz (.fx 1 1 [p]), ps) := by
  show (match bN ps (.sl a 1) with
   | some p => some (fz p, ps)
   | none => none) = _
  have h2 : bN ps (.sl a 1) = some (.fx 1 1 [p]) := by
   show (match bI ps a with
    | .lit l => if l.length = 1 * (if (1 : Nat) = 0 then 1 else l.length / 1) then some (P.fx (if (1 : Nat) = 0 then 1 else l.length / 1) 1 l) else none
    | _ => none) = _
   rw [h]
   simp
  rw [h2]
 unfold aj
 rw [h1]
 rfl
def Val.letter : Val -> Int
 | .nil => 111
 | .int _ => 110
 | .str _ => 115
 | .bool _ => 98
 | .list _ => 108
 | .quot _ => 113
 | .box _ => 111
theorem rf (H : Dos E gl inf c0 c1 c2 fuel) (v : Val) : PR E gl 42 [v.p] [] (.c (.int .u8 v.letter)) [] := by
 refine fnZ H.hE (cfg := c0) (fuel := fuel) H.h42 (by kernel_rfl) ?_
 unfold t42
 cases v <;> (refine aA ?_; exact aE 0 rfl (Nat.zero_le _) rfl rfl ⟨rfl, rfl⟩)
theorem cY (H : Dos E gl inf c0 c1 c2 fuel) (v : Val) : PR E gl 41 [.c (.int .u8 120), v.p] [] (Bo true) [] := by
 refine fnZ H.hE (cfg := c0) (fuel := fuel) H.h41 (by kernel_rfl) ?_
 unfold t41
 have h := rf H v
 cases v <;> (refine aA ?_; exact aE 0 rfl (Nat.zero_le _) rfl rfl ⟨rfl, rfl⟩)
theorem rb (H : Dos E gl inf c0 c1 c2 fuel) (b : Bool) : PR E gl 72 [Bo b] [] (.fx 1 1 [(Val.bool b).p]) [] := by
 refine fnZ H.hE (cfg := c0) (fuel := fuel) H.h72 (by kernel_rfl) ?_
 unfold t72
 refine aA ?_
 exact aE 0 (RA rfl) (Nat.zero_le _) rfl rfl ⟨rfl, rfl⟩
def rh : List (List UInt8 × (Val -> Bool)) :=
 [([105, 110, 116, 63], fun | .int _ => true | _ => false), ([115, 116, 114, 63], fun | .str _ => true | _ => false), ([98, 111, 111, 108, 63], fun | .bool _ => true | _ => false),
  ([108, 105, 115, 116, 63], fun | .list _ => true | _ => false), ([113, 117, 111, 116, 63], fun | .quot _ => true | _ => false), ([98, 111, 120, 63], fun | .box _ => true | _ => false)]
theorem sa (b : Bool) : (Val.bool b).chk vsR nmR = 0 := by cases b <;> rfl
end Go.AM.PV
namespace Go.AM.PV
open Go Go.AM Go.AM.SX
attribute [local irreducible] pz aY
variable {E : Env} {gl : List GRow} {inf : Nat -> TypeInfo} {c0 c1 c2 : Cfg} {fuel : Nat}
theorem mi {ps : List P} {a : At} {n : Nat} {l : List P} (h : bI ps a = .lit l) (hn : l.length = n) (h0 : 0 < n) : denF ps [.sl a n] = some [.fx 1 n l] := by
 have h2 : bN ps (.sl a n) = some (.fx 1 n l) := by
  show (match bI ps a with
   | .lit l => if l.length = n * (if n = 0 then 1 else l.length / n) then some (P.fx (if n = 0 then 1 else l.length / n) n l) else none
   | _ => none) = _
  rw [h]
  dsimp only
  have hd : (if n = 0 then 1 else l.length / n) = 1 := by rw [if_neg (by omega), hn, Nat.div_self h0]
  rw [hd, if_pos (by omega)]
 unfold denF
 rw [h2]
 rfl
end Go.AM.PV
namespace Go.AM.PV
open Go Go.AM Go.AM.SX
attribute [local irreducible] pz aY
structure Knd (E : Env) (gl : List GRow) (inf : Nat -> TypeInfo) (c0 c1 c2 : Cfg) (fuel : Nat) : Prop extends Dos E gl inf c0 c1 c2 fuel where
 conv : ConvT E inf c0 fuel
 h8 : aC E c0 fuel 8 1 = some t8
 h15 : aC E c0 fuel 15 2 = some t15
 h18 : aC E c0 fuel 18 2 = some t18
 h32 : aC E c0 fuel 32 2 = some t32
 awake : PR E gl 10 [] [] (.c (.bool true)) []
 want : ∀ w, w ∈ rh -> PR E gl 25 [.c (bs w.1)] [] (.c (.tuple #[bs [120], .bool true])) []
variable {E : Env} {gl : List GRow} {inf : Nat -> TypeInfo} {c0 c1 c2 : Cfg} {fuel : Nat}
theorem RD (H : Knd E gl inf c0 c1 c2 fuel) : PR E gl 15 [.sl 4 0 [], .c (.slice none 0 0)] [] (Bo true) [] := by
 refine fnZ H.hE (cfg := c0) (fuel := fuel) H.h15 (by kernel_rfl) ?_
 unfold t15
 repeat (first | refine af ?_ | refine aA ?_)
 exact ⟨rfl, rfl⟩
end Go.AM.PV
namespace Go.AM.PV
open Go Go.AM Go.AM.SX
attribute [local irreducible] pz aY
variable {E : Env} {gl : List GRow} {inf : Nat -> TypeInfo} {c0 c1 c2 : Cfg} {fuel : Nat}
theorem ed {ps : List P} {x : X} {a : At} {p : P} {n sz : Nat} {l : List P} (hx : bN ps x = some p) (h : bI ps a = .lit l) (hn : l.length = n * sz) (h0 : 0 < n) : denF ps [x, .sl a n] = some [fz p, .fx sz n l] := by
 have h2 : bN ps (.sl a n) = some (.fx sz n l) := by
  show (match bI ps a with
   | .lit l => if l.length = n * (if n = 0 then 1 else l.length / n) then some (P.fx (if n = 0 then 1 else l.length / n) n l) else none
   | _ => none) = _
  rw [h]
  dsimp only
  have hd : (if n = 0 then 1 else l.length / n) = sz := by rw [if_neg (by omega), hn, Nat.mul_div_cancel_left _ h0]
  rw [hd, if_pos hn]
 unfold denF
 rw [hx]
 unfold denF
 rw [h2]
 rfl
end Go.AM.PV
namespace Go.AM.PV
open Go Go.AM Go.AM.SX Go.Proofs
noncomputable def E1 : Env := { jc Tryz.prog with ng := 3, known := k10 :: (n7.map k25 ++ wds.map eG), xf := [64, 145], xt := xtU }
noncomputable def bH (e : Nat) : TypeInfo := match E1.inf e with
 | some i => i
 | none => default
def cf0 : Cfg := { inl := [], unr := [] }
def cf1 : Cfg := { inl := [168, 180, 190, 155], unr := [] }
def cf2 : Cfg := { inl := [46], unr := [] }
set_option maxRecDepth 1000000
set_option maxHeartbeats 0
theorem FQ : (bH 151).size = 4 := by kernel_rfl
theorem FR : (bH 151).bytes = 32 := by kernel_rfl
theorem rp : (bH 41).size = 1 := by kernel_rfl
theorem rq : (bH 41).bytes = 16 := by kernel_rfl
theorem FS : (bH 100).size = 1 := by kernel_rfl
theorem FT : (bH 100).bytes = 16 := by kernel_rfl
theorem FU : (bH 35).size = 4 := by kernel_rfl
theorem FV : (bH 35).bytes = 56 := by kernel_rfl
end Go.AM.PV
namespace Go.AM.PV
open Go Go.AM Go.AM.SX Go.Proofs
set_option maxRecDepth 1000000
theorem mq : Tryz.prog.funcs.all (fun g => !(g.name == "runtime.NumGoroutine")) = true := by kernel_rfl
theorem mw : Tryz.prog.follows .mixedOrders = true := by kernel_rfl
theorem my : Tryz.prog.funcs.all (fun g => !(eJ.contains g.name) || (Extern.allNextRows.lookup g.origin).isNone) = true := by kernel_rfl
section
variable (nm : Nm)
theorem ru : EnvOk E00 Tryz.prog nm := (oW Tryz.prog [] (fun _ h => by cases h) mq mw (oV _ my)).ng 0
theorem ok0 : EnvOk E0 Tryz.prog nm := (oW Tryz.prog [] (fun _ h => by cases h) mq mw (oV _ my)).ng 1
theorem ry : KnownOk Tryz.prog nm kF := iH (ok0 nm) (Nat.le_refl 1) Of
theorem okK : EnvOk EK Tryz.prog nm := (ok0 nm).knows _ fun k hk => by
 rcases List.mem_cons.1 hk with rfl | hk
 ·exact ry nm
 ·exact iH (ru nm) (Nat.zero_le _) fun f => List.all_eq_true.1 (tD f) k hk
theorem FW : EnvOk EKs Tryz.prog nm := (ok0 nm).knows _ fun k hk => by
 rcases List.mem_cons.1 hk with rfl | hk
 ·exact tE nm (by decide) (by decide)
 rcases List.mem_cons.1 hk with rfl | hk
 ·exact tE nm (by decide) (by decide)
 rcases List.mem_cons.1 hk with rfl | hk
 ·exact ry nm
 ·exact iH (ru nm) (Nat.zero_le _) fun f => List.all_eq_true.1 (tD f) k hk
theorem FX (f : Nat -> TypeId) : (wds.map eG).all (ez EKs f) = true := by
 unfold wds
 rw [List.map_append, List.map_append, List.all_append, List.all_append, Oi, Oj, Ok]
 rfl
theorem mz : ∀ k, k ∈ k10 :: (n7.map k25 ++ wds.map eG) -> KnownOk Tryz.prog nm k := by
 intro k hk
 rcases List.mem_cons.1 hk with rfl | hk
 ·exact iH (okK nm) (Nat.le_refl 1) Og
 rcases List.mem_append.1 hk with hk | hk
 rotate_left
 ·refine iH (FW nm) ?_ fun f => List.all_eq_true.1 (FX f) k hk
  obtain ⟨w, _, rfl⟩ := List.mem_map.1 hk
  exact Nat.le_refl 1
 ·refine iH (okK nm) ?_ fun f => List.all_eq_true.1 (Oh f) k hk
  obtain ⟨w, _, rfl⟩ := List.mem_map.1 hk
  exact Nat.le_refl 1
theorem ok1 : EnvOk E1 Tryz.prog nm := (((oW Tryz.prog [] (fun _ h => by cases h) mq mw (oV _ my)).ng 3).knows _ (mz nm)).xts [64, 145] xtU (EJ nm)
end
theorem hE1 : SxEnv E1 := SxEnv.of (ok1 .empty) rfl
def glK : List GRow := [asc, dz, eA]
theorem nA {f : FuncId} {vs : List Value} : ∀ {ks : List Known}, (ks.all fun k => !Nat.beq k.f f) = true -> cS f vs ks = none
 | [], _ => rfl
 | k :: ks, h => by
  simp only [List.all_cons, Bool.and_eq_true, Bool.not_eq_true'] at h
  show (if Nat.beq k.f f && gU k.args vs then some k else cS f vs ks) = none
  rw [h.1, Bool.false_and, if_neg (by simp)]
  exact nA h.2
end Go.AM.PV
namespace Go.Proofs.YtilbjefgojocaaaGreatDoor
open Go Go.AM Go.AM.SX Go.AM.PV
set_option maxRecDepth 1000000
section
variable {H : Type}
theorem va {t : TypeId} {x : TypeDesc} (h : Tryz.prog.underlying t = some x) (hx : ∀ fs, x ≠ .struct fs) : ∀ fs, Tryz.prog.underlying t ≠ some (.struct fs) := by
 intro fs e
 rw [h] at e
 exact hx fs (Option.some.inj e)
end
def tsV : List TypeId := [35, 2, 3, 4, 9, 22]
theorem F3 : jL Tryz.prog tsV = true := by kernel_rfl
def laidB : List (String × DataW Unit) := Rows.primKindsRow.laid
theorem F7 : (laidB.all fun x => x.2.handleName?.isNone) = true := by kernel_rfl
theorem F8 : Tryz.prog.globalNamed "strings.asciiSpace" = some 0 := by kernel_rfl
theorem F9 : Tryz.prog.globalNamed "unicode/utf8.first" = some 1 := by kernel_rfl
theorem Fa : Tryz.prog.globalNamed "unicode/utf8.acceptRanges" = some 2 := by kernel_rfl
theorem Fb : dx Tryz.prog 3 (((Tryz.prog.globals[0]?).map (·.type)).getD 0) (Rows.laid_strings_asciiSpace (H := Unit)) = some asc.cells := by kernel_rfl
theorem Fc : dx Tryz.prog 3 (((Tryz.prog.globals[1]?).map (·.type)).getD 0) Rows.laid_unicode_utf8_first = some dz.cells := by kernel_rfl
theorem Fe : dx Tryz.prog 3 (((Tryz.prog.globals[2]?).map (·.type)).getD 0) (Rows.laid_unicode_utf8_acceptRanges (H := Unit)) = some eA.cells := by kernel_rfl
theorem gT (g : Nat) (h : ((Tryz.prog.globals[g]?).map (·.type)).isSome = true) : (Tryz.prog.globals[g]?).map (·.type) = some (((Tryz.prog.globals[g]?).map (·.type)).getD 0) := by
 cases hh : (Tryz.prog.globals[g]?).map (·.type) with
 | none => rw [hh] at h; cases h
 | some x => rfl
theorem Ff {W : World} (h : laidMetH Tryz.prog laidB W) : ∀ r, r ∈ glK -> ∃ t fz, W.heap[r.g]? = some (.cells r.cells.toArray t fz) := by
 rw [MakeChecks.laidMetH_plain _ _ _ F7] at h
 intro r hr
 simp only [glK, List.mem_cons, List.not_mem_nil, or_false] at hr
 rcases hr with rfl | rfl | rfl
 ·exact mf h (x := "strings.asciiSpace") (by simp [laidB, Rows.primKindsRow]) F8 (gT 0 (by kernel_rfl)) Fb
 ·exact mf h (x := "unicode/utf8.first") (by simp [laidB, Rows.primKindsRow]) F9 (gT 1 (by kernel_rfl)) Fc
 ·exact mf h (x := "unicode/utf8.acceptRanges") (by simp [laidB, Rows.primKindsRow]) Fa (gT 2 (by kernel_rfl)) Fe
theorem Fg : laidOutB Tryz.prog = true := by kernel_rfl
theorem Fh : mapsRowed Tryz.prog = true := by kernel_rfl
theorem Fi : ((List.range Tryz.prog.types.size).all fun t => match Tryz.prog.underlying t with | some (.slice e) => decide (0 < Tryz.prog.cellsOf e) | _ => true) = true := by kernel_rfl
theorem Fj : ownKnob Tryz.prog.godebug = none := by kernel_rfl
end Go.Proofs.YtilbjefgojocaaaGreatDoor
namespace Go.AM.PV
open Go Go.AM Go.AM.SX
attribute [local irreducible] pz aY
variable {E : Env} {gl : List GRow} {inf : Nat -> TypeInfo} {c0 c1 c2 : Cfg} {fuel : Nat}
structure Cln (E : Env) (gl : List GRow) (inf : Nat -> TypeInfo) (c0 c1 c2 : Cfg) (fuel : Nat) : Prop extends Knd E gl inf c0 c1 c2 fuel where
 h47 : aC E c0 fuel 47 1 = some (t47 inf)
theorem kO {l : List Val} {i : Nat} {v : Val} (h : l[i]? = some v) : (Val.ps l)[i]? = some v.p := by
 rw [Val.ps_map, List.getElem?_map, h]; rfl
theorem Fk {l : List Itm} {i : Nat} {v : Itm} (h : l[i]? = some v) : (Itm.ps l)[i]? = some v.p := by
 rw [Itm.ps_map, List.getElem?_map, h]; rfl
theorem sB {l : List Val} {i : Nat} {v : Val} (h : l[i]? = some v) : Val.ps (l.take (i + 1)) = Val.ps (l.take i) ++ [v.p] := by
 rw [gy h, Val.ps_map, Val.ps_map, List.map_append]; rfl
theorem Fl {l : List Itm} {i : Nat} {v : Itm} (h : l[i]? = some v) : Itm.ps (l.take (i + 1)) = Itm.ps (l.take i) ++ [v.p] := by
 rw [gy h, Itm.ps_map, Itm.ps_map, List.map_append]; rfl
theorem Fm (H : Cln E gl inf c0 c1 c2 fuel) {l : List Val} (hlen : l.length <= 1048576) (h28 : ∀ v, v ∈ l -> PR E gl 28 [v.p] [] v.p []) : PR E gl 28 [(Val.list l).p] [] (Val.list l).p [] := by
 refine fnZ H.hE (cfg := c0) (fuel := fuel) H.h28 (by kernel_rfl) ?_
 unfold t28
 simp only [Val.p]
 refine aA ?_
 refine ah (fun κ vs ν => ν = [.cells [.sl 1 l.length (Val.ps l)]] /\ ∃ i : Nat, κ = l.length - i /\ i <= l.length /\ vs = [.ow dE 1 i (Val.ps (l.take i)), I i]) rfl l.length
  [.ow dE 1 0 [], I (0 : Nat)] (.cons _ _ _ _ (.nilow _ _) (.cons _ _ _ _ (.refl _) .nil)) ⟨rfl, 0, by omega, by omega, rfl⟩ ?_
 rintro κ vs ν ⟨rfl, i, rfl, hi, rfl⟩
 dsimp only [go_sem]
 refine aA ?_
 refine bF rfl (fun hlt => ?_) (fun hge => ?_)
 ·have hlt : i < l.length := by omega
  obtain ⟨v, hv⟩ : ∃ v, l[i]? = some v := ⟨l[i], List.getElem?_eq_getElem hlt⟩
  refine ax rfl hlt ?_
  dsimp only [go_sem]
  refine bG rfl (by rw [Nat.mul_one]; exact kO hv) ?_
  dsimp only [go_sem]
  refine aI (by show some [fz v.p] = some [v.p]; rw [bL]) ((h28 v (List.mem_of_getElem? hv)).frame (by simp only [okm.okL, dV, Bool.and_self]) _) (Nat.le_refl _) ?_
  dsimp only [go_sem]
  refine kI rfl (bL _) (iv _) (gi _) ?_
  dsimp only [go_sem]
  refine cW rfl rfl rfl H.j1 rfl rfl rfl rfl (by rw [H.j2]; omega) (by omega) ?_
  dsimp only [go_sem]
  repeat (refine aA ?_)
  refine aF rfl ?_
  dsimp only [go_sem]
  refine ⟨l.length - (i + 1), by omega, rfl, i + 1, rfl, by omega, ?_⟩
  rw [sB hv]
  rfl
 ·obtain rfl : i = l.length := by omega
  refine aF rfl ?_
  dsimp only [go_sem]
  refine aA ?_
  rw [List.take_length]
  refine aE 0 rfl (Nat.zero_le _) ?_ rfl ⟨rfl, rfl⟩
  show okm.okL 0 [(Val.list l).p] = true
  simp only [okm.okL, dV, Bool.and_self]
theorem jD (H : Cln E gl inf c0 c1 c2 fuel) {v : Val} (h1 : ∀ l, v ≠ .list l) (h2 : ∀ l, v ≠ .quot l) : PR E gl 28 [v.p] [] v.p [] := by
 refine fnZ H.hE (cfg := c0) (fuel := fuel) H.h28 (by kernel_rfl) ?_
 unfold t28
 cases v <;> first
  | exact (h1 _ rfl).elim
  | exact (h2 _ rfl).elim
  | (simp only [Val.p]; refine aA ?_; exact aE 0 rfl (Nat.zero_le _) rfl rfl ⟨rfl, rfl⟩)
theorem Fo (H : Cln E gl inf c0 c1 c2 fuel) {l : List Itm} (hlen : l.length <= 1048576) (h28 : ∀ v, Itm.push v ∈ l -> PR E gl 28 [v.p] [] v.p []) : PR E gl 47 [.sl 1 l.length (Itm.ps l)] [] (.ow dF 1 l.length (Itm.ps l)) [] := by
 refine fnZ H.hE (cfg := c0) (fuel := fuel) H.h47 (by kernel_rfl) ?_
 unfold t47
 refine aA ?_
 refine ah (fun κ vs ν => ν = [] /\ ∃ i : Nat, κ = l.length - i /\ i <= l.length /\ vs = [.ow dF 1 i (Itm.ps (l.take i)), I i]) rfl l.length
  [.ow dF 1 0 [], I (0 : Nat)] (.cons _ _ _ _ (.nilow _ _) (.cons _ _ _ _ (.refl _) .nil)) ⟨rfl, 0, by omega, by omega, rfl⟩ ?_
 rintro κ vs ν ⟨rfl, i, rfl, hi, rfl⟩
 dsimp only [go_sem]
 refine aA ?_
 refine bF rfl (fun hlt => ?_) (fun hge => ?_)
 ·have hlt : i < l.length := by omega
  obtain ⟨v, hv⟩ : ∃ v, l[i]? = some v := ⟨l[i], List.getElem?_eq_getElem hlt⟩
  have hs := Fl hv
  refine ax rfl hlt ?_
  dsimp only [go_sem]
  refine bG rfl (by rw [Nat.mul_one]; exact Fk hv) ?_
  dsimp only [go_sem]
  cases v with
  | nil =>
   simp only [Itm.p] at hs ⊢
   repeat (refine aA ?_)
   refine cW rfl rfl rfl H.conv.itm1 rfl rfl rfl rfl (by rw [H.conv.itm2]; omega) (by omega) ?_
   dsimp only [go_sem]
   repeat (refine aA ?_)
   refine aE 0 rfl (Nat.zero_le _) ?_ rfl ⟨l.length - (i + 1), by omega, rfl, i + 1, rfl, by omega, ?_⟩
   ·show okm.okL 0 [.ow dF 1 (i + 1) (Itm.ps (l.take i) ++ [_]), .c (.int .i64 ((i : Int) + 1))] = true
    rw [<- hs]
    simp only [okm.okL, okm, du, Bool.and_self]
   ·rw [hs]
    rfl
  | call s =>
   simp only [Itm.p] at hs ⊢
   repeat (refine aA ?_)
   refine cW rfl rfl rfl H.conv.itm1 rfl rfl rfl rfl (by rw [H.conv.itm2]; omega) (by omega) ?_
   dsimp only [go_sem]
   repeat (refine aA ?_)
   refine aE 0 rfl (Nat.zero_le _) ?_ rfl ⟨l.length - (i + 1), by omega, rfl, i + 1, rfl, by omega, ?_⟩
   ·show okm.okL 0 [.ow dF 1 (i + 1) (Itm.ps (l.take i) ++ [_]), .c (.int .i64 ((i : Int) + 1))] = true
    rw [<- hs]
    simp only [okm.okL, okm, du, Bool.and_self]
   ·rw [hs]
    rfl
  | push w =>
   simp only [Itm.p] at hs ⊢
   refine aA ?_
   refine kJ rfl rfl rfl (by show (cL w.p && true) = true; rw [gi]; rfl) (by decide) ?_
   dsimp only [go_sem]
   refine aA ?_
   refine aI (by show some [fz (fz w.p)] = some [w.p]; rw [bL, bL]) ((h28 w (List.mem_of_getElem? hv)).frame (by simp only [okm.okL, dV, Bool.and_self]) _) (Nat.le_refl _) ?_
   dsimp only [go_sem]
   refine qG rfl (bL _) (iv _) ?_
   dsimp only [go_sem]
   refine aA ?_
   refine cW rfl rfl rfl H.conv.itm1 rfl rfl rfl rfl (by rw [H.conv.itm2]; omega) (by omega) ?_
   dsimp only [go_sem]
   repeat (refine aA ?_)
   refine aE 0 rfl (Nat.zero_le _) ?_ rfl ⟨l.length - (i + 1), by omega, rfl, i + 1, rfl, by omega, ?_⟩
   ·show okm.okL 0 [.ow dF 1 (i + 1) (Itm.ps (l.take i) ++ [_]), .c (.int .i64 ((i : Int) + 1))] = true
    rw [<- hs]
    simp only [okm.okL, okm, du, Bool.and_self]
   ·rw [hs]
    rfl
 ·obtain rfl : i = l.length := by omega
  refine aF rfl ?_
  dsimp only [go_sem]
  refine aA ?_
  rw [List.take_length]
  exact aE 0 rfl (Nat.zero_le _) (by show okm.okL 0 [.ow dF 1 l.length (Itm.ps l)] = true; simp only [okm.okL, okm, du, Bool.and_self]) rfl ⟨rfl, rfl⟩
theorem Fp (H : Cln E gl inf c0 c1 c2 fuel) {l : List Itm} (hlen : l.length <= 1048576) (h28 : ∀ v, Itm.push v ∈ l -> PR E gl 28 [v.p] [] v.p []) : PR E gl 28 [(Val.quot l).p] [] (Val.quot l).p [] := by
 have h47 := (Fo H hlen h28).frame (by simp only [okm.okL, okm, du, Bool.and_self]) [.cells [.sl 1 l.length (Itm.ps l)]]
 refine fnZ H.hE (cfg := c0) (fuel := fuel) H.h28 (by kernel_rfl) ?_
 unfold t28
 simp only [Val.p]
 repeat (refine aA ?_)
 refine aE 0 rfl (Nat.zero_le _) ?_ rfl ⟨rfl, rfl⟩
 show okm.okL 0 [(Val.quot l).p] = true
 simp only [okm.okL, dV, Bool.and_self]
mutual
theorem sC (H : Cln E gl inf c0 c1 c2 fuel) : ∀ v : Val, v.small 1048576 -> PR E gl 28 [v.p] [] v.p []
 | .list l, h => by
  simp only [Val.small] at h
  exact Fm H h.1 (nC H l h.2)
 | .quot l, h => by
  simp only [Val.small] at h
  exact Fp H h.1 (sD H l h.2)
 | .nil, _ => jD H (fun _ e => by cases e) (fun _ e => by cases e)
 | .int _, _ => jD H (fun _ e => by cases e) (fun _ e => by cases e)
 | .str _, _ => jD H (fun _ e => by cases e) (fun _ e => by cases e)
 | .bool _, _ => jD H (fun _ e => by cases e) (fun _ e => by cases e)
 | .box _, _ => jD H (fun _ e => by cases e) (fun _ e => by cases e)
theorem nC (H : Cln E gl inf c0 c1 c2 fuel) : ∀ l : List Val, Val.smalls 1048576 l -> ∀ v, v ∈ l -> PR E gl 28 [v.p] [] v.p []
 | [], _, v, hm => by cases hm
 | w :: l, h, v, hm => by
  simp only [Val.smalls] at h
  have hw := sC H w h.1
  rcases List.mem_cons.1 hm with rfl | hm
  ·exact hw
  ·exact nC H l h.2 v hm
theorem Fq (H : Cln E gl inf c0 c1 c2 fuel) : ∀ v : Itm, v.small 1048576 -> ∀ w, v = .push w -> PR E gl 28 [w.p] [] w.p []
 | .push v, h, w, e => by
  simp only [Itm.small] at h
  cases e
  exact sC H v h
 | .nil, _, w, e => by cases e
 | .call _, _, w, e => by cases e
theorem sD (H : Cln E gl inf c0 c1 c2 fuel) : ∀ l : List Itm, Itm.smalls 1048576 l -> ∀ v, Itm.push v ∈ l -> PR E gl 28 [v.p] [] v.p []
 | [], _, v, hm => by cases hm
 | w :: l, h, v, hm => by
  simp only [Itm.smalls] at h
  have hw := Fq H w h.1
  rcases List.mem_cons.1 hm with e | hm
  ·exact hw v e.symm
  ·exact sD H l h.2 v hm
end
theorem Fs {E : Env} {gl : List GRow} {a b : N} {m : Nat} {rv : Rv} {d : Bool} {hs : List Nat} {ps : List P} {μ : Mu} {Q : aU} {x : X} {t : Bool} (h : denF ps [x] = some [.c (.bool ((t == t) != true))]) (hb : pz E gl b m rv d hs ps μ Q) : pz E gl (.br x a b) m rv d hs ps μ Q :=
 aG h (fun h => by cases t <;> cases h) fun _ => hb
theorem Ft {E : Env} {gl : List GRow} {a b : N} {m : Nat} {rv : Rv} {d : Bool} {hs : List Nat} {ps : List P} {μ : Mu} {Q : aU} {x : X} {s : ByteArray} (h : denF ps [x] = some [.c (.bool (!(s.data.toList == s.data.toList)))]) (hb : pz E gl b m rv d hs ps μ Q) : pz E gl (.br x a b) m rv d hs ps μ Q :=
 aG h (fun h => by simp at h) fun _ => hb
theorem sE (H : Cln E gl inf c0 c1 c2 fuel) {l : List V} (hlen : l.length <= 1048576) (h32 : ∀ v, v ∈ l -> PR E gl 32 [.agg v.p, .agg v.p] [] (Bo true) []) : PR E gl 15 [.sl 4 l.length (V.ps l), .sl 4 l.length (V.ps l)] [] (Bo true) [] := by
 refine fnZ H.hE (cfg := c0) (fuel := fuel) H.h15 (by kernel_rfl) ?_
 unfold t15
 refine aA ?_
 refine ah (fun κ vs ν => ν = [] /\ ∃ i : Nat, κ = l.length - i /\ i <= l.length /\ vs = [Bo false, I i]) rfl l.length _ (LeL.refl _) ⟨rfl, 0, by omega, by omega, rfl⟩ ?_
 rintro κ vs ν ⟨rfl, i, rfl, hi, rfl⟩
 dsimp only [go_sem]
 refine aA ?_
 refine bF rfl (fun hlt => ?_) (fun hge => ?_)
 ·have hlt : i < l.length := by omega
  obtain ⟨v, hv⟩ : ∃ v, l[i]? = some v := ⟨l[i], List.getElem?_eq_getElem hlt⟩
  have h1 := h32 v (List.mem_of_getElem? hv)
  have h2 := V.ps_at l i v hv
  refine aA ?_
  refine gg rfl (by rw [V.ps_length]; omega) ?_
  rw [h2]
  dsimp only [go_sem]
  refine ax rfl hlt ?_
  dsimp only [go_sem]
  refine gg rfl (by rw [V.ps_length]; omega) ?_
  rw [h2]
  dsimp only [go_sem]
  clear h32 h2 hv
  obtain ⟨k, n, s, m⟩ := v
  simp only [V.p] at h1 ⊢
  repeat (refine aA ?_)
  refine aF rfl ?_
  dsimp only [go_sem]
  exact ⟨l.length - (i + 1), by omega, rfl, i + 1, rfl, by omega, rfl⟩
 ·obtain rfl : i = l.length := by omega
  refine aF rfl ?_
  dsimp only [go_sem]
  repeat (refine aA ?_)
  exact aE 0 rfl (Nat.zero_le _) rfl rfl ⟨rfl, rfl⟩
theorem Fu (H : Cln E gl inf c0 c1 c2 fuel) {k n : Int} {s : ByteArray} {l : List V} (h15 : PR E gl 15 [.sl 4 l.length (V.ps l), .sl 4 l.length (V.ps l)] [] (Bo true) []) : PR E gl 32 [.agg (V.mk k n s l).p, .agg (V.mk k n s l).p] [] (Bo true) [] := by
 have h15 := h15.frame (by simp only [okm.okL, okm, dv, Bool.and_self]) [.cells (V.mk k n s l).p, .cells (V.mk k n s l).p]
 refine fnZ H.hE (cfg := c0) (fuel := fuel) H.h32 (by kernel_rfl) ?_
 unfold t32
 simp only [V.p] at h15 ⊢
 refine aA ?_
 repeat' (first | refine Fs rfl ?_ | refine Ft rfl ?_ | refine aA ?_ | refine bF rfl (fun h => ?_) (fun h => ?_))
 all_goals first
  | exact aE 0 rfl (Nat.zero_le _) rfl rfl ⟨rfl, rfl⟩
mutual
theorem Fv (H : Cln E gl inf c0 c1 c2 fuel) : ∀ v : V, v.small 1048576 -> PR E gl 32 [.agg v.p, .agg v.p] [] (Bo true) []
 | .mk k n s l, h => by
  simp only [V.small] at h
  exact Fu H (sE H h.1 (nD H l h.2.1))
theorem nD (H : Cln E gl inf c0 c1 c2 fuel) : ∀ l : List V, V.smalls 1048576 l -> ∀ v, v ∈ l -> PR E gl 32 [.agg v.p, .agg v.p] [] (Bo true) []
 | [], _, v, hm => by cases hm
 | w :: l, h, v, hm => by
  simp only [V.smalls] at h
  have hw := Fv H w h.1
  rcases List.mem_cons.1 hm with rfl | hm
  ·exact hw
  ·exact nD H l h.2 v hm
end
theorem Fw (H : Cln E gl inf c0 c1 c2 fuel) {l : List V} (hl : l.length <= 1048576) (h : V.smalls 1048576 l) : PR E gl 15 [.sl 4 l.length (V.ps l), .sl 4 l.length (V.ps l)] [] (Bo true) [] :=
 sE H hl (nD H l h)
end Go.AM.PV
namespace Go.AM.PV
open Go Go.AM Go.AM.SX
attribute [local irreducible] pz aY
variable {E : Env} {gl : List GRow} {inf : Nat -> TypeInfo} {c0 c1 c2 : Cfg} {fuel : Nat}
theorem kP {n : Nat} : ∀ {l : List Val}, Val.smalls n l -> ∀ v, v ∈ l -> v.small n
 | [], _, v, hm => by cases hm
 | w :: l, h, v, hm => by
  simp only [Val.smalls] at h
  rcases List.mem_cons.1 hm with rfl | hm
  ·exact h.1
  ·exact kP h.2 v hm
theorem sF (H : Cln E gl inf c0 c1 c2 fuel) {nmw : List UInt8} {l : List Val} (hl : l.length <= 1048576) (hs : Val.smalls 1048576 l) (hg : ∀ v, v ∈ l -> v.chk vsR nmR = 0) {Q : aU}
  (hk : pz E gl (sy inf) 0 none false [] [.c (bs nmw), .sl 1 l.length (Val.ps l), I l.length, I 2, .c (.slice none 0 0), I 0, I l.length] [] Q) :
  pz E gl (t13 inf) 0 none false [] [.c (bs nmw), .sl 1 l.length (Val.ps l)] [] Q := by
 unfold t13
 refine aA ?_
 refine ah (fun κ vs ν => ν = [] /\ ∃ i : Nat, κ = l.length - i /\ i <= l.length /\ vs = [.c (.slice none 0 0), I 0, I i]) rfl l.length _ (LeL.refl _) ⟨rfl, 0, by omega, by omega, rfl⟩ ?_
 rintro κ vs ν ⟨rfl, i, rfl, hi, rfl⟩
 dsimp only [go_sem]
 refine aA ?_
 refine bF rfl (fun hlt => ?_) (fun hge => ?_)
 ·have hlt : i < l.length := by omega
  obtain ⟨v, hv⟩ : ∃ v, l[i]? = some v := ⟨l[i], List.getElem?_eq_getElem hlt⟩
  have hm := List.mem_of_getElem? hv
  have hc := H.check v (kP hs v hm)
  rw [hg v hm] at hc
  refine ax rfl hlt ?_
  dsimp only [go_sem]
  refine bG rfl (by rw [Nat.mul_one]; exact kO hv) ?_
  dsimp only [go_sem]
  refine aI (by show some [fz v.p] = some [v.p]; rw [bL]) hc (Nat.le_refl _) ?_
  dsimp only [go_sem]
  repeat (refine aA ?_)
  refine aF rfl ?_
  dsimp only [go_sem]
  exact ⟨l.length - (i + 1), by omega, rfl, i + 1, rfl, by omega, rfl⟩
 ·obtain rfl : i = l.length := by omega
  refine aF rfl ?_
  dsimp only [go_sem]
  refine aA ?_
  exact hk
theorem sG {v : Val} (h : ¬ v.chk vsR nmR = 0) : v.chk vsR nmR = 1 := by
 unfold Val.chk at h ⊢
 split
 ·rename_i h1; rw [if_pos h1] at h; exact (h rfl).elim
 ·rfl
theorem Fx (H : Cln E gl inf c0 c1 c2 fuel) (nmw : List UInt8) {l : List Val} (hl : l.length <= 1048576) (hs : Val.smalls 1048576 l) {j : Nat} {u : Val} (hj : l[j]? = some u) (hu : ¬ u.chk vsR nmR = 0) (hb : ∀ (i : Nat) (v : Val), i < j -> l[i]? = some v -> v.chk vsR nmR = 0) :
  PR E gl 13 [.c (bs nmw), .sl 1 l.length (Val.ps l)] [] (.tup [.c (.slice none 0 0), I 1]) [] := by
 refine fnZ H.hE (cfg := c0) (fuel := fuel) H.h13 (by kernel_rfl) ?_
 unfold t13
 refine aA ?_
 refine ah (fun κ vs ν => ν = [] /\ ∃ i : Nat, κ = l.length - i /\ i <= j /\ vs = [.c (.slice none 0 0), I 0, I i]) rfl l.length _ (LeL.refl _) ⟨rfl, 0, by omega, by omega, rfl⟩ ?_
 rintro κ vs ν ⟨rfl, i, rfl, hi, rfl⟩
 dsimp only [go_sem]
 refine aA ?_
 refine bF rfl (fun hlt => ?_) (fun hge => ?_)
 ·have hlt : i < l.length := by omega
  obtain ⟨v, hv⟩ : ∃ v, l[i]? = some v := ⟨l[i], List.getElem?_eq_getElem hlt⟩
  have hm := List.mem_of_getElem? hv
  have hc := H.check v (kP hs v hm)
  refine ax rfl hlt ?_
  dsimp only [go_sem]
  refine bG rfl (by rw [Nat.mul_one]; exact kO hv) ?_
  dsimp only [go_sem]
  rcases Nat.lt_or_ge i j with hij | hij
  ·rw [hb i v hij hv] at hc
   refine aI (by show some [fz v.p] = some [v.p]; rw [bL]) hc (Nat.le_refl _) ?_
   dsimp only [go_sem]
   repeat (refine aA ?_)
   refine aF rfl ?_
   dsimp only [go_sem]
   exact ⟨l.length - (i + 1), by omega, rfl, i + 1, rfl, by omega, rfl⟩
  ·obtain rfl : i = j := by omega
   rw [hj] at hv
   cases hv
   rw [sG hu] at hc
   refine aI (by show some [fz u.p] = some [u.p]; rw [bL]) hc (Nat.le_refl _) ?_
   dsimp only [go_sem]
   repeat (refine aA ?_)
   refine aF rfl ?_
   dsimp only [go_sem]
   repeat (refine aA ?_)
   exact aE 0 rfl (Nat.zero_le _) rfl rfl ⟨rfl, rfl⟩
 ·have hjl : j < l.length := (List.getElem?_eq_some_iff.1 hj).1
  omega
theorem sH : ∀ {l : List Val}, (¬ ∀ v, v ∈ l -> v.chk vsR nmR = 0) -> ∃ (j : Nat) (u : Val), l[j]? = some u /\ ¬ u.chk vsR nmR = 0 /\ ∀ (i : Nat) (v : Val), i < j -> l[i]? = some v -> v.chk vsR nmR = 0
 | [], h => (h fun v hv => by cases hv).elim
 | w :: l, h => by
  by_cases hw : w.chk vsR nmR = 0
  ·obtain ⟨j, u, h1, h2, h3⟩ := sH (l := l) fun h2 => h fun v hv => by
    rcases List.mem_cons.1 hv with rfl | hv
    ·exact hw
    ·exact h2 v hv
   refine ⟨j + 1, u, by rw [List.getElem?_cons_succ]; exact h1, h2, fun i v hi hv => ?_⟩
   cases i with
   | zero => simp only [List.getElem?_cons_zero, Option.some.injEq] at hv; subst hv; exact hw
   | succ i => exact h3 i v (by omega) (by rw [List.getElem?_cons_succ] at hv; exact hv)
  ·exact ⟨0, w, rfl, hw, fun i v hi => absurd hi (by omega)⟩
theorem Fy (H : Cln E gl inf c0 c1 c2 fuel) (nmw : List UInt8) {l : List Val} (hl : l.length <= 1048576) (hs : Val.smalls 1048576 l) (hb : ¬ ∀ v, v ∈ l -> v.chk vsR nmR = 0) :
  PR E gl 13 [.c (bs nmw), .sl 1 l.length (Val.ps l)] [] (.tup [.c (.slice none 0 0), I 1]) [] := by
 obtain ⟨j, u, h1, h2, h3⟩ := sH hb
 exact Fx H nmw hl hs h1 h2 h3
theorem sI {l : List Val} {k : Nat} (hk : k <= l.length) : ((Val.ps l).drop ((l.length - k) * 1)).take ((l.length - (l.length - k)) * 1) = Val.ps (l.drop (l.length - k)) := by
 rw [Nat.mul_one, Nat.mul_one, Val.ps_map, <- List.map_drop, <- Val.ps_map]
 refine List.take_of_length_le ?_
 rw [Val.ps_map, List.length_map, List.length_drop]
 exact Nat.le_refl _
section
variable {k : N} {m : Nat} {rv : Rv} {d : Bool} {hs : List Nat} {ps : List P} {μ : Mu} {Q : aU} {xs : List X}
theorem sJ {sz n j n' : Nat} {i : Int} {l l' : List P} (h : denF ps xs = some [.sl sz n l, .c (.int .i64 i)]) (hj : i = (j : Nat)) (hi : j <= n) (hn : n - j = n') (hl : (l.drop (j * sz)).take ((n - j) * sz) = l') (hk : pz E gl k m rv d hs (ps ++ [.sl sz n' l']) μ Q) : pz E gl (.op (.subL sz true false false) xs k) m rv d hs ps μ Q := by
 subst hj hn hl
 exact mW h hi hk
theorem Fz {sz n j : Nat} {i : Int} {l l' : List P} (h : denF ps xs = some [.sl sz n l, .c (.int .i64 i)]) (hj : i = (j : Nat)) (hi : j <= n) (hl : l.take (j * sz) = l') (hk : pz E gl k m rv d hs (ps ++ [.sl sz j l']) μ Q) : pz E gl (.op (.subL sz false true false) xs k) m rv d hs ps μ Q := by
 subst hj hl
 exact wb h hi hk
end
theorem GA (l : List Val) (n : Nat) : (Val.ps l).take (n * 1) = Val.ps (l.take n) := by
 rw [Nat.mul_one, Val.ps_map, <- List.map_take, <- Val.ps_map]
theorem GC (l m : List Val) : Val.ps l ++ Val.ps m = Val.ps (l ++ m) := by
 rw [Val.ps_map, Val.ps_map, Val.ps_map, List.map_append]
theorem sK {n : Nat} : ∀ {l m : List Val}, Val.smalls n l -> Val.smalls n m -> Val.smalls n (l ++ m)
 | [], m, _, h => h
 | v :: l, m, h, k => by
  simp only [Val.smalls] at h
  simp only [List.cons_append, Val.smalls]
  exact ⟨h.1, sK h.2 k⟩
theorem vb {n : Nat} : ∀ {l : List Val}, (∀ v, v ∈ l -> v.small n) -> Val.smalls n l
 | [], _ => by simp only [Val.smalls]
 | v :: l, h => by
  simp only [Val.smalls]
  exact ⟨h v (by simp), vb fun w hw => h w (by simp [hw])⟩
set_option maxHeartbeats 4000000 in
theorem dX (H : Cln E gl inf c0 c1 c2 fuel) {nmw ks : List UInt8} {l : List Val} (hl : l.length <= 1048576) (hs : Val.smalls 1048576 l) (hg : ∀ v, v ∈ l -> v.chk vsR nmR = 0)
  (hwant : PR E gl 25 [.c (bs nmw)] [] (.c (.tuple #[bs ks, .bool true])) []) (hk : ks.toArray.size <= l.length) {q : P} {outs : List Val} (hq : q = .sl 1 outs.length (Val.ps outs) \/ q = .fx 1 outs.length (Val.ps outs))
  (ha : PR E gl 26 [.c (bs nmw), .sl 1 ks.toArray.size (Val.ps (l.drop (l.length - ks.toArray.size)))] [] (.tup [q, I 0]) [])
  (hol : outs.length <= 1048576) (hos : Val.smalls 1048576 outs) {L : List Val} (hL : L = l.take (l.length - ks.toArray.size) ++ outs) :
  PR E gl 13 [.c (bs nmw), .sl 1 l.length (Val.ps l)] [] (.tup [.sl 1 L.length (Val.ps L), I 0]) [] := by
 have hcl := nC H L (by rw [hL]; exact sK (vb fun v hv => kP hs v (List.mem_of_mem_take hv)) hos)
 have hn : l.length - ks.toArray.size + outs.length = L.length := by rw [hL, List.length_append, List.length_take]; omega
 have hLs : L.length <= 2097152 := by omega
 have hcat : PR E gl 27 [.fx 1 2 [.sl 1 (l.length - ks.toArray.size) (Val.ps (l.take (l.length - ks.toArray.size))), q]] [] (.ow 41 1 L.length (Val.ps L)) [] := by
  rw [<- hn, hL, <- GC]
  rcases hq with rfl | rfl
  ·exact tC (gl := gl) H.hE H.h27 H.j1 H.j2 (SlP.sl _ _) (SlP.sl _ _) (by omega) (by omega) []
  ·exact tC (gl := gl) H.hE H.h27 H.j1 H.j2 (SlP.sl _ _) (SlP.fx _ _) (by omega) (by omega) []
 clear hL hn
 refine fnZ H.hE (cfg := c0) (fuel := fuel) H.h13 (by kernel_rfl) ?_
 refine sF H hl hs hg ?_
 repeat (refine aA ?_)
 refine sJ (j := l.length - ks.toArray.size) (n' := ks.toArray.size) rfl (by omega) (by omega) (by omega) (sI hk) ?_
 dsimp only [go_sem]
 repeat (refine aA ?_)
 refine Fz (j := l.length - ks.toArray.size) rfl (by omega) (by omega) (GA l _) ?_
 dsimp only [go_sem]
 rcases hq with rfl | rfl
 all_goals
  repeat (refine aA ?_)
  refine aI (mi rfl rfl (by decide)) hcat (Nat.le_refl _) ?_
  dsimp only [go_sem]
  repeat (refine aA ?_)
 all_goals
  refine ah (fun κ vs ν => ν = [] /\ ∃ i : Nat, κ = L.length - i /\ i <= L.length /\ vs = [.ow dE 1 i (Val.ps (L.take i)), I i]) rfl L.length
   [.ow dE 1 0 [], I (0 : Nat)] (.cons _ _ _ _ (.nilow _ _) (.cons _ _ _ _ (.refl _) .nil)) ⟨rfl, 0, by omega, by omega, rfl⟩ ?_
  clear ha hcat hwant
  rintro κ vs ν ⟨rfl, i, rfl, hi, rfl⟩
  dsimp only [go_sem]
  refine aA ?_
  refine bF rfl (fun hlt => ?_) (fun hge => ?_)
  ·have hlt : i < L.length := by omega
   obtain ⟨v, hv⟩ : ∃ v, L[i]? = some v := ⟨L[i], List.getElem?_eq_getElem hlt⟩
   refine ax rfl hlt ?_
   dsimp only [go_sem]
   refine bG rfl (by rw [Nat.mul_one]; exact kO hv) ?_
   dsimp only [go_sem]
   refine aI (by show some [fz v.p] = some [v.p]; rw [bL]) (hcl v (List.mem_of_getElem? hv)) (Nat.le_refl _) ?_
   dsimp only [go_sem]
   refine kI rfl (bL _) (iv _) (gi _) ?_
   dsimp only [go_sem]
   refine cW rfl rfl rfl H.j1 rfl rfl rfl rfl (by rw [H.j2]; omega) (by omega) ?_
   dsimp only [go_sem]
   clear hcl
   repeat (refine aA ?_)
   refine aF rfl ?_
   dsimp only [go_sem]
   refine ⟨L.length - (i + 1), by omega, rfl, i + 1, rfl, by omega, ?_⟩
   rw [sB hv]
   rfl
  ·obtain rfl : i = L.length := by omega
   refine aF rfl ?_
   dsimp only [go_sem]
   refine aA ?_
   rw [List.take_length]
   refine aE 0 rfl (Nat.zero_le _) ?_ rfl ⟨rfl, rfl⟩
   show okm.okL 0 [.tup [.sl 1 L.length (Val.ps L), I 0]] = true
   simp only [okm.okL, okm, bw, Bool.and_self]
end Go.AM.PV
namespace Go.AM.PV
open Go Go.AM Go.AM.SX
def sL (T : N) (hs : List Nat) (ps : List P) : Option (N × P) := match T with
 | .self x k => match denF ps [x] with
  | some [p] => some (k, p)
  | _ => none
 | .chk i r xs x k => match denF ps [x] with
  | some [p] => if eD r then some (k, p) else match denF ps xs with
   | some as1 => if dZ r as1 then (match x, hs[i]? with
    | .at (.n j), some nv => if Nat.ble nv j then some (k, p) else none
    | _, _ => none) else some (k, p)
   | none => none
  | _ => none
 | _ => none
theorem bz {E : Env} {gl : List GRow} {T T' : N} {m : Nat} {rv : Rv} {d : Bool} {hs : List Nat} {ps : List P} {μ : Mu} {Q : aU} {p : P} (h : sL T hs ps = some (T', p)) (hp0 : shal 40 p = true) (hk : pz E gl T' m rv d hs ps μ Q) : pz E gl T m rv d hs ps μ Q := by
 unfold sL at h
 split at h
 ·split at h
  ·rename_i q hq
   cases h; exact ⟨⟨p, hq, hp0⟩, hk⟩
  ·cases h
 ·split at h
  ·rename_i q hq
   split at h
   ·rename_i hm; cases h; exact ⟨⟨⟨p, hq, hp0⟩, .inl hm⟩, hk⟩
   ·split at h
    ·rename_i as1 ha
     split at h
     ·split at h
      ·rename_i j nv hv
       split at h
       ·rename_i hb; cases h; exact ⟨⟨⟨p, hq, hp0⟩, .inr (.inr ⟨nv, j, hv, rfl, Nat.le_of_ble_eq_true hb⟩)⟩, hk⟩
       ·cases h
      ·cases h
     ·rename_i hl
      cases h
      exact ⟨⟨⟨p, hq, hp0⟩, .inr (.inl ⟨as1, ha, by simpa using hl⟩)⟩, hk⟩
    ·cases h
  ·cases h
 ·cases h
attribute [local irreducible] pz aY
variable {E : Env} {gl : List GRow} {inf : Nat -> TypeInfo} {c0 c1 c2 : Cfg} {fuel : Nat}
structure Wds (E : Env) (gl : List GRow) (inf : Nat -> TypeInfo) (c0 c1 c2 : Cfg) (fuel : Nat) : Prop extends Cln E gl inf c0 c1 c2 fuel where
 h44 : aC E c0 fuel 44 2 = some t44
 h45 : aC E c0 fuel 45 2 = some t45
 h73 : aC E c0 fuel 73 2 = some t73
 h17 : aC E c0 fuel 17 2 = some t17
end Go.AM.PV
namespace Go.AM.PV
open Go Go.AM Go.AM.SX
attribute [local irreducible] pz aY
variable {E : Env} {gl : List GRow} {inf : Nat -> TypeInfo} {c0 c1 c2 : Cfg} {fuel : Nat}
theorem GJ {E : Env} {gl : List GRow} {k : N} {m : Nat} {rv : Rv} {d : Bool} {hs : List Nat} {ps : List P} {μ : Mu} {Q : aU} {a : At} {n : Nat} {l : List P} {v : Value} (h : bI ps a = .lit l) (hn : l.length = n) (h0 : Nat.blt 0 n = true) (hk : pz E gl k m rv d hs (ps ++ [.tup [.fx 1 n l, .c v]]) μ Q) : pz E gl (.op .tup [.sl a n, .at (.v v)] k) m rv d hs ps μ Q := by
 have h1 := mi h hn (Nat.le_of_ble_eq_true h0)
 have h2 : denF ps [.sl a n, .at (.v v)] = some [.fx 1 n l, .c v] := by
  unfold denF at h1 ⊢
  cases hx : bN ps (.sl a n) with
  | none => rw [hx] at h1; cases h1
  | some p =>
   rw [hx] at h1
   have h3 : some [fz p] = some [.fx 1 n l] := h1
   have h4 : fz p = .fx 1 n l := by simpa using h3
   show some [fz p, fz (.c v)] = _
   rw [h4]
   rfl
 refine mU (ps' := ps ++ [.tup [.fx 1 n l, .c v]]) (μ' := μ) ?_ hk
 unfold stz
 rw [h2]
 rfl
end Go.AM.PV
namespace Go.AM.PV
open Go Go.AM Go.AM.SX
attribute [local irreducible] pz aY
section
variable {E : Env} {gl : List GRow} {cfg : Cfg} {fuel : Nat}
def cb (n : Int) : ByteArray := ⟨(Lib.itoa n).toArray⟩
theorem nn (n : Int) : (cb n).data.toList = Lib.itoa n := rfl
theorem sc (n : Int) : (cb n).size = (Lib.itoa n).length := by rw [Lib.size_eq, nn]
theorem RE {s : ByteArray} {c b : UInt8} {l m : List UInt8} (h : s.data.toList = c :: l) (hc : c ≠ b) : cZ s ⟨(b :: m).toArray⟩ = false := by
 rw [Bool.eq_false_iff]
 intro e
 have := (km s _).1 e
 rw [h] at this
 simp only [List.length_cons, List.take_succ_cons, List.cons.injEq] at this
 exact hc this.1
theorem RF (hE : SxEnv E) (h124 : aC E cfg fuel 124 1 = some t124) (h146 : aC E cfg fuel 146 1 = some t146) (h67 : aC E cfg fuel 67 2 = some t67) (h105 : aC E cfg fuel 105 2 = some t105) {n : Int} (h0 : -1152921504606846976 <= n) (h1 : n <= 1152921504606846975)
  (h145 : PR E gl 145 [.c (.string (cb n))] [] (.c (.tuple #[.int .i32 (Lib.decodeGo (cb n)).1, .int .i64 (Lib.decodeGo (cb n)).2])) []) :
  PR E gl 124 [St (cb n)] [] (.tup [I n, Bo true, Bo true]) [] := by
 have hp1 := s8 (gl := gl) hE h67 h105 (cb n) ⟨[45].toArray⟩
 have hp2 := s8 (gl := gl) hE h67 h105 (cb n) ⟨[226, 136, 146].toArray⟩
 have hlen : (cb n).size <= 1048576 := by
  rw [sc]
  have := Lib.itoa_length_le n (by omega) (by omega)
  omega
 by_cases hn : n < 0
 ·obtain ⟨e1, e2, e3⟩ := ra n.natAbs
  have hl : (cb n).data.toList = 45 :: Lib.decDigits n.natAbs := by rw [nn]; unfold Lib.itoa; rw [if_pos hn]
  have hp : cZ (cb n) ⟨[45].toArray⟩ = true := by rw [km, hl]; rfl
  rw [hp] at hp1
  have hx : ((cb n).extract 1 (cb n).size).data.toList = Lib.decDigits n.natAbs := by rw [sk, hl]; rfl
  obtain ⟨k1, k2, k3⟩ := Ka hp
  rw [k1] at h145
  have := Qf (gl := gl) hE h124 h146 (s := cb n) k2 (by rw [hx]; exact e2) (by rw [Lib.size_eq, hx]; exact List.length_pos_iff.2 e3) hlen (by rw [hx, e1]; omega) hp1 (r0 := (45 : Nat)) h145
  rw [hx, e1, show -((n.natAbs : Nat) : Int) = n by omega] at this
  exact this
 ·obtain ⟨e1, e2, e3⟩ := ra n.toNat
  have hl : (cb n).data.toList = Lib.decDigits n.toNat := by rw [nn]; unfold Lib.itoa; rw [if_neg hn]
  obtain ⟨c, t, hct⟩ := List.exists_cons_of_ne_nil e3
  have hc := e2 c (by rw [hct]; simp)
  rw [RE (hl.trans hct) (by intro e; rw [e] at hc; revert hc; decide)] at hp1 hp2
  have := Qe (gl := gl) hE h124 h146 (s := cb n) (by rw [hl]; exact e2) (by rw [Lib.size_eq, hl]; exact List.length_pos_iff.2 e3) hlen (by rw [hl, e1]; omega) hp1 hp2
  rw [hl, e1, show ((n.toNat : Nat) : Int) = n by omega] at this
  exact this
theorem RG (hE : SxEnv E) (h84 : aC E cfg fuel 84 1 = some t84) {n : Int} (hd : PR E gl 124 [St (cb n)] [] (.tup [I n, Bo true, Bo true]) []) : PR E gl 84 [St (cb n)] [] (.tup [I n, I 0]) [] := by
 refine fnZ hE (cfg := cfg) (fuel := fuel) h84 (by kernel_rfl) ?_
 unfold t84
 repeat (refine aA ?_)
 exact aE 0 rfl (Nat.zero_le _) rfl rfl ⟨rfl, rfl⟩
theorem RH (hE : SxEnv E) (h83 : aC E cfg fuel 83 1 = some t83) {n : Int} (hf : PR E gl 118 [I n, I 10] [] (St (cb n)) []) : PR E gl 83 [(Val.int n).p] [] (St (cb n)) [] := by
 refine fnZ hE (cfg := cfg) (fuel := fuel) h83 (by kernel_rfl) ?_
 unfold t83
 repeat (refine aA ?_)
 exact aE 0 rfl (Nat.zero_le _) rfl rfl ⟨rfl, rfl⟩
end
end Go.AM.PV
namespace Go.AM.PV
open Go Go.AM Go.AM.SX
attribute [local irreducible] pz aY
variable {E : Env} {gl : List GRow} {inf : Nat -> TypeInfo} {c0 c1 c2 : Cfg} {fuel : Nat}
structure Txs (E : Env) (gl : List GRow) (inf : Nat -> TypeInfo) (c0 c1 c2 : Cfg) (fuel : Nat) : Prop extends Wds E gl inf c0 c1 c2 fuel where
 h6 : aC E c0 fuel 6 3 = some t6
 h83 : aC E c0 fuel 83 1 = some t83
 h84 : aC E c0 fuel 84 1 = some t84
 itoa : ∀ n : Int, -1152921504606846976 <= n -> n <= 1152921504606846975 -> PR E gl 118 [I n, I 10] [] (St (cb n)) []
theorem RI {E : Env} {gl : List GRow} {k : N} {m : Nat} {rv : Rv} {d : Bool} {hs : List Nat} {ps : List P} {μ : Mu} {Q : aU} {a : At} {n : Nat} {l : List P} {y : X} {q : P} (h : bI ps a = .lit l) (hn : l.length = n) (h0 : Nat.blt 0 n = true) (hy : bN ps y = some q) (hk : pz E gl k m rv d hs (ps ++ [.tup [.fx 1 n l, fz q]]) μ Q) : pz E gl (.op .tup [.sl a n, y] k) m rv d hs ps μ Q := by
 have h1 := mi h hn (Nat.le_of_ble_eq_true h0)
 have h2 : denF ps [.sl a n, y] = some [.fx 1 n l, fz q] := by
  unfold denF at h1 ⊢
  cases hx : bN ps (.sl a n) with
  | none => rw [hx] at h1; cases h1
  | some p =>
   rw [hx] at h1
   have h3 : some [fz p] = some [.fx 1 n l] := h1
   have h4 : fz p = .fx 1 n l := by simpa using h3
   have h5 : denF ps [y] = some [fz q] := by
    unfold denF
    rw [hy]
    rfl
   rw [h5, <- h4]
 refine mU (ps' := ps ++ [.tup [.fx 1 n l, fz q]]) (μ' := μ) ?_ hk
 unfold stz
 rw [h2]
 rfl
theorem RJ (n : Int) : (Lib.itoa n).all (fun c => decide (c.toNat < 128)) = true := by
 rw [List.all_eq_true]
 intro c hc
 have hd : ∀ u : Nat, ∀ c, c ∈ Lib.decDigits u -> c.toNat < 128 := fun u c hc => by have := (ra u).2.1 c hc; omega
 unfold Lib.itoa at hc
 split at hc
 ·rcases List.mem_cons.1 hc with rfl | hc
  ·decide
  ·exact decide_eq_true (hd _ c hc)
 ·exact decide_eq_true (hd _ c hc)
theorem RK (n : Int) : vsR (cb n) = true := by
 unfold vsR
 rw [nn, Lib.validD_ascii (Lib.itoa n).length (Lib.itoa n) (fun b hb => of_decide_eq_true (List.all_eq_true.1 (RJ n) b (List.mem_of_mem_take hb))), List.drop_length]
 rfl
theorem sd {n : Int} (h0 : -1152921504606846976 <= n) (h1 : n <= 1152921504606846975) : (Val.str (cb n)).small 1048576 := by
 simp only [Val.small]
 rw [sc]
 have := Lib.itoa_length_le n (by omega) (by omega)
 omega
theorem vc {n : Int} (h0 : -1152921504606846976 <= n) (h1 : n <= 1152921504606846975) : (Val.str (cb n)).chk vsR nmR = 0 := by
 have hl := Lib.itoa_length_le n (by omega) (by omega)
 unfold Val.chk
 simp only [Val.meas, gate, RK]
 rw [decide_eq_true (show ((cb n).size : Int) <= 4096 by rw [sc]; omega)]
 rfl
theorem xa {n : Int} (h0 : -1152921504606846976 <= n) (h1 : n <= 1152921504606846975) : (Val.int n).chk vsR nmR = 0 := by
 unfold Val.chk
 simp only [Val.meas, gate]
 rw [decide_eq_true (show n >= -1152921504606846976 from h0), decide_eq_true h1]
 rfl
abbrev ea : List UInt8 := [62, 115, 116, 114]
abbrev ec : List UInt8 := [62, 105, 110, 116]
abbrev kb : List UInt8 := [97, 110, 100]
abbrev wOr : List UInt8 := [111, 114]
abbrev kc : List UInt8 := [110, 111, 116]
theorem RL (H : Wds E gl inf c0 c1 c2 fuel) (s : ByteArray) : PR E gl 41 [.c (.int .u8 115), (Val.str s).p] [] (Bo true) [] := by
 have h := rf H.toDos (.str s)
 simp only [Val.p, Val.letter] at h ⊢
 refine fnZ H.hE (cfg := c0) (fuel := fuel) H.h41 (by kernel_rfl) ?_
 unfold t41
 repeat (refine aA ?_)
 exact aF rfl ⟨rfl, rfl⟩
theorem l6 (H : Wds E gl inf c0 c1 c2 fuel) (b : Bool) : PR E gl 41 [.c (.int .u8 98), (Val.bool b).p] [] (Bo true) [] := by
 have h := rf H.toDos (.bool b)
 simp only [Val.p, Val.letter] at h ⊢
 refine fnZ H.hE (cfg := c0) (fuel := fuel) H.h41 (by kernel_rfl) ?_
 unfold t41
 repeat (refine aA ?_)
 exact aF rfl ⟨rfl, rfl⟩
theorem RM (H : Txs E gl inf c0 c1 c2 fuel) (a : Bool) (hwant : PR E gl 25 [.c (bs kc)] [] (.c (.tuple #[bs [98], .bool true])) []) :
  PR E gl 26 [.c (bs kc), .sl 1 1 (Val.ps [.bool a])] [] (.tup [.fx 1 1 (Val.ps [.bool !a]), I 0]) [] := by
 have fb := l6 H.toWds a
 have ck := H.check (.bool !a) trivial
 have hc : (Val.bool !a).chk vsR nmR = 0 := by cases a <;> rfl
 rw [hc] at ck
 have hf := rb H.toDos (!a)
 simp only [Val.ps, Val.p] at fb ck hf ⊢
 have hm : PR E gl 43 [.c (bs kc), .sl 1 1 [.ifc Bu (.agg [Bo a])]] [] (.c (.slice none 0 0)) [] := by
  refine fnZ H.hE (cfg := c0) (fuel := fuel) H.h43 (by kernel_rfl) ?_
  unfold t43
  repeat (refine aA ?_)
  exact aF rfl ⟨rfl, rfl⟩
 have hn : PR E gl 44 [.c (bs kc), .sl 1 1 [.ifc Bu (.agg [Bo a])]] [] (.tup [.fx 1 1 [.ifc Bu (.agg [Bo !a])], I 0]) [] := by
  refine fnZ H.hE (cfg := c0) (fuel := fuel) H.h44 (by kernel_rfl) ?_
  unfold t44
  repeat (refine aA ?_)
  exact aF rfl ⟨rfl, rfl⟩
 refine fnZ H.hE (cfg := c0) (fuel := fuel) H.h26 (by kernel_rfl) ?_
 unfold t26
 refine aA ?_
 rw [show aT .i64 (((#[(98 : UInt8)].size : Nat) : Int) - 1) = 0 from rfl]
 repeat (first | refine af ?_ | refine aA ?_ | refine bz rfl (by assumption) ?_ | refine gW rfl ?_ | refine gX rfl ?_)
 exact ⟨rfl, rfl⟩
theorem RN (H : Txs E gl inf c0 c1 c2 fuel) (a b : Bool) (hwant : PR E gl 25 [.c (bs kb)] [] (.c (.tuple #[bs [98, 98], .bool true])) []) :
  PR E gl 26 [.c (bs kb), .sl 1 2 (Val.ps [.bool a, .bool b])] [] (.tup [.fx 1 1 (Val.ps [.bool (a && b)]), I 0]) [] := by
 have fa := l6 H.toWds a
 have fb := l6 H.toWds b
 have ck := H.check (.bool (a && b)) trivial
 have hc : (Val.bool (a && b)).chk vsR nmR = 0 := by cases a <;> cases b <;> rfl
 rw [hc] at ck
 have hf := rb H.toDos (a && b)
 simp only [Val.ps, Val.p] at fa fb ck hf ⊢
 have hm : PR E gl 43 [.c (bs kb), .sl 1 2 [.ifc Bu (.agg [Bo a]), .ifc Bu (.agg [Bo b])]] [] (.c (.slice none 0 0)) [] := by
  refine fnZ H.hE (cfg := c0) (fuel := fuel) H.h43 (by kernel_rfl) ?_
  unfold t43
  repeat (refine aA ?_)
  exact aF rfl ⟨rfl, rfl⟩
 have hn : PR E gl 44 [.c (bs kb), .sl 1 2 [.ifc Bu (.agg [Bo a]), .ifc Bu (.agg [Bo b])]] [] (.tup [.fx 1 1 [.ifc Bu (.agg [Bo (a && b)])], I 0]) [] := by
  refine fnZ H.hE (cfg := c0) (fuel := fuel) H.h44 (by kernel_rfl) ?_
  unfold t44
  cases a <;>
  ·repeat (refine aA ?_)
   exact aF rfl ⟨rfl, rfl⟩
 generalize (a && b) = c at ck hf hn hc ⊢
 refine fnZ H.hE (cfg := c0) (fuel := fuel) H.h26 (by kernel_rfl) ?_
 unfold t26
 refine aA ?_
 rw [show aT .i64 (((#[(98 : UInt8), 98].size : Nat) : Int) - 1) = 1 from rfl]
 repeat (first | refine af ?_ | refine aA ?_ | refine bz rfl (by assumption) ?_ | refine gW rfl ?_ | refine gX rfl ?_)
 exact ⟨rfl, rfl⟩
theorem RO (H : Txs E gl inf c0 c1 c2 fuel) (a b : Bool) (hwant : PR E gl 25 [.c (bs wOr)] [] (.c (.tuple #[bs [98, 98], .bool true])) []) :
  PR E gl 26 [.c (bs wOr), .sl 1 2 (Val.ps [.bool a, .bool b])] [] (.tup [.fx 1 1 (Val.ps [.bool (a || b)]), I 0]) [] := by
 have fa := l6 H.toWds a
 have fb := l6 H.toWds b
 have ck := H.check (.bool (a || b)) trivial
 have hc : (Val.bool (a || b)).chk vsR nmR = 0 := by cases a <;> cases b <;> rfl
 rw [hc] at ck
 have hf := rb H.toDos (a || b)
 simp only [Val.ps, Val.p] at fa fb ck hf ⊢
 have hm : PR E gl 43 [.c (bs wOr), .sl 1 2 [.ifc Bu (.agg [Bo a]), .ifc Bu (.agg [Bo b])]] [] (.c (.slice none 0 0)) [] := by
  refine fnZ H.hE (cfg := c0) (fuel := fuel) H.h43 (by kernel_rfl) ?_
  unfold t43
  repeat (refine aA ?_)
  exact aF rfl ⟨rfl, rfl⟩
 have hn : PR E gl 44 [.c (bs wOr), .sl 1 2 [.ifc Bu (.agg [Bo a]), .ifc Bu (.agg [Bo b])]] [] (.tup [.fx 1 1 [.ifc Bu (.agg [Bo (a || b)])], I 0]) [] := by
  refine fnZ H.hE (cfg := c0) (fuel := fuel) H.h44 (by kernel_rfl) ?_
  unfold t44
  cases a <;>
  ·repeat (refine aA ?_)
   exact aF rfl ⟨rfl, rfl⟩
 generalize (a || b) = c at ck hf hn hc ⊢
 refine fnZ H.hE (cfg := c0) (fuel := fuel) H.h26 (by kernel_rfl) ?_
 unfold t26
 refine aA ?_
 rw [show aT .i64 (((#[(98 : UInt8), 98].size : Nat) : Int) - 1) = 1 from rfl]
 repeat (first | refine af ?_ | refine aA ?_ | refine bz rfl (by assumption) ?_ | refine gW rfl ?_ | refine gX rfl ?_)
 exact ⟨rfl, rfl⟩
theorem RP (H : Txs E gl inf c0 c1 c2 fuel) {n : Int} (h0 : -1152921504606846976 <= n) (h1 : n <= 1152921504606846975) (hwant : PR E gl 25 [.c (bs ea)] [] (.c (.tuple #[bs [120], .bool true])) []) :
  PR E gl 26 [.c (bs ea), .sl 1 1 (Val.ps [.int n])] [] (.tup [.fx 1 1 (Val.ps [.str (cb n)]), I 0]) [] := by
 have fa := cY H.toDos (.int n)
 have ck := H.check (.str (cb n)) (sd h0 h1)
 rw [vc h0 h1] at ck
 have ht := RH (gl := gl) H.hE H.h83 (H.itoa n h0 h1)
 simp only [Val.ps, Val.p] at fa ck ht ⊢
 have hm : PR E gl 43 [.c (bs ea), .sl 1 1 [.ifc Bs (.agg [I n])]] [] (.c (.slice none 0 0)) [] := by
  refine fnZ H.hE (cfg := c0) (fuel := fuel) H.h43 (by kernel_rfl) ?_
  unfold t43
  repeat (refine aA ?_)
  exact aF rfl ⟨rfl, rfl⟩
 have hn : PR E gl 44 [.c (bs ea), .sl 1 1 [.ifc Bs (.agg [I n])]] [] (.tup [.c (.slice none 0 0), I 0]) [] := by
  refine fnZ H.hE (cfg := c0) (fuel := fuel) H.h44 (by kernel_rfl) ?_
  unfold t44
  repeat (refine aA ?_)
  exact aF rfl ⟨rfl, rfl⟩
 have hr : PR E gl 45 [.c (bs ea), .sl 1 1 [.ifc Bs (.agg [I n])]] [] (.tup [.fx 1 1 [.ifc Bt (.agg [St (cb n)])], I 0]) [] := by
  refine fnZ H.hE (cfg := c0) (fuel := fuel) H.h45 (by kernel_rfl) ?_
  unfold t45
  repeat (refine aA ?_)
  refine GJ rfl rfl rfl ?_
  dsimp only [go_sem]
  exact aF rfl ⟨rfl, rfl⟩
 refine fnZ H.hE (cfg := c0) (fuel := fuel) H.h26 (by kernel_rfl) ?_
 unfold t26
 refine aA ?_
 rw [show aT .i64 (((#[(120 : UInt8)].size : Nat) : Int) - 1) = 0 from rfl]
 repeat (first | refine af ?_ | refine aA ?_ | refine bz rfl (by assumption) ?_ | refine gW rfl ?_ | refine gX rfl ?_)
 exact ⟨rfl, rfl⟩
theorem RQ (H : Txs E gl inf c0 c1 c2 fuel) {n : Int} (h0 : -1152921504606846976 <= n) (h1 : n <= 1152921504606846975) (hwant : PR E gl 25 [.c (bs ec)] [] (.c (.tuple #[bs [115], .bool true])) []) :
  PR E gl 26 [.c (bs ec), .sl 1 1 (Val.ps [.str (cb n)])] [] (.tup [.fx 1 1 (Val.ps [.int n]), I 0]) [] := by
 have fa := RL H.toWds (cb n)
 have ck := H.check (.int n) trivial
 rw [xa h0 h1] at ck
 have ht := RG (gl := gl) H.hE H.h84 (RF H.hE H.h124 H.h146 H.h67 H.h105 h0 h1 (H.toNms.decode _))
 simp only [Val.ps, Val.p] at fa ck ht ⊢
 have hm : PR E gl 43 [.c (bs ec), .sl 1 1 [.ifc Bt (.agg [St (cb n)])]] [] (.c (.slice none 0 0)) [] := by
  refine fnZ H.hE (cfg := c0) (fuel := fuel) H.h43 (by kernel_rfl) ?_
  unfold t43
  repeat (refine aA ?_)
  exact aF rfl ⟨rfl, rfl⟩
 have hn : PR E gl 44 [.c (bs ec), .sl 1 1 [.ifc Bt (.agg [St (cb n)])]] [] (.tup [.c (.slice none 0 0), I 0]) [] := by
  refine fnZ H.hE (cfg := c0) (fuel := fuel) H.h44 (by kernel_rfl) ?_
  unfold t44
  repeat (refine aA ?_)
  exact aF rfl ⟨rfl, rfl⟩
 have hr : PR E gl 45 [.c (bs ec), .sl 1 1 [.ifc Bt (.agg [St (cb n)])]] [] (.tup [.fx 1 1 [.ifc Bs (.agg [I n])], I 0]) [] := by
  refine fnZ H.hE (cfg := c0) (fuel := fuel) H.h45 (by kernel_rfl) ?_
  unfold t45
  repeat (refine aA ?_)
  refine RI rfl rfl rfl rfl ?_
  dsimp only [go_sem]
  exact aF rfl ⟨rfl, rfl⟩
 refine fnZ H.hE (cfg := c0) (fuel := fuel) H.h26 (by kernel_rfl) ?_
 unfold t26
 refine aA ?_
 rw [show aT .i64 (((#[(115 : UInt8)].size : Nat) : Int) - 1) = 0 from rfl]
 repeat (first | refine af ?_ | refine aA ?_ | refine bz rfl (by assumption) ?_ | refine gW rfl ?_ | refine gX rfl ?_)
 exact ⟨rfl, rfl⟩
end Go.AM.PV
namespace Go.AM.PV
open Go Go.AM Go.AM.SX
attribute [local irreducible] pz aY
variable {E : Env} {gl : List GRow} {inf : Nat -> TypeInfo} {c0 c1 c2 : Cfg} {fuel : Nat}
theorem RR (H : Knd E gl inf c0 c1 c2 fuel) (n : Int) : PR E gl 32 [.agg [I 1, I n, St ⟨#[]⟩, .sl 4 0 []], .agg [I 1, I n, .c (bs []), .c (.slice none 0 0)]] [] (Bo true) [] := by
 have h := RD H
 refine fnZ H.hE (cfg := c0) (fuel := fuel) H.h32 (by kernel_rfl) ?_
 unfold t32
 repeat (refine aA ?_)
 exact aE 0 rfl (Nat.zero_le _) rfl rfl ⟨rfl, rfl⟩
theorem RT (H : Knd E gl inf c0 c1 c2 fuel) (n : Int) : PR E gl 15 [.sl 4 1 [I 1, I n, St ⟨#[]⟩, .sl 4 0 []], .fx 4 1 [I 1, I n, .c (bs []), .c (.slice none 0 0)]] [] (Bo true) [] := by
 have h := RR H n
 refine fnZ H.hE (cfg := c0) (fuel := fuel) H.h15 (by kernel_rfl) ?_
 unfold t15
 repeat (first | refine af ?_ | refine aA ?_)
 exact ⟨rfl, rfl⟩
theorem RU (H : Knd E gl inf c0 c1 c2 fuel) (n : Int) : PR E gl 18 [.sl 1 1 [(Val.int n).p], .fx 4 1 [I 1, I n, .c (bs []), .c (.slice none 0 0)]] [] (Bo true) [] := by
 have h := RT H n
 have ht : PR E gl 11 [.sl 1 1 [(Val.int n).p]] [] (.ow tV 4 1 [I 1, I n, St ⟨#[]⟩, .sl 4 0 []]) [] :=
  m5 H.hE H.conv (l := [.int n]) (by simp) (by simp [Val.smalls, Val.small])
 simp only [Val.p] at ht ⊢
 refine fnZ H.hE (cfg := c0) (fuel := fuel) H.h18 (by kernel_rfl) ?_
 unfold t18
 repeat (first | refine af ?_ | refine aA ?_)
 exact ⟨rfl, rfl⟩
theorem xb {ps : List P} {a : At} {n sz : Nat} {l : List P} (h : bI ps a = .lit l) (hn : l.length = n * sz) (h0 : 0 < n) : bN ps (.sl a n) = some (.fx sz n l) := by
 show (match bI ps a with
  | .lit l => if l.length = n * (if n = 0 then 1 else l.length / n) then some (P.fx (if n = 0 then 1 else l.length / n) n l) else none
  | _ => none) = _
 rw [h]
 dsimp only
 have hd : (if n = 0 then 1 else l.length / n) = sz := by rw [if_neg (by omega), hn, Nat.mul_div_cancel_left _ h0]
 rw [hd, if_pos hn]
theorem xc {ps : List P} {a b : At} {n m sz tz : Nat} {l k : List P} (h : bI ps a = .lit l) (hn : l.length = n * sz) (h0 : 0 < n) (h' : bI ps b = .lit k) (hm : k.length = m * tz) (h1 : 0 < m) : denF ps [.sl a n, .sl b m] = some [.fx sz n l, .fx tz m k] := by
 unfold denF
 rw [xb h hn h0]
 unfold denF
 rw [xb h' hm h1]
 rfl
section
variable (H : Txs E gl inf c0 c1 c2 fuel)
include H
theorem za {w1 w2 : List UInt8} {n m k : Nat} {l1 l2 l3 : List P} (h1 : PR E gl 13 [.c (bs w1), .sl 1 n l1] [] (.tup [.sl 1 m l2, I 0]) []) (h2 : PR E gl 13 [.c (bs w2), .sl 1 m l2] [] (.tup [.sl 1 k l3, I 0]) []) :
  PR E gl 17 [.sl 1 n l1, .fx 1 2 [.c (bs w1), .c (bs w2)]] [] (.tup [.sl 1 k l3, I 0]) [] := by
 refine fnZ H.hE (cfg := c0) (fuel := fuel) H.h17 (by kernel_rfl) ?_
 unfold t17
 repeat (first | refine af ?_ | refine aA ?_)
 exact ⟨rfl, rfl⟩
theorem RV {w1 : List UInt8} {n m : Nat} {l1 l2 : List P} (h1 : PR E gl 13 [.c (bs w1), .sl 1 n l1] [] (.tup [.sl 1 m l2, I 0]) []) :
  PR E gl 17 [.sl 1 n l1, .fx 1 1 [.c (bs w1)]] [] (.tup [.sl 1 m l2, I 0]) [] := by
 refine fnZ H.hE (cfg := c0) (fuel := fuel) H.h17 (by kernel_rfl) ?_
 unfold t17
 repeat (first | refine af ?_ | refine aA ?_)
 exact ⟨rfl, rfl⟩
theorem RW {w1 w2 : List UInt8} {n : Nat} {l1 : List P} {e : Int} (he : e ≠ 0) (h1 : PR E gl 13 [.c (bs w1), .sl 1 n l1] [] (.tup [.c (.slice none 0 0), I e]) []) :
  PR E gl 17 [.sl 1 n l1, .fx 1 2 [.c (bs w1), .c (bs w2)]] [] (.tup [.c (.slice none 0 0), I e]) [] := by
 refine fnZ H.hE (cfg := c0) (fuel := fuel) H.h17 (by kernel_rfl) ?_
 unfold t17
 repeat (first | refine af ?_ | refine aA ?_)
 exact ⟨rfl, rfl⟩
theorem RX {n : Int} (h0 : -1152921504606846976 <= n) (h1 : n <= 1152921504606846975) (hw : PR E gl 25 [.c (bs ea)] [] (.c (.tuple #[bs [120], .bool true])) []) : PR E gl 13 [.c (bs ea), .sl 1 1 (Val.ps [.int n])] [] (.tup [.sl 1 1 (Val.ps [.str (cb n)]), I 0]) [] :=
 dX (nmw := ea) (ks := [120]) (l := [.int n]) (outs := [.str (cb n)]) (L := [.str (cb n)]) H.toCln (show 1 <= 1048576 by decide) ⟨trivial, trivial⟩
  (by simp only [List.mem_cons, List.not_mem_nil, or_false]; rintro v rfl; exact xa h0 h1)
  hw (show 1 <= 1 by decide) (.inr rfl) (RP H h0 h1 hw) (show 1 <= 1048576 by decide) ⟨sd h0 h1, trivial⟩ rfl
theorem RY {n : Int} (h0 : -1152921504606846976 <= n) (h1 : n <= 1152921504606846975) (hw : PR E gl 25 [.c (bs ec)] [] (.c (.tuple #[bs [115], .bool true])) []) : PR E gl 13 [.c (bs ec), .sl 1 1 (Val.ps [.str (cb n)])] [] (.tup [.sl 1 1 (Val.ps [.int n]), I 0]) [] :=
 dX (nmw := ec) (ks := [115]) (l := [.str (cb n)]) (outs := [.int n]) (L := [.int n]) H.toCln (show 1 <= 1048576 by decide) ⟨sd h0 h1, trivial⟩
  (by simp only [List.mem_cons, List.not_mem_nil, or_false]; rintro v rfl; exact vc h0 h1)
  hw (show 1 <= 1 by decide) (.inr rfl) (RQ H h0 h1 hw) (show 1 <= 1048576 by decide) ⟨trivial, trivial⟩ rfl
theorem RZ (a b : Bool) (hw : PR E gl 25 [.c (bs kb)] [] (.c (.tuple #[bs [98, 98], .bool true])) []) : PR E gl 13 [.c (bs kb), .sl 1 2 (Val.ps [.bool a, .bool b])] [] (.tup [.sl 1 1 (Val.ps [.bool (a && b)]), I 0]) [] :=
 dX (nmw := kb) (ks := [98, 98]) (l := [.bool a, .bool b]) (outs := [.bool (a && b)]) (L := [.bool (a && b)]) H.toCln (show 2 <= 1048576 by decide) ⟨trivial, trivial, trivial⟩
  (by simp only [List.mem_cons, List.not_mem_nil, or_false]; rintro v (rfl | rfl) <;> exact sa _)
  hw (show 2 <= 2 by decide) (.inr rfl) (RN H a b hw) (show 1 <= 1048576 by decide) ⟨trivial, trivial⟩ rfl
theorem R4 (a b : Bool) (hw : PR E gl 25 [.c (bs wOr)] [] (.c (.tuple #[bs [98, 98], .bool true])) []) : PR E gl 13 [.c (bs wOr), .sl 1 2 (Val.ps [.bool a, .bool b])] [] (.tup [.sl 1 1 (Val.ps [.bool (a || b)]), I 0]) [] :=
 dX (nmw := wOr) (ks := [98, 98]) (l := [.bool a, .bool b]) (outs := [.bool (a || b)]) (L := [.bool (a || b)]) H.toCln (show 2 <= 1048576 by decide) ⟨trivial, trivial, trivial⟩
  (by simp only [List.mem_cons, List.not_mem_nil, or_false]; rintro v (rfl | rfl) <;> exact sa _)
  hw (show 2 <= 2 by decide) (.inr rfl) (RO H a b hw) (show 1 <= 1048576 by decide) ⟨trivial, trivial⟩ rfl
theorem R5 (a : Bool) (hw : PR E gl 25 [.c (bs kc)] [] (.c (.tuple #[bs [98], .bool true])) []) : PR E gl 13 [.c (bs kc), .sl 1 1 (Val.ps [.bool a])] [] (.tup [.sl 1 1 (Val.ps [.bool !a]), I 0]) [] :=
 dX (nmw := kc) (ks := [98]) (l := [.bool a]) (outs := [.bool !a]) (L := [.bool !a]) H.toCln (show 1 <= 1048576 by decide) ⟨trivial, trivial⟩
  (by simp only [List.mem_cons, List.not_mem_nil, or_false]; rintro v rfl; exact sa _)
  hw (show 1 <= 1 by decide) (.inr rfl) (RM H a hw) (show 1 <= 1048576 by decide) ⟨trivial, trivial⟩ rfl
theorem R6 (n : Int) (a b : Bool) (w1 : PR E gl 25 [.c (bs ea)] [] (.c (.tuple #[bs [120], .bool true])) []) (w2 : PR E gl 25 [.c (bs ec)] [] (.c (.tuple #[bs [115], .bool true])) [])
  (w3 : PR E gl 25 [.c (bs kb)] [] (.c (.tuple #[bs [98, 98], .bool true])) []) (w4 : PR E gl 25 [.c (bs wOr)] [] (.c (.tuple #[bs [98, 98], .bool true])) []) (w5 : PR E gl 25 [.c (bs kc)] [] (.c (.tuple #[bs [98], .bool true])) []) :
  PR E gl 6 [I n, Bo a, Bo b] [] (Bo true) [] := by
 have haw := H.awake
 have hin := EY (gl := gl) H.hE H.h21 n
 by_cases hn : -1152921504606846976 <= n /\ n <= 1152921504606846975
 ·rw [decide_eq_true (show n >= -1152921504606846976 from hn.1), decide_eq_true hn.2] at hin
  have d1 := za H (RX H hn.1 hn.2 w1) (RY H hn.1 hn.2 w2)
  have d2 := za H (RZ H a b w3) (R5 H (a && b) w5)
  have d3 := RV H (R4 H (!a) (!b) w4)
  rw [<- Bool.not_and] at d3
  have hs := RU H.toKnd n
  have ht := m5 (gl := gl) H.hE H.conv (l := [.bool !(a && b)]) (by simp) (by simp [Val.smalls, Val.small])
  have hu := Fw (gl := gl) H.toCln (l := Val.trees [.bool !(a && b)]) (by simp [Val.trees]) (by simp only [Val.trees, Val.tree, V.smalls, V.small, List.length_nil]; exact ⟨⟨by decide, by decide, by decide⟩, trivial⟩)
  have e1 : PR E gl 17 [.fx 1 1 (Val.ps [.int n]), .fx 1 2 [.c (bs ea), .c (bs ec)]] [] (.tup [.sl 1 1 (Val.ps [.int n]), I 0]) [] := d1.pre (.cons _ _ _ _ (.fxsl _ _ _) (.cons _ _ _ _ (.refl _) .nil))
  have e2 : PR E gl 17 [.fx 1 2 (Val.ps [.bool a, .bool b]), .fx 1 2 [.c (bs kb), .c (bs kc)]] [] (.tup [.sl 1 1 (Val.ps [.bool !(a && b)]), I 0]) [] := d2.pre (.cons _ _ _ _ (.fxsl _ _ _) (.cons _ _ _ _ (.refl _) .nil))
  have e3 : PR E gl 17 [.fx 1 2 (Val.ps [.bool !a, .bool !b]), .fx 1 1 [.c (bs wOr)]] [] (.tup [.sl 1 1 (Val.ps [.bool !(a && b)]), I 0]) [] := d3.pre (.cons _ _ _ _ (.fxsl _ _ _) (.cons _ _ _ _ (.refl _) .nil))
  clear d1 d2 d3 w1 w2 w3 w4 w5
  generalize (!(a && b)) = c at *
  simp only [Val.ps, Val.p, Val.trees, List.length_cons, List.length_nil, V.ps, Val.tree, V.p, List.append_nil] at *
  refine fnZ H.hE (cfg := c0) (fuel := fuel) H.h6 (by kernel_rfl) ?_
  unfold t6
  clear H
  repeat (first | refine af ?_ | refine aA ?_ | refine aI (ed (sz := 1) rfl rfl rfl (by decide)) (by assumption) (Nat.le_refl _) ?_ | refine aI (ed (sz := 4) rfl rfl rfl (by decide)) (by assumption) (Nat.le_refl _) ?_ | refine aI (xc (sz := 1) (tz := 1) rfl rfl (by decide) rfl rfl (by decide)) (by assumption) (Nat.le_refl _) ?_)
  exact ⟨rfl, rfl⟩
 ·have hb : (decide (n >= -1152921504606846976) && decide (n <= 1152921504606846975)) = false := by
   rw [Bool.and_eq_false_iff]
   by_cases h : n >= -1152921504606846976
   ·exact .inr (decide_eq_false fun e => hn ⟨h, e⟩)
   ·exact .inl (decide_eq_false h)
  rw [hb] at hin
  have hc : ¬ (Val.int n).chk vsR nmR = 0 := by
   unfold Val.chk
   simp only [Val.meas, gate]
   rw [hb]
   decide
  have d1 := RW (w2 := ec) H (by decide) (Fy H.toCln ea (l := [.int n]) (by simp) ⟨trivial, trivial⟩ fun h => hc (h _ (by simp)))
  have e1 : PR E gl 17 [.fx 1 1 (Val.ps [.int n]), .fx 1 2 [.c (bs ea), .c (bs ec)]] [] (.tup [.c (.slice none 0 0), I 1]) [] := d1.pre (.cons _ _ _ _ (.fxsl _ _ _) (.cons _ _ _ _ (.refl _) .nil))
  clear d1 w1 w2 w3 w4 w5
  simp only [Val.ps, Val.p] at *
  refine fnZ H.hE (cfg := c0) (fuel := fuel) H.h6 (by kernel_rfl) ?_
  unfold t6
  clear H
  repeat (first | refine af ?_ | refine aA ?_ | refine aI (ed (sz := 1) rfl rfl rfl (by decide)) (by assumption) (Nat.le_refl _) ?_ | refine aI (ed (sz := 4) rfl rfl rfl (by decide)) (by assumption) (Nat.le_refl _) ?_ | refine aI (xc (sz := 1) (tz := 1) rfl rfl (by decide) rfl rfl (by decide)) (by assumption) (Nat.le_refl _) ?_)
  exact ⟨rfl, rfl⟩
end
end Go.AM.PV
namespace Go.AM.PV
open Go Go.AM Go.AM.SX Go.Proofs
def zb : List Value := Lib.pow10Tab.map fun z => .int .u64 z
def la : GRow := { g := 5, cells := zb, elem := 0 }
def l5 (n : Int) : Known := { f := 118, args := [.int .i64 n, .int .i64 10], looks := [la], v := .string (cb n), cnt := 0, objs := [] }
theorem R7 (nm : Nm) {n : Int} (h0 : -9223372036854775808 <= n) (h1 : n <= 9223372036854775807) : KnownOk Tryz.prog nm (l5 n) where
 calls := by
  intro w hw
  obtain ⟨t1, z1, e1⟩ := hw la (by simp [l5])
  have e1 : w.heap[5]? = some (.cells zb.toArray t1 z1) := e1
  have hT : Lib.TabIs Tryz.prog w "internal/strconv.uint64pow10" .u64 Lib.pow10Tab := by
   unfold Lib.TabIs World.var?
   rw [show Tryz.prog.globalNamed "internal/strconv.uint64pow10" = some 5 by kernel_rfl]
   show (match w.heap[5]? with
    | some (.cells cs _ _) => some cs
    | _ => none) = _
   rw [e1]
   rfl
  have hc : Calls Tryz.prog 118 #[.int .i64 n, .int .i64 10] w _ := Any.strconv_FormatInt_10 Tryz.laysM173 n h0 h1 w hT
  refine hc.mono ?_
  rintro e w' ⟨he, k, os, rfl⟩
  refine ⟨fun _ => none, .string (cb n), fun _ _ h => (by cases h), fun _ _ => rfl, fun _ h => (by cases h), fun _ _ _ _ h => (by cases h), fun B hB => ?_, ?_, ⟨rfl, rfl, rfl⟩, .str _, he⟩
  ·show (w.heap ++ os)[B]? = w.heap[B]?
   rw [Array.getElem?_append_left hB]
  ·show w.heap.size <= (w.heap ++ os).size
   rw [Array.size_append]
   omega
 shal := rfl
 shalR := rfl
 plain := rfl
def zc : List Value -> Option Known
 | [.int .i64 n, .int .i64 b] => if b = 10 /\ -9223372036854775808 <= n /\ n <= 9223372036854775807 then some (l5 n) else none
 | _ => none
def xtV (f : FuncId) (vs : List Value) : Option Known := if f = 118 then zc vs else xtU f vs
theorem R8 (f : FuncId) (vs : List Value) (k : Known) (h : xtU f vs = some k) : xtV f vs = some k := by
 unfold xtV
 split
 ·rename_i e
  subst e
  cases h
 ·exact h
theorem R9 (nm : Nm) : ∀ f vs k, xtV f vs = some k -> KnownOk Tryz.prog nm k /\ k.f = f /\ k.args = vs := by
 intro f vs k h
 unfold xtV at h
 split at h
 ·rename_i e
  subst e
  unfold zc at h
  split at h
  ·split at h
   ·rename_i n b hb
    obtain ⟨rfl, h0, h1⟩ := hb
    cases h
    exact ⟨R7 nm h0 h1, rfl, rfl⟩
   ·cases h
  ·cases h
 ·exact EJ nm f vs k h
theorem Rb {E : Env} {gl : List GRow} {n : Int} (h0 : -9223372036854775808 <= n) (h1 : n <= 9223372036854775807) (hk : cS 118 [.int .i64 n, .int .i64 10] E.known = none) (hx : E.xf.any (Nat.beq 118) = true) (hxt : E.xt = xtV) (hg : la ∈ gl) (hn : 5 < E.ng) (μ : Mu) :
  PR E gl 118 [I n, I 10] μ (St (cb n)) μ := by
 have hh : xtV 118 [.int .i64 n, .int .i64 10] = some (l5 n) := by
  show (if (10 : Int) = 10 /\ -9223372036854775808 <= n /\ n <= 9223372036854775807 then some (l5 n) else none) = _
  rw [if_pos ⟨rfl, h0, h1⟩]
 refine PR.known (k := l5 n) (tS hk hx (by rw [hxt]; exact hh)) ?_ rfl μ
 intro r hr
 simp only [l5, List.mem_cons, List.not_mem_nil, or_false] at hr
 subst hr
 exact ⟨hg, hn⟩
end Go.AM.PV
namespace Go.AM.PV
open Go Go.AM Go.AM.SX Go.Proofs
set_option maxRecDepth 1000000
set_option maxHeartbeats 0
noncomputable def E2 : Env := { jc Tryz.prog with ng := 6, known := k10 :: (n7.map k25 ++ wds.map eG), xf := [64, 145, 118], xt := xtV }
def glV : List GRow := [asc, dz, eA, la]
theorem Rc : aC E2 cf0 2000 16 1 = some t16 := by kernel_rfl
theorem Re : aC E2 cf0 2000 21 1 = some t21 := by kernel_rfl
theorem Rf : aC E2 cf0 2000 24 1 = some t24 := by kernel_rfl
theorem Rg : aC E2 cf0 2000 33 3 = some t33 := by kernel_rfl
theorem Rh : aC E2 cf0 2000 37 2 = some t37 := by kernel_rfl
theorem Ri : aC E2 cf0 2000 39 3 = some t39 := by kernel_rfl
theorem Rj : aC E2 cf0 2000 56 1 = some t56 := by kernel_rfl
theorem Rk : aC E2 cf0 2000 57 1 = some t57 := by kernel_rfl
theorem Rl : aC E2 cf0 2000 62 2 = some t62 := by kernel_rfl
theorem Rm : aC E2 cf0 2000 65 3 = some t65 := by kernel_rfl
theorem Rn : aC E2 cf0 2000 67 2 = some t67 := by kernel_rfl
theorem Ro : aC E2 cf0 2000 95 1 = some (t95 bH) := by kernel_rfl
theorem Rp : aC E2 cf0 2000 96 1 = some t96 := by kernel_rfl
theorem Rq : aC E2 cf0 2000 97 1 = some t97 := by kernel_rfl
theorem Rr : aC E2 cf0 2000 102 1 = some t102 := by kernel_rfl
theorem Rs : aC E2 cf0 2000 105 2 = some t105 := by kernel_rfl
theorem Rt : aC E2 cf0 2000 124 1 = some t124 := by kernel_rfl
theorem Ru : aC E2 cf0 2000 128 1 = some t128 := by kernel_rfl
theorem Rw : aC E2 cf0 2000 130 1 = some t130 := by kernel_rfl
theorem Rx : aC E2 cf0 2000 133 1 = some t133 := by kernel_rfl
theorem Ry : aC E2 cf0 2000 134 1 = some t134 := by kernel_rfl
theorem Rz : aC E2 cf0 2000 146 1 = some t146 := by kernel_rfl
theorem SA : aC E2 cf0 2000 148 1 = some t148 := by kernel_rfl
theorem SB : aC E2 cf0 2000 13 2 = some (t13 bH) := by kernel_rfl
theorem SC : aC E2 cf0 2000 26 2 = some t26 := by kernel_rfl
theorem SD : aC E2 cf0 2000 28 1 = some (t28 bH) := by kernel_rfl
theorem SE : aC E2 cf0 2000 41 2 = some t41 := by kernel_rfl
theorem SG : aC E2 cf0 2000 42 1 = some t42 := by kernel_rfl
theorem SH : aC E2 cf0 2000 43 2 = some t43 := by kernel_rfl
theorem SI : aC E2 cf0 2000 72 1 = some t72 := by kernel_rfl
theorem SJ : aC E2 cf0 2000 8 1 = some t8 := by kernel_rfl
theorem SK : aC E2 cf0 2000 15 2 = some t15 := by kernel_rfl
theorem SL : aC E2 cf0 2000 18 2 = some t18 := by kernel_rfl
theorem SM : aC E2 cf0 2000 32 2 = some t32 := by kernel_rfl
theorem SN : aC E2 cf1 2000 153 2 = some t153 := by kernel_rfl
theorem SO : aC E2 cf1 2000 157 1 = some t157 := by kernel_rfl
theorem SP : aC E2 cf1 2000 191 1 = some t191 := by kernel_rfl
theorem SQ : aC E2 cf2 2000 27 1 = some (t27 bH) := by kernel_rfl
theorem SR : aC E2 cf0 2000 19 1 = some t19 := by kernel_rfl
theorem SS : aC E2 cf0 2000 12 1 = some (t12 bH) := by kernel_rfl
theorem SU : aC E2 cf0 2000 58 1 = some t58 := by kernel_rfl
theorem SV : aC E2 cf0 2000 34 1 = some (t34 bH) := by kernel_rfl
theorem SW : aC E2 cf0 2000 20 1 = some t20 := by kernel_rfl
theorem SY : aC E2 cf0 2000 11 1 = some (t11 bH) := by kernel_rfl
theorem SZ : aC E2 cf0 2000 59 1 = some t59 := by kernel_rfl
theorem S0 : aC E2 cf0 2000 35 1 = some (t35 bH) := by kernel_rfl
theorem S3 : aC E2 cf0 2000 17 2 = some t17 := by kernel_rfl
theorem S4 : aC E2 cf0 2000 44 2 = some t44 := by kernel_rfl
theorem S5 : aC E2 cf0 2000 45 2 = some t45 := by kernel_rfl
theorem S6 : aC E2 cf0 2000 47 1 = some (t47 bH) := by kernel_rfl
theorem S7 : aC E2 cf0 2000 73 2 = some t73 := by kernel_rfl
theorem S8 : aC E2 cf0 2000 6 3 = some t6 := by kernel_rfl
theorem S9 : aC E2 cf0 2000 83 1 = some t83 := by kernel_rfl
theorem Sa : aC E2 cf0 2000 84 1 = some t84 := by kernel_rfl
theorem ok2 (nm : Nm) : EnvOk E2 Tryz.prog nm := (((oW Tryz.prog [] (fun _ h => by cases h) mq mw (oV _ my)).ng 6).knows _ (mz nm)).xts [64, 145, 118] xtV (R9 nm)
theorem hE2 : SxEnv E2 := SxEnv.of (ok2 .empty) rfl
theorem Sc : ConvT E2 bH cf0 2000 :=
 { t19 := SR, t12 := SS, t58 := SU, t34 := SV, t20 := SW, t11 := SY, t59 := SZ, t35 := S0, val1 := rp, val2 := rq, itm1 := FS, itm2 := FT, v1 := FU, v2 := FV }
theorem Sd : Knd E2 glV bH cf0 cf1 cf2 2000 :=
 { hE := hE2, hx := rfl, hxt := R8, hk1 := fun s => nA (by kernel_rfl), hk2 := fun s => nA (by kernel_rfl), g1 := by simp [glV], g2 := by simp [glV], hn := by show 2 < 6; omega, i1 := FQ, i2 := FR,
   h16 := Rc, h21 := Re, h24 := Rf, h33 := Rg, h37 := Rh, h39 := Ri, h56 := Rj, h57 := Rk, h62 := Rl, h65 := Rm, h67 := Rn, h95 := Ro, h96 := Rp, h97 := Rq, h102 := Rr, h105 := Rs,
   h124 := Rt, h128 := Ru, h130 := Rw, h133 := Rx, h134 := Ry, h146 := Rz, h148 := SA, h153 := SN, h157 := SO, h191 := SP,
   j1 := rp, j2 := rq, h13 := SB, h26 := SC, h27 := SQ, h28 := SD, h41 := SE, h42 := SG, h43 := SH, h72 := SI,
   conv := Sc, h8 := SJ, h15 := SK, h18 := SL, h32 := SM,
   awake := PR.known (k := k10) (show knw E2 10 [] = some k10 from rfl) (fun r hr => by
     simp only [k10, List.mem_cons, List.not_mem_nil, or_false] at hr
     subst hr
     exact ⟨by simp [glV], by show 0 < 6; omega⟩) rfl [],
   want := fun w hw => by
     simp only [rh, List.mem_cons, List.not_mem_nil, or_false] at hw
     have hl : ∀ (l : List UInt8) (r : GRow), r ∈ (k25 l).looks -> r ∈ glV /\ r.g < E2.ng := fun l r hr => by
       simp only [k25, List.mem_cons, List.not_mem_nil, or_false] at hr
       subst hr
       exact ⟨by simp [glV], by show 0 < 6; omega⟩
     rcases hw with rfl | rfl | rfl | rfl | rfl | rfl <;> exact PR.known (k := k25 _) (show knw E2 25 [bs _] = some (k25 _) from rfl) (hl _) rfl [] }
theorem na (w : List UInt8 × List UInt8) (h : knw E2 25 [bs w.1] = some (eG w)) : PR E2 glV 25 [.c (bs w.1)] [] (.c (.tuple #[bs w.2, .bool true])) [] :=
 PR.known (k := eG w) h (fun r hr => by
  simp only [eG, List.mem_cons, List.not_mem_nil, or_false] at hr
  subst hr
  exact ⟨by simp [glV], by show 0 < 6; omega⟩) rfl []
theorem Se : Txs E2 glV bH cf0 cf1 cf2 2000 :=
 { Sd with
   h47 := S6, h44 := S4, h45 := S5, h73 := S7, h17 := S3, h6 := S8, h83 := S9, h84 := Sa
   itoa := fun n h0 h1 => Rb (by omega) (by omega) (nA (by kernel_rfl)) rfl rfl (by simp [glV]) (by show 5 < 6; omega) [] }
theorem Sf (n : Int) (a b : Bool) : PR E2 glV 6 [I n, Bo a, Bo b] [] (Bo true) [] :=
 R6 Se n a b (na (ea, [120]) rfl) (na (ec, [115]) rfl) (na (kb, [98, 98]) rfl) (na (wOr, [98, 98]) rfl) (na (kc, [98]) rfl)
end Go.AM.PV
namespace Go.Proofs.YtilbjefgojocaaaGreatDoor
open Go Go.AM Go.AM.SX Go.AM.PV
set_option maxRecDepth 1000000
section
variable {H : Type}
theorem Sh {d : DataW H} {p : P} (h : RdV Tryz.prog 2 d p) : ∃ n : Int, p = I n := by
 obtain ⟨n, _, h2, _⟩ := rU Tryz.underlying2 (tc (va Tryz.underlying2 (fun _ e => by cases e)) h)
 exact ⟨n, by simpa using h2⟩
theorem Q9 {d : DataW H} {p : P} (h : RdV Tryz.prog 4 d p) : ∃ b : Bool, p = Bo b := by
 obtain ⟨b, _, h2⟩ := Qb Tryz.underlying4 (tc (va Tryz.underlying4 (fun _ e => by cases e)) h)
 exact ⟨b, by simpa using h2⟩
end
theorem Sj : (glV.find? fun r => Nat.beq r.g 0).isSome = true := by kernel_rfl
theorem Sk : glV.all (fun r => Nat.blt r.g 6) = true := by kernel_rfl
theorem Sl : glV.all (fun r => r.cells.all aL) = true := by kernel_rfl
theorem Sm : ∀ (g : Nat -> TypeId) (c : Nat -> Nat), glV.all (fun r => bQ (ak (fc g c glV 6)) r) = true := by
 intro g c
 kernel_rfl
theorem Sn : Tryz.prog.globalNamed "internal/strconv.uint64pow10" = some 5 := by kernel_rfl
theorem So : dx Tryz.prog 3 (((Tryz.prog.globals[5]?).map (·.type)).getD 0) (Rows.laid_internal_strconv_uint64pow10 (H := Unit)) = some la.cells := by kernel_rfl
theorem Sp {W : World} (h : laidMetH Tryz.prog laidB W) : ∀ r, r ∈ glV -> ∃ t fz, W.heap[r.g]? = some (.cells r.cells.toArray t fz) := by
 have h0 := Ff h
 rw [MakeChecks.laidMetH_plain _ _ _ F7] at h
 intro r hr
 simp only [glV, List.mem_cons, List.not_mem_nil, or_false] at hr
 rcases hr with rfl | rfl | rfl | rfl
 ·exact h0 asc (by simp [glK])
 ·exact h0 dz (by simp [glK])
 ·exact h0 eA (by simp [glK])
 ·exact mf h (x := "internal/strconv.uint64pow10") (by simp [laidB, Rows.primKindsRow]) Sn (gT 5 (by kernel_rfl)) So
theorem Sq : (List.range 6).all (fun i => ((((begin Tryz.prog (fun _ _ => 0) default).world.heap[i]?).bind Obj.row?).isSome && decide (i < Tryz.prog.globals.size))) = true := by kernel_rfl
theorem Sr {W : World} (h : W.ShapedOpen Tryz.prog) : ∀ i, i < 6 -> ∃ cs t fz, W.heap[i]? = some (.cells cs t fz) := by
 intro i hi
 have h1 := List.all_eq_true.1 Sq i (List.mem_range.2 hi)
 rw [Bool.and_eq_true, decide_eq_true_iff] at h1
 obtain ⟨x, hx⟩ := Option.isSome_iff_exists.1 h1.1
 obtain ⟨cs, h2, _⟩ := h.1 i x.1 x.2 h1.2 hx
 exact ⟨cs, _, _, h2⟩
end Go.Proofs.YtilbjefgojocaaaGreatDoor
namespace Go.Proofs.YtilbjefgojocaaaGreatDoor
open Go Go.ChangeMaps Go.ChangeShapes Go.WideShapes Go.ChangeAt Go.RowKit Go.AM Go.AM.SX Go.AM.PV
set_option maxRecDepth 1000000
theorem Ss (H : Type) (enc : TypeId × Value -> H) (W : World) (base : Nat) (args : Array Value) (ds gs : List (DataW H)) (before : List MemPlace)
  (hval0 : ∀ (j : Nat) t v, Tryz.f6.params[j]? = some t -> args[j]? = some v -> Value.okWide Tryz.prog W .any base t v)
  (hW : DataW.Whole enc Tryz.prog Tryz.f6.params.toList Rows.primTextsSpec.vars false W args.toList ds gs before) (hS : W.ShapedOpen Tryz.prog) (hL : laidMetH Tryz.prog laidB W) :
  Calls Tryz.prog 6 args W fun e W' => ∃ v, e = .returned v /\ Rows.primTextsSpec.post enc Tryz.prog Tryz.f6 false true false false W args v W' := by
 have hval := hval0
 have hW' := hW
 obtain ⟨p, q, hA0, hV, rfl, _, _⟩ := hW
 have hA : DataW.TrodAll enc Tryz.prog W 0 (fun _ => true) true Tryz.f6.params.toList args.toList ds p := hA0
 obtain ⟨rfl, rfl⟩ := trodVars_none hV
 simp only [List.append_nil] at hW'
 have hlt : ∀ x, x ∈ p -> x.block < W.heap.size := fun x hx => hW'.lt x hx
 have hag : ∀ W' : World, W.keptBut W' (fun _ => False) -> DataW.TrodAll enc Tryz.prog W' 0 (fun b => decide (b < W.heap.size)) true Tryz.f6.params.toList args.toList ds p := fun W' hg =>
  CY Fg Fh Fi (by kernel_rfl) hA hlt hg
 have hA1 := hA
 rw [Tryz.params6] at hA1 hval
 have hcalls : Calls Tryz.prog 6 args W fun e w' => e = .returned (.bool true) /\ W.keptBut w' (fun _ => False) := by
  refine Qd (ok2 ByteArray.empty) (f := 6) (gl := glV) (n := 6) (ts := tsV) (tl := [2, 4, 4]) rfl F3 (Nat.le_refl 6) (by decide) Sj Sk Sl Sm (Sp hL) (Sr hS) (by decide) hA1 (fun j t v h1 h2 => hval j t v (by simpa using h1) (by simpa using h2)) ?_
  intro ps h
  clear hag hlt hA hA0 hA1 hval hval0 hW' hS hV hL
  obtain ⟨d1, _, p1, _, rfl, rfl, h1, h⟩ := mg h
  obtain ⟨d2, _, p2, _, rfl, rfl, h2, h⟩ := mg h
  obtain ⟨d3, _, p3, _, rfl, rfl, h3, h⟩ := mg h
  obtain ⟨rfl, rfl⟩ := C3 h
  obtain ⟨n, rfl⟩ := Sh h1
  obtain ⟨a, rfl⟩ := Q9 h2
  obtain ⟨b, rfl⟩ := Q9 h3
  exact ⟨_, Sf n a b⟩
 have hds : ∃ d0 d1 d2, ds = [d0, d1, d2] := by
  clear hcalls hag hW'
  obtain ⟨v0, vs0, d0, ds0, p0, q0, hv0, rfl, rfl, h0, r0⟩ := trodAll_cons hA1
  obtain ⟨v1, vs1, d1, ds1, p1, q1, hv1, rfl, rfl, h1, r1⟩ := trodAll_cons r0
  obtain ⟨v2, vs2, d2, ds2, p2, q2, hv2, rfl, rfl, h2, r2⟩ := trodAll_cons r1
  obtain ⟨_, rfl, _⟩ := trodAll_nil r2
  exact ⟨d0, d1, d2, rfl⟩
 obtain ⟨d0, d1, d2, rfl⟩ := hds
 refine hcalls.mono fun e W' ⟨he, hg⟩ => ?_
 subst he
 refine ⟨_, rfl, _, _, _, [], p, [], hW', ?_, ?_, ?_, ?_, fun h => by cases h⟩
 ·exact trodAll_mk1 (shut_bool Tryz.underlying4 true)
 ·exact hag W' hg
 ·rfl
 ·exact World.keptBut_mono (fun _ h => h.elim) hg
theorem Su (os : Os) {H : Type} (enc : TypeId × Value -> H) : ∃ places, DataW.whole enc Tryz.prog ((World.laidAll Tryz.prog os Rows.primTextsRow.laid).forCall (fun _ _ => 0) ⟨#[], #[.int .i64 0, .bool false, .bool false], []⟩).memory Tryz.f6.params.toList Rows.primTextsSpec.vars false (#[.int .i64 0, .bool false, .bool false] : Array Value).toList 8 = some ([.lit (.int .i64 0), .lit (.bool false), .lit (.bool false)], [], places) :=
 ⟨[], by kernel_rfl⟩
theorem Sv (os : Os) : ((World.laidAll Tryz.prog os Rows.primTextsRow.laid).forCall (fun _ _ => 0) ⟨#[], #[.int .i64 0, .bool false, .bool false], []⟩).Shaped Tryz.prog := World.shaped_of_ZipB (by kernel_rfl) (by kernel_rfl)
theorem Qa (os : Os) : Input.okWideB Tryz.prog ((World.laidAll Tryz.prog os Rows.primTextsRow.laid).forCall (fun _ _ => 0) ⟨#[], #[.int .i64 0, .bool false, .bool false], []⟩) 6 ⟨#[], #[.int .i64 0, .bool false, .bool false], []⟩ = true := by kernel_rfl
theorem Sw (os : Os) {H : Type} (enc : TypeId × Value -> H) : Rows.primTextsSpec.sizedB enc Tryz.prog Tryz.f6 false ((World.laidAll Tryz.prog os Rows.primTextsRow.laid).forCall (fun _ _ => 0) ⟨#[], #[.int .i64 0, .bool false, .bool false], []⟩).memory #[.int .i64 0, .bool false, .bool false] 8 = true := by kernel_rfl
theorem Sx (os : Os) : laidMetH Tryz.prog Rows.primTextsRow.laid ((World.laidAll Tryz.prog os Rows.primTextsRow.laid).forCall (fun _ _ => 0) ⟨#[], #[.int .i64 0, .bool false, .bool false], []⟩).memory := by
 rw [MakeChecks.laidMetH_plain _ _ _ (by kernel_rfl)]
 exact laidMet_laidAll _ (by kernel_rfl) (by kernel_rfl)
theorem Sy (os : Os) (started : os.Started) (H : Type) (enc : TypeId × Value -> H) (F : Stop.Interp) :
  ReturnsInHanded {} Tryz.checked os 6 .any ((OpenSpec.ofChange Rows.primTextsSpec).preRow enc Tryz.prog Tryz.f6 Rows.primTextsRow.domain false Rows.primTextsRow.laid) (((OpenSpec.ofChange Rows.primTextsSpec).at F).post enc Tryz.prog Tryz.f6 false true false false) := by
 obtain ⟨places, hx⟩ := Su os enc
 refine returnsInHanded_of_row (C := Tryz.checked) (s := OpenSpec.ofChange Rows.primTextsSpec) Fj started (by kernel_rfl) Tryz.func6
  ⟨World.laidAll Tryz.prog os Rows.primTextsRow.laid, fun _ _ => 0, ⟨#[], #[.int .i64 0, .bool false, .bool false], []⟩, World.laidAll_os _ _ _, Sv os, (Input.okWide_of_okWideB (base := 0) (Qa os)).1, (Input.okWide_of_okWideB (Qa os)).2,
   OpenSpec.preRow_of_cond 8 hx rfl (fun k hk => by cases hk) (Sw os enc) (Sx os), by
    simp only [Assume.holds]
    exact ⟨by simp, by simp, fun _ => Modest.zero, by simp, by simp⟩⟩ ?_
 intro W base args ds gs before hval hW _ _ _ hL hS _
 exact Ss H enc W base args ds gs before hval hW hS hL
theorem Sz : Tryz.pinned.checked.prog.funcNamed Rows.primTextsRow.func = some 6 := by kernel_rfl
theorem TA : (Rows.primTextsRow.wf (OpenSpec.ofChange Rows.primTextsSpec) : Bool) = true := by kernel_rfl
theorem TB : (laidOutB Tryz.prog : Bool) = true := by kernel_rfl
theorem TC : (mapsRowed Tryz.prog : Bool) = true := by kernel_rfl
theorem TD : (Tryz.f6.params.all (Tryz.prog.readableRec ·) : Bool) = true := by kernel_rfl
theorem TE : (namedTie Tryz.prog Rows.primTextsRow.named Rows.primTextsSpec.vars : Bool) = true := by kernel_rfl
theorem TF : ((Rows.primTextsRow.stops == []) : Bool) = true := by kernel_rfl
theorem TG : ((Tryz.prog.stops == []) : Bool) = true := by kernel_rfl
theorem TH : ((Rows.primTextsRow.knobs == []) : Bool) = true := by kernel_rfl
theorem TI : ((Tryz.prog.stopKnobs == []) : Bool) = true := by kernel_rfl
theorem TJ : ((Rows.primTextsRow.inPlace == Tryz.prog.inPlace 6) : Bool) = true := by kernel_rfl
theorem TK : ((Rows.primTextsRow.unfollowed == Tryz.prog.unfollowed 6) : Bool) = true := by kernel_rfl
theorem TL : ((Rows.primTextsRow.recurses == Tryz.prog.recurses 6) : Bool) = true := by kernel_rfl
theorem TM : ((Rows.primTextsRow.named == Tryz.prog.varsNamed 6) : Bool) = true := by kernel_rfl
theorem TN : ((Rows.primTextsRow.maps == (Tryz.f6.params.toList ++ Rows.primTextsSpec.plain.varTypes Tryz.prog).any (Tryz.prog.mapsRec ·)) : Bool) = true := by kernel_rfl
theorem TO : ((Rows.primTextsRow.ifaces == (Tryz.f6.params.toList ++ Rows.primTextsSpec.plain.varTypes Tryz.prog).any (Tryz.prog.ifacesRec ·)) : Bool) = true := by kernel_rfl
theorem TP : ((Rows.primTextsRow.mapsOut == Tryz.prog.mapsAmong Tryz.f6.resultTypes.toList) : Bool) = true := by kernel_rfl
theorem TQ : ((Rows.primTextsRow.loops == (Tryz.f6.params.toList ++ Rows.primTextsSpec.plain.varTypes Tryz.prog).any (Tryz.prog.loopsFrom ·)) : Bool) = true := by kernel_rfl
theorem TS : ((Rows.primTextsRow.wideKeys == (Tryz.f6.params.toList ++ Rows.primTextsSpec.plain.varTypes Tryz.prog ++ Tryz.f6.resultTypes.toList).any (Tryz.prog.wideKeysFrom ·)) : Bool) = true := by kernel_rfl
theorem TT : (Rows.primTextsSpec.vars.all (Tryz.prog.varReadable ·) : Bool) = true := by kernel_rfl
theorem TU : (Tryz.f6.resultTypes.all (fun t => Tryz.prog.readableRec t && decide (t < Tryz.prog.types.size)) : Bool) = true := by kernel_rfl
theorem TV : ((Rows.primTextsRow.ifacesOut == Tryz.f6.resultTypes.toList.any (Tryz.prog.ifacesRec ·)) : Bool) = true := by kernel_rfl
theorem TW : ((Rows.primTextsRow.loopsOut == Tryz.f6.resultTypes.toList.any (Tryz.prog.loopsFrom ·)) : Bool) = true := by kernel_rfl
theorem TX : ((Rows.primTextsRow.plainKeys == Tryz.prog.plainKeys) : Bool) = true := by kernel_rfl
theorem TY : (Rows.primTextsRow.shortTexts.isNone : Bool) = true := by kernel_rfl
theorem TZ : (Tryz.prog.stopsHeard : Bool) = true := by kernel_rfl
theorem T0 : (Tryz.prog.mayEnter : Bool) = true := by kernel_rfl
theorem T4 : ((Rows.primTextsRow.lifted == Tryz.prog.liftsFinal) : Bool) = true := by kernel_rfl
theorem T5 : ((Tryz.prog.make == some Rows.primTextsRow.make) : Bool) = true := by kernel_rfl
theorem T6 : ((Rows.primTextsRow.kinds == (if Rows.primTextsRow.domain.isEmpty then [] else Tryz.f6.params.toList.map fun t => match Tryz.prog.underlying t with | some (.int k) => some k | _ => none)) : Bool) = true := by kernel_rfl
theorem T7 : ((Rows.primTextsRow.pinned == Rows.primTextsRow.pinnedBy) : Bool) = true := by kernel_rfl
theorem T8 : ((Rows.primTextsRow.veiled == (Tryz.f6.params.toList ++ Rows.primTextsSpec.plain.varTypes Tryz.prog ++ Tryz.f6.resultTypes.toList).any (Tryz.prog.veiledRec ·)) : Bool) = true := by kernel_rfl
theorem T9 : (Rows.primTextsRow.veiledFits Tryz.prog Tryz.f6.params.toList (Tryz.f6.params.toList ++ Rows.primTextsSpec.plain.varTypes Tryz.prog ++ Tryz.f6.resultTypes.toList) : Bool) = true := by kernel_rfl
set_option maxRecDepth 100000 in
theorem Ta : joinedFacts Tryz.pinned.checked.prog 6 Tryz.f6 Rows.primTextsSpec Rows.primTextsRow = true := by
 unfold joinedFacts
 simp only [Bool.and_eq_true]
 exact ⟨⟨⟨⟨⟨⟨⟨⟨⟨⟨⟨⟨⟨⟨⟨⟨⟨⟨⟨⟨⟨⟨⟨⟨⟨⟨⟨⟨⟨⟨⟨TA, TB⟩, TC⟩, TD⟩, TE⟩, TF⟩, TG⟩, TH⟩, TI⟩, TJ⟩, TK⟩, TL⟩, TM⟩, TN⟩, TO⟩, TP⟩, TQ⟩, TS⟩, TT⟩, TU⟩, TV⟩, TW⟩, TX⟩, TY⟩, TZ⟩, T0⟩, T4⟩, T5⟩, T6⟩, T7⟩, T8⟩, T9⟩
theorem Tb : Tryz.f6.isInstance Tryz.pinned.checked.prog Rows.primTextsRow.origin Rows.primTextsRow.targs := of_decide_eq_true (by kernel_rfl)
theorem Tc : Tryz.f6.isWrapper Tryz.pinned.checked.prog Rows.primTextsRow.wrapper Rows.primTextsRow.mainSum := by
 unfold Func.isWrapper; first | (rw [if_pos (by decide +kernel)]; kernel_rfl) | (rw [if_neg (by decide +kernel)]; exact ⟨rfl, rfl⟩)
theorem Td : Rows.PrimTextsSaid :=
 OpenClaim.holds_of_cond 6 Tryz.f6 rfl rfl rfl rfl rfl rfl rfl ⟨rfl, rfl, rfl, rfl, rfl⟩ rfl rfl rfl rfl rfl Sz Tryz.func6 Ta Tb Tc
  (fun os started H enc _ F => by rw [OpenClaim.pre_eq_preRow]; exact Sy os started H enc F)
theorem primTexts_card : Rows.PrimTextsCardSaid :=
 Claim7.holds_tied_plain_at .later [] [.data, .data, .data, .data, .listed, .data, .pinned] true (true, "ea4f6b5ab0f0a490235b1b4dfac6ff680351ac7800976076e1933e8a1c5a3a5d") true Td (fun _ h => by cases h) (by kernel_rfl) (fun _ h => by cases h) primTexts_row_tie rfl ⟨rfl, rfl⟩ (by kernel_rfl) rfl
  (fun f fn hf hfn => by
   obtain rfl : f = 6 := Option.some.inj ((show Tryz.prog.funcNamed Rows.primTextsRow.func = some 6 by kernel_rfl).symm.trans hf) |>.symm
   obtain rfl : fn = Tryz.f6 := (Option.some.inj (Tryz.func6.symm.trans hfn)).symm
   exact ⟨by kernel_rfl, fun j t ht => by
    rw [Tryz.params6] at ht
    have hm : t ∈ [2, 4, 4] := by simpa using Array.mem_of_getElem? ht
    have hall : ([2, 4, 4] : List TypeId).all (fun t => !Tryz.prog.wantsStandIn t) = true := by kernel_rfl
    have h1 : Tryz.prog.wantsStandIn t = false := by simpa using List.all_eq_true.1 hall t hm
    exact h1⟩)
  (by kernel_rfl)

end Go.Proofs.YtilbjefgojocaaaGreatDoor
