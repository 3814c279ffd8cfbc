/- From a call over values without memory to a call in a world whose arguments are plain data. -/
import Derived.Test.YtilbjefgojocaaaGreatDoorProg
import Derived.Test.YtilbjefgojocaaaGreatDoorSxOk2
import Derived.Test.YtilbjefgojocaaaGreatDoorPvZ1
import Derived.ChangeShapes
import Derived.ReadAgain
import Derived.OpenShut
import Derived.MakeChecks
namespace Go.AM.PV
open Go Go.AM Go.Proofs
def bsE (l : List UInt8) : Value := .string ⟨l.toArray⟩
def ascOf (i : Nat) : Bool := Nat.beq i 9 || Nat.beq i 10 || Nat.beq i 11 || Nat.beq i 12 || Nat.beq i 13 || Nat.beq i 32
def asc : GRow := { g := 0, elem := 0, cells := (List.range 256).map fun i => .int .u8 (if ascOf i then 1 else 0) }
noncomputable def E0 : Env := { mkEnv Tryz.prog with ng := 1 }
noncomputable def E00 : Env := { mkEnv Tryz.prog with ng := 0 }
def runOf (E : Env) (f : Nat → TypeId) (k : Known) : Bool := knownRun k ((big E 100000).call k.f k.args (startSt (topOf k.looks) (withEl f k.looks)))
def words : List Value := [bsE [49, 50, 58, 100, 117, 112], bsE [49, 48, 58, 100, 114, 111, 112], bsE [50, 50, 58, 115, 119, 97, 112], bsE [50, 51, 58, 111, 118, 101, 114], bsE [51, 51, 58, 114, 111, 116], bsE [50, 49, 58, 110, 105, 112], bsE [50, 51, 58, 116, 117, 99, 107], bsE [50, 49, 58, 43], bsE [50, 49, 58, 45], bsE [50, 49, 58, 42], bsE [50, 49, 58, 47], bsE [50, 49, 58, 109, 111, 100], bsE [49, 49, 58, 110, 101, 103], bsE [49, 49, 58, 97, 98, 115], bsE [50, 49, 58, 109, 105, 110], bsE [50, 49, 58, 109, 97, 120], bsE [50, 49, 58, 60], bsE [50, 49, 58, 62], bsE [50, 49, 58, 61], bsE [50, 49, 58, 97, 110, 100], bsE [50, 49, 58, 111, 114], bsE [49, 49, 58, 110, 111, 116], bsE [49, 49, 58, 105, 110, 116, 63], bsE [49, 49, 58, 115, 116, 114, 63], bsE [49, 49, 58, 98, 111, 111, 108, 63], bsE [49, 49, 58, 108, 105, 115, 116, 63], bsE [49, 49, 58, 113, 117, 111, 116, 63], bsE [49, 49, 58, 98, 111, 120, 63], bsE [49, 49, 58, 108, 101, 110, 103, 116, 104], bsE [50, 49, 58, 97, 112, 112, 101, 110, 100], bsE [50, 49, 58, 110, 116, 104], bsE [51, 49, 58, 115, 108, 105, 99, 101], bsE [49, 49, 58, 119, 114, 97, 112], bsE [50, 49, 58, 112, 97, 105, 114], bsE [49, 50, 58, 117, 110, 112, 97, 105, 114], bsE [49, 49, 58, 114, 101, 118, 101, 114, 115, 101], bsE [50, 49, 58, 99, 117, 114, 114, 121], bsE [50, 49, 58, 99, 111, 109, 112, 111, 115, 101], bsE [49, 49, 58, 62, 115, 116, 114], bsE [49, 49, 58, 62, 105, 110, 116], bsE [99, 97, 108, 108], bsE [100, 105, 112], bsE [107, 101, 101, 112], bsE [105, 102], bsE [119, 104, 101, 110], bsE [116, 105, 109, 101, 115], bsE [101, 97, 99, 104], bsE [108, 111, 111, 112], bsE [49, 49, 58, 98, 111, 120], bsE [49, 49, 58, 103, 101, 116], bsE [50, 48, 58, 112, 117, 116], bsE [49, 48, 58, 46]]
def kF : Known := { f := 60, args := [bsE [49, 50, 58, 100, 117, 112, 32, 49, 48, 58, 100, 114, 111, 112, 32, 50, 50, 58, 115, 119, 97, 112, 32, 50, 51, 58, 111, 118, 101, 114, 32, 51, 51, 58, 114, 111, 116, 32, 50, 49, 58, 110, 105, 112, 32, 50, 51, 58, 116, 117, 99, 107, 32, 50, 49, 58, 43, 32, 50, 49, 58, 45, 32, 50, 49, 58, 42, 32, 50, 49, 58, 47, 32, 50, 49, 58, 109, 111, 100, 32, 49, 49, 58, 110, 101, 103, 32, 49, 49, 58, 97, 98, 115, 32, 50, 49, 58, 109, 105, 110, 32, 50, 49, 58, 109, 97, 120, 32, 50, 49, 58, 60, 32, 50, 49, 58, 62, 32, 50, 49, 58, 61, 32, 50, 49, 58, 97, 110, 100, 32, 50, 49, 58, 111, 114, 32, 49, 49, 58, 110, 111, 116, 32, 49, 49, 58, 105, 110, 116, 63, 32, 49, 49, 58, 115, 116, 114, 63, 32, 49, 49, 58, 98, 111, 111, 108, 63, 32, 49, 49, 58, 108, 105, 115, 116, 63, 32, 49, 49, 58, 113, 117, 111, 116, 63, 32, 49, 49, 58, 98, 111, 120, 63, 32, 49, 49, 58, 108, 101, 110, 103, 116, 104, 32, 50, 49, 58, 97, 112, 112, 101, 110, 100, 32, 50, 49, 58, 110, 116, 104, 32, 51, 49, 58, 115, 108, 105, 99, 101, 32, 49, 49, 58, 119, 114, 97, 112, 32, 50, 49, 58, 112, 97, 105, 114, 32, 49, 50, 58, 117, 110, 112, 97, 105, 114, 32, 49, 49, 58, 114, 101, 118, 101, 114, 115, 101, 32, 50, 49, 58, 99, 117, 114, 114, 121, 32, 50, 49, 58, 99, 111, 109, 112, 111, 115, 101, 32, 49, 49, 58, 62, 115, 116, 114, 32, 49, 49, 58, 62, 105, 110, 116, 32, 99, 97, 108, 108, 32, 100, 105, 112, 32, 107, 101, 101, 112, 32, 105, 102, 32, 119, 104, 101, 110, 32, 116, 105, 109, 101, 115, 32, 101, 97, 99, 104, 32, 108, 111, 111, 112, 32, 49, 49, 58, 98, 111, 120, 32, 49, 49, 58, 103, 101, 116, 32, 50, 48, 58, 112, 117, 116, 32, 49, 48, 58, 46]], looks := [asc], v := .slice (some ⟨1, 0, none⟩) 52 52, cnt := 2, objs := [{ b := 1, cells := words, elem := 9, esz := 0, opn := false, frz := 0, sb := false }] }
def cutOf (w a c : List UInt8) (ok : Bool) : Known := { f := 61, args := [bsE w, bsE [58]], looks := [], v := .tuple #[bsE a, bsE c, .bool ok], cnt := 20, objs := [] }
def cuts : List Known := [cutOf [49, 50, 58, 100, 117, 112] [49, 50] [100, 117, 112] true, cutOf [49, 48, 58, 100, 114, 111, 112] [49, 48] [100, 114, 111, 112] true, cutOf [50, 50, 58, 115, 119, 97, 112] [50, 50] [115, 119, 97, 112] true, cutOf [50, 51, 58, 111, 118, 101, 114] [50, 51] [111, 118, 101, 114] true, cutOf [51, 51, 58, 114, 111, 116] [51, 51] [114, 111, 116] true, cutOf [50, 49, 58, 110, 105, 112] [50, 49] [110, 105, 112] true, cutOf [50, 51, 58, 116, 117, 99, 107] [50, 51] [116, 117, 99, 107] true, cutOf [50, 49, 58, 43] [50, 49] [43] true, cutOf [50, 49, 58, 45] [50, 49] [45] true, cutOf [50, 49, 58, 42] [50, 49] [42] true, cutOf [50, 49, 58, 47] [50, 49] [47] true, cutOf [50, 49, 58, 109, 111, 100] [50, 49] [109, 111, 100] true, cutOf [49, 49, 58, 110, 101, 103] [49, 49] [110, 101, 103] true, cutOf [49, 49, 58, 97, 98, 115] [49, 49] [97, 98, 115] true, cutOf [50, 49, 58, 109, 105, 110] [50, 49] [109, 105, 110] true, cutOf [50, 49, 58, 109, 97, 120] [50, 49] [109, 97, 120] true, cutOf [50, 49, 58, 60] [50, 49] [60] true, cutOf [50, 49, 58, 62] [50, 49] [62] true, cutOf [50, 49, 58, 61] [50, 49] [61] true, cutOf [50, 49, 58, 97, 110, 100] [50, 49] [97, 110, 100] true, cutOf [50, 49, 58, 111, 114] [50, 49] [111, 114] true, cutOf [49, 49, 58, 110, 111, 116] [49, 49] [110, 111, 116] true, cutOf [49, 49, 58, 105, 110, 116, 63] [49, 49] [105, 110, 116, 63] true, cutOf [49, 49, 58, 115, 116, 114, 63] [49, 49] [115, 116, 114, 63] true, cutOf [49, 49, 58, 98, 111, 111, 108, 63] [49, 49] [98, 111, 111, 108, 63] true, cutOf [49, 49, 58, 108, 105, 115, 116, 63] [49, 49] [108, 105, 115, 116, 63] true, cutOf [49, 49, 58, 113, 117, 111, 116, 63] [49, 49] [113, 117, 111, 116, 63] true, cutOf [49, 49, 58, 98, 111, 120, 63] [49, 49] [98, 111, 120, 63] true, cutOf [49, 49, 58, 108, 101, 110, 103, 116, 104] [49, 49] [108, 101, 110, 103, 116, 104] true, cutOf [50, 49, 58, 97, 112, 112, 101, 110, 100] [50, 49] [97, 112, 112, 101, 110, 100] true, cutOf [50, 49, 58, 110, 116, 104] [50, 49] [110, 116, 104] true, cutOf [51, 49, 58, 115, 108, 105, 99, 101] [51, 49] [115, 108, 105, 99, 101] true, cutOf [49, 49, 58, 119, 114, 97, 112] [49, 49] [119, 114, 97, 112] true, cutOf [50, 49, 58, 112, 97, 105, 114] [50, 49] [112, 97, 105, 114] true, cutOf [49, 50, 58, 117, 110, 112, 97, 105, 114] [49, 50] [117, 110, 112, 97, 105, 114] true, cutOf [49, 49, 58, 114, 101, 118, 101, 114, 115, 101] [49, 49] [114, 101, 118, 101, 114, 115, 101] true, cutOf [50, 49, 58, 99, 117, 114, 114, 121] [50, 49] [99, 117, 114, 114, 121] true, cutOf [50, 49, 58, 99, 111, 109, 112, 111, 115, 101] [50, 49] [99, 111, 109, 112, 111, 115, 101] true, cutOf [49, 49, 58, 62, 115, 116, 114] [49, 49] [62, 115, 116, 114] true, cutOf [49, 49, 58, 62, 105, 110, 116] [49, 49] [62, 105, 110, 116] true, cutOf [99, 97, 108, 108] [99, 97, 108, 108] [] false, cutOf [100, 105, 112] [100, 105, 112] [] false, cutOf [107, 101, 101, 112] [107, 101, 101, 112] [] false, cutOf [105, 102] [105, 102] [] false, cutOf [119, 104, 101, 110] [119, 104, 101, 110] [] false, cutOf [116, 105, 109, 101, 115] [116, 105, 109, 101, 115] [] false, cutOf [101, 97, 99, 104] [101, 97, 99, 104] [] false, cutOf [108, 111, 111, 112] [108, 111, 111, 112] [] false, cutOf [49, 49, 58, 98, 111, 120] [49, 49] [98, 111, 120] true, cutOf [49, 49, 58, 103, 101, 116] [49, 49] [103, 101, 116] true, cutOf [50, 48, 58, 112, 117, 116] [50, 48] [112, 117, 116] true, cutOf [49, 48, 58, 46] [49, 48] [46] true]
set_option maxRecDepth 1000000
set_option maxHeartbeats 0
theorem kF_run (f : Nat → TypeId) : runOf E0 f kF = true := by kernel_rfl
theorem cuts_run (f : Nat → TypeId) : cuts.all (runOf E00 f) = true := by kernel_rfl
noncomputable def EK : Env := { E0 with known := kF :: cuts }
def k25 (l : List UInt8) : Known := { f := 25, args := [bsE l], looks := [asc], v := .tuple #[bsE [120], .bool true], cnt := 5000, objs := [] }
def k10 : Known := { f := 10, args := [], looks := [asc], v := .bool true, cnt := 9000, objs := [] }
def sixW : List (List UInt8) := [[105, 110, 116, 63], [115, 116, 114, 63], [98, 111, 111, 108, 63], [108, 105, 115, 116, 63], [113, 117, 111, 116, 63], [98, 111, 120, 63]]
theorem k10_run (f : Nat → TypeId) : runOf EK f k10 = true := by kernel_rfl
theorem k25_run (f : Nat → TypeId) : (sixW.map k25).all (runOf EK f) = true := by kernel_rfl
end Go.AM.PV
namespace Go.AM
section
variable {nm : Nm}
structure SRow where
 row : Row
 pl : Pl
def stOf (rows : List SRow) : St := { next := rows.length, h := T.ofList (rows.map fun r => AObj.row r.row), g := T.nil }
def emOf (rows : List SRow) : Emb := fun b => (rows[b]?).map (·.pl)
theorem stOf_get (rows : List SRow) (b : Nat) : (stOf rows).h.get b = (rows[b]?).map fun r => AObj.row r.row := by
 show (T.ofList _).get b = _
 rw [T.get_ofList, List.getElem?_map]
theorem startW_ok {rows : List SRow} {w : World} (h : ∀ r, r ∈ rows → r.row.own = false ∧ ∃ cs fz, RowR nm (emOf rows) w.heap r.pl r.row cs fz) :
  WR nm (fun b => w.heap[b]?) w (emOf rows) (stOf rows) w := by
 have hget : ∀ b o, (stOf rows).h.get b = some o → ∃ r, rows[b]? = some r ∧ o = .row r.row := by
  intro b o hb
  rw [stOf_get] at hb
  cases hr : rows[b]? with
  | none => rw [hr] at hb; cases hb
  | some r => rw [hr] at hb; cases hb; exact ⟨r, rfl, rfl⟩
 have hpl : ∀ b p, emOf rows b = some p → ∃ r, rows[b]? = some r ∧ p = r.pl := by
  intro b p hb
  unfold emOf at hb
  cases hr : rows[b]? with
  | none => rw [hr] at hb; cases hb
  | some r => rw [hr] at hb; cases hb; exact ⟨r, rfl, rfl⟩
 have hlt : ∀ r, r ∈ rows → r.pl.blk < w.heap.size := by
  intro r hr
  obtain ⟨_, cs, fz, k⟩ := h r hr
  have := k.blk
  rcases Nat.lt_or_ge r.pl.blk w.heap.size with g | g
  ·exact g
  ·rw [Array.getElem?_eq_none g] at this; cases this
 refine { dom := ?_, lt := ?_, obj := ?_, key := fun b o h => h, sep := ?_, tip := ?_, grp := ?_, env := ⟨rfl, rfl, rfl⟩, size := Nat.le_refl _, old := ?_ }
 ·intro b hb
  unfold emOf
  rw [List.getElem?_eq_none hb]
  rfl
 ·intro b p hb
  obtain ⟨r, h1, rfl⟩ := hpl b p hb
  exact hlt r (List.mem_of_getElem? h1)
 ·intro b o hb _
  obtain ⟨r, h1, rfl⟩ := hget b o hb
  obtain ⟨ho, cs, fz, k⟩ := h r (List.mem_of_getElem? h1)
  refine ⟨r.pl, by unfold emOf; rw [h1]; rfl, ⟨cs, fz, k⟩, ?_⟩
  show (w.heap[r.pl.blk]?).isNone = r.row.own
  rw [k.blk, ho]
  rfl
 ·intro b c o u p q hbc hb hc lo lu oo
  obtain ⟨r, h1, rfl⟩ := hget b o hb
  have : r.row.own = true := oo
  rw [(h r (List.mem_of_getElem? h1)).1] at this
  cases this
 ·intro g m ms hg
  rw [show (stOf rows).g = T.nil from rfl, nil_get] at hg
  cases hg
 ·intro g ms hg
  rw [show (stOf rows).g = T.nil from rfl, nil_get] at hg
  cases hg
 ·intro b o p hb hl ho hp
  obtain ⟨r, h1, rfl⟩ := hpl b p hp
  exact hlt r (List.mem_of_getElem? h1)
theorem calls_start {E : Env} {P : Program} (ok : EnvOk E P nm) {f : FuncId} {n : Nat} {rows : List SRow} {vs : List Value} {x : Value} {B : St} {w : World} {args : Array Value} (hr : (big E n).call f vs (stOf rows) = some (x, B)) (hx : plainV x = true)
  (h : ∀ r, r ∈ rows → r.row.own = false ∧ ∃ cs fz, RowR nm (emOf rows) w.heap r.pl r.row cs fz) (hg : Gl E (emOf rows)) (ha : LR nm (emOf rows) vs args.toList) :
  Calls P f args w fun e w' => e = .returned x ∧ w.keptBut w' (fun _ => False) ∧ w'.tape = w.tape := by
 refine Calls.mono ((big_ok ok n).2.2 f vs _ x B hr _ w _ w args (startW_ok h) hg ha) ?_
 rintro e w' ⟨φ', v', _, _, h', hv', rfl⟩
 rw [hv'.plainV_eq hx]
 exact ⟨rfl, keptBut_of_key rfl h', h'.env.1⟩
end
end Go.AM
namespace Go.AM.PV
open Go Go.AM Go.AM.SX
def belowN (n b : Nat) : Prop := b < n
theorem startRS {gl : List GRow} {rows : List SRow} {vs : List Value} {ps : List P} (hg : ∀ r, r ∈ gl → r.g < rows.length ∧ lookOk (stOf rows) r = true) (hv : RepL [] (belowN rows.length) (stOf rows).h vs ps) :
  RS gl (stOf rows) [] (belowN rows.length) noF vs ps [] [] [] where
 S_lt := fun _ h => h
 β_lt := fun _ h => by cases h
 F_lt := fun _ h => h.elim
 β_S := fun _ h => by cases h
 F_S := fun _ h => h.elim
 F_β := fun _ h => h.elim
 F_g := fun _ h => h.elim
 β_nd := .nil
 ginv := fun k _ => nil_get k
 glob := hg
 vars := .of hv
 objs := .nil
 nd := .nil
/-- A call that is known over values runs so in the world. -/
theorem PR.start {E : Env} {gl : List GRow} {f : FuncId} {rows : List SRow} {vs : List Value} {ps : List P} {x : Value} {μ : Mu} (h : PR E gl f ps [] (.c x) μ)
  (hg : ∀ r, r ∈ gl → r.g < rows.length ∧ lookOk (stOf rows) r = true) (hv : RepL [] (belowN rows.length) (stOf rows).h vs ps) : ∃ B, Runs E f vs (stOf rows) x B := by
 obtain ⟨v, B, β', S', gs', gm', h1, _, h3⟩ := h _ _ _ _ _ _ (startRS hg hv)
 have h4 : v = x := by
  have h5 := h3.vars
  cases h5 with
  | cons _ _ _ _ _ _ hr hn =>
   cases hn
   cases hr.1
   rfl
 subst h4
 exact ⟨B, h1⟩
end Go.AM.PV
namespace Go.AM.PV
open Go Go.AM Go.AM.SX

def fldsOk (Pg : Program) (ts : List TypeId) (n : Nat) : List Field → Nat → Bool
 | [], o => Nat.beq o n
 | f :: fs, o => Nat.beq f.offset o && ts.contains f.type && fldsOk Pg ts n fs (o + Pg.cellsOf f.type)
def typOk (Pg : Program) (ts : List TypeId) (t : TypeId) : Bool :=
 match Pg.underlying t with
 | some .bool => true
 | some .string => true
 | some (.int _) => true
 | some (.slice e) => ts.contains e && Nat.blt 0 (Pg.cellsOf e)
 | some (.struct fs) => fldsOk Pg ts (Pg.cellsOf t) fs.toList 0
 | _ => false
def typsOk (Pg : Program) (ts : List TypeId) : Bool := ts.all (typOk Pg ts)

mutual
/-- What data of a type are, cell by cell. -/
inductive Rd (Pg : Program) {H : Type} : TypeId → DataW H → List P → Prop where
 | bool (t : TypeId) (b : Bool) : Pg.underlying t = some .bool → Rd Pg t (.lit (.bool b)) [.c (.bool b)]
 | int (t : TypeId) (k : IntKind) (n : Int) : Pg.underlying t = some (.int k) → (Lit.int k n).wf = true → Rd Pg t (.lit (.int k n)) [.c (.int k n)]
 | str (t : TypeId) (s : ByteArray) : Pg.underlying t = some .string → s.size ≤ maxLen → Rd Pg t (.lit (.string s.data.toList)) [.c (.string s)]
 | nils (t e : TypeId) : Pg.underlying t = some (.slice e) → Rd Pg t .nil [.sl (Pg.cellsOf e) 0 []]
 | slice (t e : TypeId) (ds rest : List (DataW H)) (ps : List P) : Pg.underlying t = some (.slice e) → RdL Pg e ds ps → Rd Pg t (.slice ds rest) [.sl (Pg.cellsOf e) ds.length ps]
 | struct (t : TypeId) (fs : Array Field) (ds : List (DataW H)) (ps : List P) : Pg.underlying t = some (.struct fs) → RdF Pg fs.toList ds ps → Rd Pg t (.agg ds) ps
inductive RdL (Pg : Program) {H : Type} : TypeId → List (DataW H) → List P → Prop where
 | nil (e : TypeId) : RdL Pg e [] []
 | cons (e : TypeId) (d : DataW H) (ds : List (DataW H)) (p ps : List P) : Rd Pg e d p → RdL Pg e ds ps → RdL Pg e (d :: ds) (p ++ ps)
inductive RdF (Pg : Program) {H : Type} : List Field → List (DataW H) → List P → Prop where
 | nil : RdF Pg [] [] []
 | cons (f : Field) (fs : List Field) (d : DataW H) (ds : List (DataW H)) (p ps : List P) : Rd Pg f.type d p → RdF Pg fs ds ps → RdF Pg (f :: fs) (d :: ds) (p ++ ps)
end

section
variable {nm : Nm} {w : World}
def GoodR (nm : Nm) (w : World) (R : List SRow) : Prop := ∀ r, r ∈ R → r.row.own = false ∧ ∃ cs fz, RowR nm (emOf R) w.heap r.pl r.row cs fz
def CloR (R : List SRow) : Prop := ∃ r, R[0]? = some r ∧ r.row.opn = false
theorem emOf_le (R X : List SRow) : (emOf R).le (emOf (R ++ X)) := by
 intro b p h
 unfold emOf at h ⊢
 cases hr : R[b]? with
 | none => rw [hr] at h; cases h
 | some r =>
  have hb : b < R.length := (List.getElem?_eq_some_iff.1 hr).1
  rw [List.getElem?_append_left hb, hr]
  rw [hr] at h
  exact h
theorem stOf_ext (R X : List SRow) {b : Nat} (hb : b < R.length) : (stOf (R ++ X)).h.get b = (stOf R).h.get b := by
 rw [stOf_get, stOf_get, List.getElem?_append_left hb]
theorem belowN_le {R X : List SRow} : ∀ b, belowN R.length b → belowN (R ++ X).length b := by
 intro b hb
 unfold belowN at *
 rw [List.length_append]
 omega
theorem RepL.ext {R : List SRow} (X : List SRow) {vs : List Value} {ps : List P} (h : RepL [] (belowN R.length) (stOf R).h vs ps) : RepL [] (belowN (R ++ X).length) (stOf (R ++ X)).h vs ps :=
 h.mono belowN_le (fun b hb => stOf_ext R X hb) (fun _ _ h => h)
theorem GoodR.old {R : List SRow} (X : List SRow) (h : GoodR nm w R) : ∀ r, r ∈ R → r.row.own = false ∧ ∃ cs fz, RowR nm (emOf (R ++ X)) w.heap r.pl r.row cs fz := by
 intro r hr
 obtain ⟨h1, cs, fz, h2⟩ := h r hr
 exact ⟨h1, cs, fz, h2.mono (emOf_le R X)⟩
theorem CloR.ext {R : List SRow} (X : List SRow) (h : CloR R) : CloR (R ++ X) := by
 obtain ⟨r, h1, h2⟩ := h
 refine ⟨r, ?_, h2⟩
 rw [List.getElem?_append_left (List.getElem?_eq_some_iff.1 h1).1]
 exact h1
structure RdRes (nm : Nm) (w : World) (R X : List SRow) (vs : List Value) (ps : List P) (cs : List Value) : Prop where
 good : GoodR nm w (R ++ X)
 rep : RepL [] (belowN (R ++ X).length) (stOf (R ++ X)).h vs ps
 rel : LR nm (emOf (R ++ X)) vs cs
 ones : vs.all one = true
theorem RdRes.app {R X Y : List SRow} {vs vs' : List Value} {ps ps' : List P} {cs cs' : List Value} (h : RdRes nm w R X vs ps cs) (k : RdRes nm w (R ++ X) Y vs' ps' cs') : RdRes nm w R (X ++ Y) (vs ++ vs') (ps ++ ps') (cs ++ cs') where
 good := by rw [← List.append_assoc]; exact k.good
 rep := by rw [← List.append_assoc]; exact (h.rep.ext Y).append k.rep
 rel := by rw [← List.append_assoc]; exact (h.rel.mono (emOf_le _ _)).append k.rel
 ones := by rw [List.all_append, h.ones, k.ones]; rfl
theorem RdRes.none {R : List SRow} (h : GoodR nm w R) : RdRes nm w R [] [] [] [] where
 good := by rw [List.append_nil]; exact h
 rep := .nil
 rel := .nil
 ones := rfl
theorem RdRes.one {R : List SRow} (h : GoodR nm w R) {v v' : Value} {p : P} (h1 : Rep [] (belowN R.length) (stOf R).h v p) (h2 : VR nm (emOf R) v v') (h3 : AM.one v = true) : RdRes nm w R [] [v] [p] [v'] where
 good := by rw [List.append_nil]; exact h
 rep := by rw [List.append_nil]; exact .one h1
 rel := by rw [List.append_nil]; exact .cons h2 .nil
 ones := by simp only [List.all_cons, h3, List.all_nil, Bool.and_self]
end

section
variable {nm : Nm} {H : Type} {enc : TypeId × Value → H} {Pg : Program} {w : World} {ts : List TypeId}
theorem add_add {a : Addr} (h : a.spot = none) (i j : Nat) : (a.add i).add j = ⟨a.block, a.off + (i + j), none⟩ := by
 obtain ⟨b, o, s⟩ := a
 simp only at h
 subst h
 rw [Go.WideShapes.add_plain, Go.WideShapes.add_plain, Nat.add_assoc]
/-- Elements, one behind the other. -/
theorem read_elems {e : TypeId} {n : Nat} (ih : ∀ (cs : List Value) (x : DataW H × List MemPlace), DataW.trod enc Pg w 0 (fun _ => true) true n e cs = some x → ∀ R, GoodR nm w R → CloR R → ∃ X vs ps, Rd Pg e x.1 ps ∧ RdRes nm w R X vs ps cs) {a : Addr} (ha : a.spot = none) :
  ∀ (xs : List (DataW H × List MemPlace)) (j : Nat), (∀ i, i < xs.length → (w.cells? 0 (a.add ((j + i) * Pg.cellsOf e)) (Pg.cellsOf e)).bind (DataW.trod enc Pg w 0 (fun _ => true) true n e) = xs[i]?) → ∀ R, GoodR nm w R → CloR R →
   ∃ X vs ps cs, RdL Pg e (xs.map (·.1)) ps ∧ RdRes nm w R X vs ps cs ∧ cs.length = xs.length * Pg.cellsOf e ∧ ∀ i, i < cs.length → w.cell? ⟨a.block, a.off + (j * Pg.cellsOf e + i), none⟩ = cs[i]?
 | [], j, _, R, hR, _ => ⟨[], [], [], [], .nil e, .none hR, by simp, fun i hi => by simp at hi⟩
 | x :: xs, j, h, R, hR, hC => by
  have h0 := h 0 (by simp)
  simp only [Nat.add_zero, List.getElem?_cons_zero, Option.bind_eq_some_iff] at h0
  obtain ⟨c1, h1, h2⟩ := h0
  obtain ⟨_, l1, g1⟩ := World.cells?_some h1
  obtain ⟨X, vs, ps, k1, k2⟩ := ih c1 x h2 R hR hC
  obtain ⟨Y, vs', ps', cs', m1, m2, m3, m4⟩ := read_elems ih ha xs (j + 1) (fun i hi => by
   have := h (i + 1) (by simpa using hi)
   rw [List.getElem?_cons_succ] at this
   rw [← this, show j + 1 + i = j + (i + 1) by omega]) (R ++ X) k2.good (hC.ext X)
  refine ⟨X ++ Y, vs ++ vs', ps ++ ps', c1 ++ cs', .cons e x.1 _ ps ps' k1 m1, k2.app m2, ?_, ?_⟩
  ·rw [List.length_append, m3, l1, List.length_cons, Nat.add_mul]; omega
  ·intro i hi
   rw [List.length_append] at hi
   rcases Nat.lt_or_ge i c1.length with g | g
   ·rw [List.getElem?_append_left g]
    have := g1 i (by omega)
    rw [add_add ha] at this
    exact this
   ·rw [List.getElem?_append_right g]
    have := m4 (i - c1.length) (by omega)
    rw [← this]
    congr 2
    rw [Nat.add_mul]
    omega
theorem read_flds {n N : Nat} {cs : List Value} (ih : ∀ (t : TypeId) (cs : List Value) (x : DataW H × List MemPlace), t ∈ ts → DataW.trod enc Pg w 0 (fun _ => true) true n t cs = some x → ∀ R, GoodR nm w R → CloR R → ∃ X vs ps, Rd Pg t x.1 ps ∧ RdRes nm w R X vs ps cs) (hN : cs.length = N) :
  ∀ (fs : List Field) (o : Nat) (xs : List (DataW H × List MemPlace)), fldsOk Pg ts N fs o = true → xs.length = fs.length → (∀ (i : Nat) (f : Field), fs[i]? = some f → DataW.trod enc Pg w 0 (fun _ => true) true n f.type ((cs.drop f.offset).take (Pg.cellsOf f.type)) = xs[i]?) → ∀ R, GoodR nm w R → CloR R →
   ∃ X vs ps, RdF Pg fs (xs.map (·.1)) ps ∧ RdRes nm w R X vs ps (cs.drop o)
 | [], o, xs, hok, hl, _, R, hR, _ => by
  cases xs with
  | cons => simp at hl
  | nil =>
   have : o = N := Nat.eq_of_beq_eq_true hok
   refine ⟨[], [], [], .nil, ?_⟩
   rw [List.drop_of_length_le (by omega)]
   exact .none hR
 | f :: fs, o, [], _, hl, _, _, _, _ => by simp at hl
 | f :: fs, o, x :: xs, hok, hl, h, R, hR, hC => by
  simp only [fldsOk, Bool.and_eq_true] at hok
  obtain ⟨⟨e1, e2⟩, e3⟩ := hok
  have e1 : f.offset = o := Nat.eq_of_beq_eq_true e1
  have h0 := h 0 f rfl
  rw [List.getElem?_cons_zero] at h0
  obtain ⟨X, vs, ps, k1, k2⟩ := ih f.type _ x (List.contains_iff_mem.1 e2) h0 R hR hC
  obtain ⟨Y, vs', ps', m1, m2⟩ := read_flds ih hN fs (o + Pg.cellsOf f.type) xs e3 (by simpa using hl) (fun i g hg => by
   have := h (i + 1) g (by rw [List.getElem?_cons_succ]; exact hg)
   rw [List.getElem?_cons_succ] at this
   exact this) (R ++ X) k2.good (hC.ext X)
  refine ⟨X ++ Y, vs ++ vs', ps ++ ps', .cons f fs x.1 _ ps ps' k1 m1, ?_⟩
  have := k2.app m2
  rw [e1] at this
  have e4 : (cs.drop o).take (Pg.cellsOf f.type) ++ cs.drop (o + Pg.cellsOf f.type) = cs.drop o := by
   rw [← List.drop_drop, List.take_append_drop]
  rw [e4] at this
  exact this
theorem read_ok (hts : typsOk Pg ts = true) : ∀ (n : Nat) (t : TypeId) (cs : List Value) (x : DataW H × List MemPlace), t ∈ ts → DataW.trod enc Pg w 0 (fun _ => true) true n t cs = some x → ∀ R, GoodR nm w R → CloR R → ∃ X vs ps, Rd Pg t x.1 ps ∧ RdRes nm w R X vs ps cs
 | 0, _, _, _, _, h, _, _, _ => by simp [DataW.trod] at h
 | n + 1, t, cs, x, ht, h, R, hR, hC => by
  have hok := List.all_eq_true.1 hts t ht
  unfold typOk at hok
  split at hok
  ·rename_i hu
   obtain ⟨b, rfl, rfl⟩ := DataW.trod_bool hu h
   exact ⟨[], _, _, .bool t b hu, .one hR (.c _) (.bool b) rfl⟩
  ·rename_i hu
   obtain ⟨s, rfl, rfl, hs⟩ := DataW.trod_string hu h
   exact ⟨[], _, _, .str t s hu hs, .one hR (.c _) (.str s) rfl⟩
  ·rename_i k hu
   obtain ⟨z, rfl, rfl, hz⟩ := DataW.trod_int hu h
   exact ⟨[], _, _, .int t k z hu hz, .one hR (.c _) (.int k z) rfl⟩
  ·rename_i e hu
   simp only [Bool.and_eq_true] at hok
   have he := List.contains_iff_mem.1 hok.1
   have hsz : 0 < Pg.cellsOf e := Nat.le_of_ble_eq_true hok.2
   rcases DataW.trod_slice hu h with ⟨rfl, rfl⟩ | ⟨a, len, cap, elems, rest, m, hm, rfl, rfl, _, hlc, _, hel, hin, hrest, _⟩
   ·exact ⟨[], _, _, .nils t e hu, .one hR (.nil _) (.nils 0 0) rfl⟩
   ·obtain rfl : n = m := by omega
    obtain ⟨hrl, hrin⟩ := hrest rfl
    have ih := fun cs x => read_ok hts n e cs x he
    by_cases hcap : cap = 0
    ·obtain ⟨r0, hr0, hr1⟩ := hC
     have hlen : len = 0 := by omega
     subst hlen
     subst hcap
     have hel0 : elems = [] := List.eq_nil_of_length_eq_zero hel
     subst hel0
     obtain ⟨_, cs0, fz0, hr2⟩ := hR r0 (List.mem_of_getElem? hr0)
     refine ⟨[], [.slice (some ⟨0, 0, none⟩) 0 0], _, .slice t e [] _ [] hu (.nil e), .one hR ?_ ?_ rfl⟩
     ·refine .sl ⟨0, 0, none⟩ _ 0 0 [] [] (List.getElem?_eq_some_iff.1 hr0).1 ⟨rfl, r0.row, ?_, (fun ho => by rw [hr1] at ho; cases ho), by simp, rfl, fun i hi => by simp at hi⟩ (by simp) (Nat.le_refl _) .nil
      show (stOf R).h.get 0 = _
      rw [stOf_get, hr0]
      rfl
     ·have hp : emOf R 0 = some r0.pl := by
       unfold emOf; rw [hr0]; rfl
      have hop : r0.pl.opn = false := by rw [hr2.opn]; exact hr1
      exact .slc ⟨0, 0, none⟩ a 0 0 0 r0.pl hp rfl (.inl rfl) (.inl rfl) (.inl rfl) (fun _ => rfl) (fun ho => by rw [hop] at ho; cases ho) (Nat.le_refl _)
    ·have slot : ∀ k, k < cap → ∃ c1, w.cells? 0 (a.add (k * Pg.cellsOf e)) (Pg.cellsOf e) = some c1 := by
      intro k hk
      rcases Nat.lt_or_ge k len with g | g
      ·have h1 := hin k g
       rw [List.getElem?_eq_getElem (by omega), Option.bind_eq_some_iff] at h1
       exact ⟨_, h1.choose_spec.1⟩
      ·have h1 := hrin (k - len) (by omega)
       rw [List.getElem?_eq_getElem (by omega), Option.bind_eq_some_iff, show len + (k - len) = k by omega] at h1
       exact ⟨_, h1.choose_spec.1⟩
     obtain ⟨c1, hc1⟩ := slot 0 (by omega)
     obtain ⟨_, l1, g1⟩ := World.cells?_some hc1
     have g1 := g1 0 hsz
     rw [List.getElem?_eq_getElem (by omega), Nat.zero_mul] at g1
     have ha : a.spot = none := by simpa [Addr.add] using World.cell?_spot g1
     obtain ⟨c2, hc2⟩ := slot (cap - 1) (by omega)
     obtain ⟨_, l2, g2⟩ := World.cells?_some hc2
     have g2 := g2 (Pg.cellsOf e - 1) (by omega)
     rw [List.getElem?_eq_getElem (by omega), add_add ha] at g2
     obtain ⟨cs0, el, fz, hb⟩ : ∃ cs0 el fz, w.heap[a.block]? = some (.cells cs0 el fz) := by
      unfold World.cell? at g2
      split at g2
      ·rename_i c t0 fz0 hb
       exact ⟨c, t0, fz0, hb⟩
      ·cases g2
     have hcell : ∀ i, w.cell? ⟨a.block, i, none⟩ = cs0[i]? := fun i => by
      unfold World.cell?
      rw [hb]
      rfl
     rw [hcell] at g2
     have hfit : a.off + cap * Pg.cellsOf e ≤ cs0.size := by
      have h1 := (Array.getElem?_eq_some_iff.1 g2).1
      have h2 : cap * Pg.cellsOf e = (cap - 1) * Pg.cellsOf e + Pg.cellsOf e := by
       obtain ⟨c, rfl⟩ : ∃ c, cap = c + 1 := ⟨cap - 1, by omega⟩
       rw [Nat.add_mul]; simp
      omega
     obtain ⟨X, vs, ps, cs, k1, k2, k3, k4⟩ := read_elems ih ha elems 0 (fun i hi => by rw [Nat.zero_add]; exact hin i (by omega)) R hR hC
     rw [hel] at k3
     have hvl : vs.length = len * Pg.cellsOf e := by rw [k2.rel.length, k3]
     have hle : len * Pg.cellsOf e ≤ cap * Pg.cellsOf e := Nat.mul_le_mul_right _ hlc
     let s : SRow := { row := { own := false, size := len * Pg.cellsOf e, cells := T.ofList vs, elem := el, esz := Pg.cellsOf e, opn := true, grp := 0, frz := 0, sb := false }, pl := { blk := a.block, off := a.off, csz := cs0.size, esz := Pg.cellsOf e, opn := true } }
     have hs : (R ++ X ++ [s])[(R ++ X).length]? = some s := by rw [List.getElem?_append_right (Nat.le_refl _), Nat.sub_self]; rfl
     have hgood : GoodR nm w (R ++ X ++ [s]) := by
      intro r hr
      rcases List.mem_append.1 hr with hr | hr
      ·exact k2.good.old [s] r hr
      ·obtain rfl := List.mem_singleton.1 hr
       refine ⟨rfl, cs0, fz, { blk := hb, csz := rfl, opn := rfl, esz := fun _ => rfl, fit := Nat.le_trans (Nat.add_le_add_left hle _) hfit, cell := fun i hi => ?_, frz := (fun h => by cases h), sb := (fun h => by cases h), exact := (fun h => by cases h) }⟩
       have hi2 : i < len * Pg.cellsOf e := hi
       obtain ⟨v', hv1, hv2⟩ := k2.rel.get? (List.getElem?_eq_getElem (by omega : i < vs.length))
       refine ⟨vs[i], (T.get_ofList _ _).trans (List.getElem?_eq_getElem (by omega)), ?_⟩
       have h1 := k4 i (by omega)
       rw [hv1, hcell, Nat.zero_mul, Nat.zero_add] at h1
       have h2 : cs0.getD (a.off + i) undef = v' := by
        rw [Array.getD_eq_getD_getElem?, h1]; rfl
       show VR nm _ _ (cs0.getD (a.off + i) undef)
       rw [h2]
       exact hv2.mono (emOf_le _ _)
     have hrep := k2.rep.ext [s]
     refine ⟨X ++ [s], [.slice (some ⟨(R ++ X).length, 0, none⟩) len len], _, .slice t e (elems.map (·.1)) _ ps hu k1, ?_⟩
     constructor
     ·rw [← List.append_assoc]; exact hgood
     ·rw [← List.append_assoc, List.length_map, hel]
      refine .one (.sl _ _ _ _ vs ps ?_ ⟨rfl, s.row, ?_, fun _ => rfl, ?_, k2.ones, fun i hi => ?_⟩ hvl (Nat.le_refl _) hrep)
      ·show (R ++ X).length < (R ++ X ++ [s]).length
       simp
      ·show (stOf (R ++ X ++ [s])).h.get (R ++ X).length = _
       rw [stOf_get, hs]
       rfl
      ·show 0 + vs.length ≤ len * Pg.cellsOf e
       omega
      ·show (T.ofList vs).get (0 + i) = _
       rw [T.get_ofList, Nat.zero_add]
     ·rw [← List.append_assoc]
      refine .cons (.slc _ a len len cap s.pl ?_ rfl (.inr rfl) (.inr ha) (.inr rfl) (fun h => by cases h) (fun _ => ⟨hlc, hfit⟩) (Nat.le_refl _)) .nil
      show emOf (R ++ X ++ [s]) (R ++ X).length = _
      unfold emOf
      rw [hs]
      rfl
     ·rfl
  ·rename_i fs hu
   obtain ⟨xs, m, hm, rfl, hlen, hxl, hf⟩ := DataW.trod_struct hu h
   obtain rfl : n = m := by omega
   obtain ⟨X, vs, ps, k1, k2⟩ := read_flds (n := n) (fun t cs x ht => read_ok hts n t cs x ht) hlen fs.toList 0 xs hok (by simpa using hxl) (fun i f hi => hf i f (by simpa using hi)) R hR hC
   exact ⟨X, vs, ps, .struct t fs _ ps hu k1, k2⟩
  ·cases hok
end
end Go.AM.PV
namespace Go.AM
open Go
section
variable {H : Type} {enc : TypeId × Value → H} {Pg : Program} {w : World} {base : Nat} {spare : Nat → Bool} {held : Bool}
def mapO {α β : Type} (f : α → Option β) : List α → Option (List β)
 | [] => some []
 | x :: l => match f x, mapO f l with
  | some y, some ys => some (y :: ys)
  | _, _ => none
theorem mapO_len {α β : Type} {f : α → Option β} : ∀ {l : List α} {r : List β}, mapO f l = some r → r.length = l.length
 | [], r, h => by simp only [mapO, Option.some.injEq] at h; subst h; rfl
 | x :: l, r, h => by
  simp only [mapO] at h
  split at h
  ·rename_i y ys h1 h2
   simp only [Option.some.injEq] at h
   subst h
   simp only [List.length_cons, mapO_len h2]
  ·cases h
theorem mapO_at {α β : Type} {f : α → Option β} : ∀ {l : List α} {r : List β}, mapO f l = some r → ∀ (i : Nat) (x : α), l[i]? = some x → ∃ y, r[i]? = some y ∧ f x = some y
 | [], r, h, i, x, hi => by simp at hi
 | x :: l, r, h, i, z, hi => by
  simp only [mapO] at h
  split at h
  ·rename_i y ys h1 h2
   simp only [Option.some.injEq] at h
   subst h
   cases i with
   | zero => simp only [List.getElem?_cons_zero, Option.some.injEq] at hi; subst hi; exact ⟨y, rfl, h1⟩
   | succ i => rw [List.getElem?_cons_succ] at hi ⊢; exact mapO_at h2 i z hi
  ·cases h
/-- The cells of data: numbers, flags, arrays and structs of such. -/
def cellsD (Pg : Program) : Nat → TypeId → DataW H → Option (List Value)
 | 0, _, _ => none
 | n + 1, t, d => match Pg.underlying t, d with
  | some .bool, .lit (.bool b) => some [.bool b]
  | some (.int _), .lit (.int k z) => some [.int k z]
  | some (.array m e), .agg ds => match mapO (cellsD Pg n e) ds with
   | some ls => if ls.all (fun l => Nat.beq l.length (Pg.cellsOf e)) && Nat.beq ds.length m && Nat.beq (Pg.cellsOf t) (m * Pg.cellsOf e) then some ls.flatten else none
   | none => none
  | some (.struct fs), .agg ds => match mapO (fun x : Field × DataW H => match cellsD Pg n x.1.type x.2 with
    | some l => if Nat.beq l.length 1 && Nat.beq (Pg.cellsOf x.1.type) 1 then some l else none
    | none => none) (fs.toList.zip ds) with
   | some ls => if Nat.beq ds.length fs.size && Nat.beq (Pg.cellsOf t) fs.size && (fs.toList.zipIdx.all fun x => Nat.beq x.1.offset x.2) then some ls.flatten else none
   | none => none
  | _, _ => none
theorem chunks {sz : Nat} : ∀ {ls : List (List Value)} {cs : List Value}, (∀ (i : Nat) (l : List Value), ls[i]? = some l → (cs.drop (i * sz)).take sz = l) → (∀ (i : Nat) (l : List Value), ls[i]? = some l → l.length = sz) → cs.length = ls.length * sz → cs = ls.flatten
 | [], cs, _, _, hl => by
  have : cs.length = 0 := by simpa using hl
  rw [List.eq_nil_of_length_eq_zero this]; rfl
 | l :: ls, cs, h, hs, hl => by
  have h0 := h 0 l rfl
  rw [Nat.zero_mul, List.drop_zero] at h0
  have h1 : cs.drop sz = ls.flatten := by
   refine chunks (sz := sz) (fun i m hi => ?_) (fun i m hi => hs (i + 1) m (by rw [List.getElem?_cons_succ]; exact hi)) ?_
   ·have := h (i + 1) m (by rw [List.getElem?_cons_succ]; exact hi)
    rw [List.drop_drop, ← this, Nat.add_mul, Nat.one_mul, Nat.add_comm]
   ·rw [List.length_drop, hl, List.length_cons, Nat.add_mul, Nat.one_mul]; omega
  rw [List.flatten_cons, ← h1, ← h0, List.take_append_drop]
theorem cellsD_ok : ∀ (n fuel : Nat) (t : TypeId) (cs : List Value) (d : DataW H) (p : List MemPlace) (l : List Value), DataW.trod enc Pg w base spare held fuel t cs = some (d, p) → cellsD Pg n t d = some l → cs = l
 | 0, _, _, _, _, _, _, _, h => by simp [cellsD] at h
 | n + 1, fuel, t, cs, d, p, l, ht, h => by
  simp only [cellsD] at h
  split at h
  ·rename_i b hu
   obtain ⟨b', rfl, e⟩ := DataW.trod_bool hu ht
   simp only [Prod.mk.injEq, DataW.lit.injEq, Lit.bool.injEq] at e
   rw [← e.1]; simpa using h
  ·rename_i k' k z hu
   obtain ⟨z', rfl, e, _⟩ := DataW.trod_int hu ht
   simp only [Prod.mk.injEq, DataW.lit.injEq, Lit.int.injEq] at e
   obtain ⟨⟨rfl, rfl⟩, _⟩ := e
   simpa using h
  ·rename_i m e ds hu
   split at h
   ·rename_i ls hls
    split at h
    ·rename_i hc
     simp only [Bool.and_eq_true] at hc
     obtain ⟨⟨c1, c2⟩, c3⟩ := hc
     cases h
     obtain ⟨xs, f', _, hx, hlen, hxl, hel⟩ := DataW.trod_array hu ht
     simp only [Prod.mk.injEq, DataW.agg.injEq] at hx
     have hds : ds = xs.map (·.1) := hx.1
     have hll := mapO_len hls
     have hmd : ds.length = m := Nat.eq_of_beq_eq_true c2
     refine chunks (sz := Pg.cellsOf e) (fun i r hi => ?_) (fun i r hi => Nat.eq_of_beq_eq_true (List.all_eq_true.1 c1 r (List.mem_of_getElem? hi))) (by rw [hlen, Nat.eq_of_beq_eq_true c3, hll, hmd])
     have hi' : i < ls.length := (List.getElem?_eq_some_iff.1 hi).1
     have hix : i < xs.length := by omega
     have h1 := hel i (by omega)
     rw [List.getElem?_eq_getElem hix] at h1
     obtain ⟨y, hy1, hy2⟩ := mapO_at hls i xs[i].1 (by rw [hds, List.getElem?_map, List.getElem?_eq_getElem hix]; rfl)
     rw [hi] at hy1
     cases hy1
     exact cellsD_ok n _ e _ xs[i].1 xs[i].2 r h1 hy2
    ·cases h
   ·cases h
  ·rename_i fs ds hu
   split at h
   ·rename_i ls hls
    split at h
    ·rename_i hc
     simp only [Bool.and_eq_true] at hc
     obtain ⟨⟨c1, c2⟩, c3⟩ := hc
     cases h
     obtain ⟨xs, f', _, hx, hlen, hxl, hel⟩ := DataW.trod_struct hu ht
     simp only [Prod.mk.injEq, DataW.agg.injEq] at hx
     have hds : ds = xs.map (·.1) := hx.1
     have hll := mapO_len hls
     have hmd : ds.length = fs.size := Nat.eq_of_beq_eq_true c1
     have hzl : (fs.toList.zip ds).length = fs.size := by rw [List.length_zip, hmd]; simp
     have key : ∀ (i : Nat) (r : List Value), ls[i]? = some r → (cs.drop (i * 1)).take 1 = r ∧ r.length = 1 := by
      intro i r hi
      have hi' : i < ls.length := (List.getElem?_eq_some_iff.1 hi).1
      have hix : i < xs.length := by omega
      have hif : i < fs.size := by omega
      have hz : (fs.toList.zip ds)[i]? = some (fs[i], xs[i].1) := by
       rw [List.getElem?_zip_eq_some]
       refine ⟨by simp [hif], ?_⟩
       show ds[i]? = some xs[i].1
       rw [hds, List.getElem?_map, List.getElem?_eq_getElem hix]; rfl
      obtain ⟨y, hy1, hy2⟩ := mapO_at hls i _ hz
      rw [hi] at hy1
      cases hy1
      dsimp only at hy2
      split at hy2
      ·rename_i l' hl'
       split at hy2
       ·rename_i hc'
        simp only [Bool.and_eq_true] at hc'
        cases hy2
        have h1 := hel i fs[i] (by simp [hif])
        rw [List.getElem?_eq_getElem hix, Nat.eq_of_beq_eq_true hc'.2] at h1
        have ho : fs[i].offset = i := Nat.eq_of_beq_eq_true (List.all_eq_true.1 c3 (fs[i], i) (by
         rw [List.mem_zipIdx_iff_getElem?]
         simp [hif]))
        rw [ho] at h1
        rw [Nat.mul_one]
        exact ⟨cellsD_ok n _ _ _ xs[i].1 xs[i].2 r h1 hl', Nat.eq_of_beq_eq_true hc'.1⟩
       ·cases hy2
      ·cases hy2
     exact chunks (sz := 1) (fun i r hi => (key i r hi).1) (fun i r hi => (key i r hi).2) (by rw [hlen, Nat.eq_of_beq_eq_true c2, hll, hzl, Nat.mul_one])
    ·cases h
   ·cases h
  ·cases h
end
/-- A listed variable's row. -/
theorem laid_at {Pg : Program} {w : World} {x : String} {d : DataW Unit} {g n : Nat} {t : TypeId} {l : List Value} : ∀ {laid : List (String × DataW Unit)}, laidMet Pg laid w → (x, d) ∈ laid → Pg.globalNamed x = some g → (Pg.globals[g]?).map (·.type) = some t → cellsD Pg n t d = some l →
  ∃ t' fz, w.heap[g]? = some (.cells l.toArray t' fz) := by
 intro laid hm hx hg ht hl
 obtain ⟨ps, hv, h2⟩ := hm
 clear h2
 induction laid generalizing ps with
 | nil => cases hx
 | cons y laid ih =>
  obtain ⟨y1, y2⟩ := y
  obtain ⟨g', t', cs, fuel, p, q, e1, e2, e3, e4, e5, _⟩ := hv
  rcases List.mem_cons.1 hx with e | hx
  ·cases e
   rw [hg] at e1; cases e1
   rw [ht] at e2; cases e2
   have hcs := cellsD_ok n fuel t cs.toList d p l e4 hl
   have hcs2 : cs = l.toArray := Array.ext' (by simpa using hcs)
   simp only [World.var?, hg, Option.bind_some] at e3
   split at e3
   ·rename_i c2 t2 fz hh
    cases e3
    rw [hcs2] at hh
    exact ⟨t2, fz, hh⟩
   ·cases e3
  ·exact ih hx q e5
end Go.AM
namespace Go.AM.PV
open Go Go.AM Go.AM.SX

/-- What an argument is. -/
inductive RdV (Pg : Program) {H : Type} : TypeId → DataW H → P → Prop where
 | one (t : TypeId) (d : DataW H) (p : P) : (∀ fs, Pg.underlying t ≠ some (.struct fs)) → Rd Pg t d [p] → RdV Pg t d p
 | agg (t : TypeId) (fs : Array Field) (d : DataW H) (ps : List P) : Pg.underlying t = some (.struct fs) → Rd Pg t d ps → RdV Pg t d (.agg ps)
inductive RdA (Pg : Program) {H : Type} : List TypeId → List (DataW H) → List P → Prop where
 | nil : RdA Pg [] [] []
 | cons (t : TypeId) (ts : List TypeId) (d : DataW H) (ds : List (DataW H)) (p : P) (ps : List P) : RdV Pg t d p → RdA Pg ts ds ps → RdA Pg (t :: ts) (d :: ds) (p :: ps)

section
variable {nm : Nm} {H : Type} {enc : TypeId × Value → H} {Pg : Program} {w : World} {ts : List TypeId}
theorem read_arg (hts : typsOk Pg ts = true) {t : TypeId} {v : Value} {d : DataW H} {p : List MemPlace} (ht : t ∈ ts) (h : DataW.Trod enc Pg w 0 (fun _ => true) true t v d p) {base : Nat} (hv : Value.okWide Pg w .any base t v) {R : List SRow} (hR : GoodR nm w R) (hC : CloR R) :
  ∃ X v0 q, RdV Pg t d q ∧ GoodR nm w (R ++ X) ∧ Rep [] (belowN (R ++ X).length) (stOf (R ++ X)).h v0 q ∧ VR nm (emOf (R ++ X)) v0 v := by
 obtain ⟨n, hn⟩ := h
 obtain ⟨X, vs, ps, k1, k2⟩ := read_ok (nm := nm) hts n t _ _ ht hn R hR hC
 have hsc : (∀ fs, Pg.underlying t ≠ some (.struct fs)) → v.cells.toList = [v] → ∃ X v0 q, RdV Pg t d q ∧ GoodR nm w (R ++ X) ∧ Rep [] (belowN (R ++ X).length) (stOf (R ++ X)).h v0 q ∧ VR nm (emOf (R ++ X)) v0 v := by
  intro hns hc
  have hrel := k2.rel
  rw [hc] at hrel
  have hl : vs.length = 1 := hrel.length
  obtain ⟨v0, rfl⟩ : ∃ v0, vs = [v0] := by
   match vs, hl with
   | [v0], _ => exact ⟨v0, rfl⟩
  have hrep := k2.rep
  cases hrep with
  | cons _ q _ qs h1 h2 =>
   cases h2
   exact ⟨X, v0, q, .one t d q hns k1, k2.good, h1, hrel.head⟩
 have hok := List.all_eq_true.1 hts t ht
 unfold typOk at hok
 split at hok
 ·rename_i hu
  obtain ⟨b, rfl⟩ := Go.WideShapes.okWide_bool hu hv
  exact hsc (fun fs => by rw [hu]; exact fun e => by cases e) rfl
 ·rename_i hu
  obtain ⟨b, rfl⟩ := Go.WideShapes.okWide_string hu hv
  exact hsc (fun fs => by rw [hu]; exact fun e => by cases e) rfl
 ·rename_i k hu
  obtain ⟨b, rfl⟩ := Go.WideShapes.okWide_int hu hv
  exact hsc (fun fs => by rw [hu]; exact fun e => by cases e) rfl
 ·rename_i e hu
  obtain ⟨a, l, c, rfl⟩ := Go.WideShapes.okWide_slice hu hv
  exact hsc (fun fs => by rw [hu]; exact fun e => by cases e) rfl
 ·rename_i fs hu
  obtain ⟨cs, rfl, _⟩ := Go.WideShapes.okWide_struct hu hv
  refine ⟨X, .agg vs.toArray, .agg ps, .agg t fs d ps hu k1, k2.good, .agg vs ps k2.rep, VR.agg' ?_⟩
  have hrel := k2.rel
  exact hrel
 ·cases hok
theorem read_args (hts : typsOk Pg ts = true) {base : Nat} : ∀ (tl : List TypeId) (vals : List Value) (ds : List (DataW H)) (p : List MemPlace), (∀ t, t ∈ tl → t ∈ ts) → DataW.TrodAll enc Pg w 0 (fun _ => true) true tl vals ds p →
  (∀ (j : Nat) t v, tl[j]? = some t → vals[j]? = some v → Value.okWide Pg w .any base t v) → ∀ R, GoodR nm w R → CloR R →
  ∃ X vs ps, RdA Pg tl ds ps ∧ GoodR nm w (R ++ X) ∧ RepL [] (belowN (R ++ X).length) (stOf (R ++ X)).h vs ps ∧ LR nm (emOf (R ++ X)) vs vals
 | [], vals, ds, p, _, h, _, R, hR, _ => by
  obtain ⟨rfl, rfl, _⟩ := Go.ChangeShapes.trodAll_nil h
  exact ⟨[], [], [], .nil, by rw [List.append_nil]; exact hR, .nil, .nil⟩
 | t :: tl, vals, ds, p, ht, h, hv, R, hR, hC => by
  obtain ⟨v, vals', d, ds', p1, q1, rfl, rfl, _, h1, h2⟩ := Go.ChangeShapes.trodAll_cons h
  obtain ⟨X, v0, q, k1, k2, k3, k4⟩ := read_arg hts (ht t (by simp)) h1 (hv 0 t v rfl rfl) hR hC
  obtain ⟨Y, vs, ps, m1, m2, m3, m4⟩ := read_args hts tl vals' ds' q1 (fun t' h' => ht t' (by simp [h'])) h2 (fun j t' v' e1 e2 => hv (j + 1) t' v' (by simpa using e1) (by simpa using e2)) (R ++ X) k2 (hC.ext X)
  refine ⟨X ++ Y, v0 :: vs, q :: ps, .cons t tl d ds' q ps k1 m1, ?_, ?_, ?_⟩
  ·rw [← List.append_assoc]; exact m2
  ·rw [← List.append_assoc]
   refine .cons _ _ _ _ ?_ m3
   have := (RepL.one k3).ext Y
   cases this with
   | cons _ _ _ _ h _ => exact h
  ·rw [← List.append_assoc]
   exact .cons (k4.mono (emOf_le _ _)) m4
end

/-- The listed variables' rows. -/
def gRows (f : Nat → TypeId) (gl : List GRow) : List SRow := gl.map fun r => { row := { own := false, size := r.cells.length, cells := T.ofList r.cells, elem := f r.g, esz := 0, opn := false, grp := r.g, frz := 0, sb := false }, pl := { blk := r.g, off := 0, csz := r.cells.length, esz := 0, opn := false } }
theorem gRows_good {nm : Nm} {w : World} {f : Nat → TypeId} {gl : List GRow} (hrows : ∀ r, r ∈ gl → ∃ fz, w.heap[r.g]? = some (.cells r.cells.toArray (f r.g) fz)) (hpl : gl.all (fun r => r.cells.all plainV) = true) : GoodR nm w (gRows f gl) := by
 intro s hs
 obtain ⟨r, hr, rfl⟩ := List.mem_map.1 hs
 obtain ⟨fz, h1⟩ := hrows r hr
 refine ⟨rfl, r.cells.toArray, fz, { blk := h1, csz := by simp, opn := rfl, esz := fun h => (by cases h), fit := by simp, cell := fun i hi => ?_, frz := fun h => (by cases h), sb := fun h => (by cases h), exact := fun _ => ⟨rfl, by simp⟩ }⟩
 have hi' : i < r.cells.length := hi
 refine ⟨r.cells[i], (T.get_ofList _ _).trans (List.getElem?_eq_getElem hi'), ?_⟩
 have : r.cells.toArray.getD (0 + i) undef = r.cells[i] := by
  rw [Nat.zero_add, Array.getD_eq_getD_getElem?]
  simp [hi']
 rw [this]
 exact .of_plainV (List.all_eq_true.1 (List.all_eq_true.1 hpl r hr) _ (List.getElem_mem hi'))
def numbered (gl : List GRow) : Bool := gl.zipIdx.all fun x => Nat.beq x.1.g x.2
theorem numbered_at {gl : List GRow} (h : numbered gl = true) {r : GRow} (hr : r ∈ gl) : gl[r.g]? = some r := by
 obtain ⟨i, hi⟩ := List.getElem?_of_mem hr
 have := List.all_eq_true.1 h (r, i) (by rw [List.mem_zipIdx_iff_getElem?]; exact hi)
 have e : r.g = i := Nat.eq_of_beq_eq_true this
 rw [e]
 exact hi
section
variable {nm : Nm} {H : Type} {enc : TypeId × Value → H} {Pg : Program} {w : World} {ts : List TypeId} {E : Env}
/-- A law's call, in a world whose listed variables hold what they should. -/
theorem law_calls (ok : EnvOk E Pg nm) {f : FuncId} {gl : List GRow} {x : Value} (hx : plainV x = true) (hts : typsOk Pg ts = true) (hng : E.ng ≤ gl.length) (h0 : 0 < gl.length) (hnum : numbered gl = true) (hpl : gl.all (fun r => r.cells.all plainV) = true)
  (hlook : ∀ g : Nat → TypeId, gl.all (fun r => lookOk (stOf (gRows g gl)) r) = true) (hrows : ∀ r, r ∈ gl → ∃ t fz, w.heap[r.g]? = some (.cells r.cells.toArray t fz))
  {tl : List TypeId} {args : Array Value} {ds : List (DataW H)} {p : List MemPlace} {base : Nat} (htl : ∀ t, t ∈ tl → t ∈ ts) (hA : DataW.TrodAll enc Pg w 0 (fun _ => true) true tl args.toList ds p)
  (hv : ∀ (j : Nat) t v, tl[j]? = some t → args.toList[j]? = some v → Value.okWide Pg w .any base t v) (hPR : ∀ ps, RdA Pg tl ds ps → ∃ μ, PR E gl f ps [] (.c x) μ) :
  Calls Pg f args w fun e w' => e = .returned x ∧ w.keptBut w' (fun _ => False) := by
 let g : Nat → TypeId := fun g => match w.heap[g]? with
  | some (.cells _ t _) => t
  | _ => 0
 have hr2 : ∀ r, r ∈ gl → ∃ fz, w.heap[r.g]? = some (.cells r.cells.toArray (g r.g) fz) := by
  intro r hr
  obtain ⟨t, fz, h1⟩ := hrows r hr
  refine ⟨fz, ?_⟩
  have : g r.g = t := by simp only [g, h1]
  rw [this]
  exact h1
 have hgood : GoodR nm w (gRows g gl) := gRows_good hr2 hpl
 have hlen : (gRows g gl).length = gl.length := by simp [gRows]
 have hclo : CloR (gRows g gl) := by
  cases hg : gl with
  | nil => rw [hg] at h0; simp at h0
  | cons r l => exact ⟨_, rfl, rfl⟩
 obtain ⟨X, vs, ps, k1, k2, k3, k4⟩ := read_args (nm := nm) hts tl args.toList ds p htl hA hv (gRows g gl) hgood hclo
 obtain ⟨μ, hP⟩ := hPR ps k1
 obtain ⟨B, n, hrun⟩ := hP.start (rows := gRows g gl ++ X) (fun r hr => by
  have h1 := numbered_at hnum hr
  have h2 : r.g < gl.length := (List.getElem?_eq_some_iff.1 h1).1
  refine ⟨by rw [List.length_append, hlen]; omega, ?_⟩
  have h3 := List.all_eq_true.1 (hlook g) r hr
  unfold lookOk at h3 ⊢
  rw [stOf_ext _ _ (by rw [hlen]; exact h2)]
  exact h3) k3
 refine (calls_start ok hrun hx k2 ?_ k4).mono ?_
 ·intro b hb
  have hb2 : b < gl.length := Nat.lt_of_lt_of_le hb hng
  have h1 : gl[b]? = some gl[b] := List.getElem?_eq_getElem hb2
  have h2 : numbered gl = true := hnum
  have h3 : gl[b].g = b := Nat.eq_of_beq_eq_true (List.all_eq_true.1 h2 (gl[b], b) (by rw [List.mem_zipIdx_iff_getElem?]; exact h1))
  refine ⟨{ blk := gl[b].g, off := 0, csz := gl[b].cells.length, esz := 0, opn := false }, emOf_le _ _ _ _ ?_, h3, rfl⟩
  unfold emOf gRows
  rw [List.getElem?_map, h1]
  rfl
 ·rintro e w' ⟨h1, h2, _⟩
  exact ⟨h1, h2⟩
/-- What was read reads so again in a world that kept all. -/
theorem again_ok {w' : World} {tl : List TypeId} {vs : List Value} {ds : List (DataW H)} {p : List MemPlace} (hl : Go.laidOutB Pg = true) (hm : Go.mapsRowed Pg = true) (hz : ((List.range Pg.types.size).all fun t => match Pg.underlying t with | some (.slice e) => decide (0 < Pg.cellsOf e) | _ => true) = true)
  (htl : tl.all (fun t => Nat.blt t Pg.types.size) = true) (h : DataW.TrodAll enc Pg w 0 (fun _ => true) true tl vs ds p) (hp : ∀ x, x ∈ p → x.block < w.heap.size) (hk : w.keptBut w' (fun _ => False)) :
  DataW.TrodAll enc Pg w' 0 (fun b => decide (b < w.heap.size)) true tl vs ds p := by
 have hsame : ∀ x, x ∈ p → w.sameAt w' x := by
  intro x hx
  have hb := hp x hx
  have h2 := hk.2.2 x.block hb
  cases x with
  | cell b off =>
   show w'.cell? ⟨b, off, none⟩ = w.cell? ⟨b, off, none⟩
   have h2 : (match w.heap[b]?, w'.heap[b]? with
    | some (.cells c t fr), some (.cells c' t' fr') => t' = t ∧ fr' = fr ∧ c'.size = c.size ∧ ∀ j : Nat, ¬ False → c'[j]? = c[j]?
    | some (.map es clock), some (.map es' clock') => False ∨ (es' = es ∧ clock' = clock)
    | o, o' => o' = o) := h2
   unfold World.cell?
   split at h2
   ·rename_i c t fr c' t' fr' e1 e2
    dsimp only
    rw [e1, e2]
    dsimp only
    rw [h2.2.2.2 off (fun h => h)]
   ·rename_i e1 e2
    dsimp only
    rw [e1, e2]
   ·dsimp only
    rw [h2]
  | map b =>
   show w'.heap[b]? = w.heap[b]?
   have h2 : (match w.heap[b]?, w'.heap[b]? with
    | some (.cells c t fr), some (.cells c' t' fr') => t' = t ∧ fr' = fr ∧ c'.size = c.size ∧ ∀ j : Nat, ¬ False → c'[j]? = c[j]?
    | some (.map es clock), some (.map es' clock') => False ∨ (es' = es ∧ clock' = clock)
    | o, o' => o' = o) := h2
   split at h2
   ·rename_i c t fr c' t' fr' e1 e2
    obtain ⟨rfl, rfl, h3, h4⟩ := h2
    rw [e1, e2]
    have : c' = c := Array.ext_getElem? fun i => h4 i (fun h => h)
    rw [this]
   ·rename_i e1 e2
    rw [e1, e2, (h2.resolve_left id).1, (h2.resolve_left id).2]
   ·exact h2
 have hcar : ∀ (tl : List TypeId) (vs : List Value) (ds : List (DataW H)) (p : List MemPlace), DataW.TrodAll enc Pg w 0 (fun _ => true) true tl vs ds p → (∀ x, x ∈ p → w.sameAt w' x) → DataW.TrodAll enc Pg w' 0 (fun _ => true) true tl vs ds p := by
  intro tl
  induction tl with
  | nil =>
   intro vs ds p h _
   obtain ⟨rfl, rfl, rfl⟩ := Go.ChangeShapes.trodAll_nil h
   exact Go.ChangeShapes.trodAll_mk0
  | cons t tl ih =>
   intro vs ds p h hs
   obtain ⟨v, vs', d, ds', p1, q1, rfl, rfl, rfl, ⟨n, h1⟩, h2⟩ := Go.ChangeShapes.trodAll_cons h
   exact ⟨p1, q1, ⟨n, DataW.trod_carry n t _ _ h1 fun x hx => hs x (List.mem_append_left _ hx)⟩, ih vs' ds' q1 h2 fun x hx => hs x (List.mem_append_right _ hx), rfl⟩
 have h2 := hcar tl vs ds p h hsame
 exact DataW.TrodAll.respare (kids_rows hl hm) (fun t e ht hu => slices_full_of Pg hz t e ht hu) (fun t ht => Nat.le_of_ble_eq_true (List.all_eq_true.1 htl t ht)) h2 fun x hx => decide_eq_true (hp x hx)
end
/-! ### What a reading of a type is -/
section
variable {H : Type} {Pg : Program} {t : TypeId} {d : DataW H} {ps : List P}
theorem rd_int {k : IntKind} (hu : Pg.underlying t = some (.int k)) (h : Rd Pg t d ps) : ∃ n, d = .lit (.int k n) ∧ ps = [.c (.int k n)] ∧ (Lit.int k n).wf = true := by
 cases h with
 | bool _ b h => rw [hu] at h; cases h
 | int _ k' n h hw => rw [hu] at h; cases h; exact ⟨n, rfl, rfl, hw⟩
 | str _ s h _ => rw [hu] at h; cases h
 | nils _ e h => rw [hu] at h; cases h
 | slice _ e ds rest ps h _ => rw [hu] at h; cases h
 | struct _ fs ds ps h _ => rw [hu] at h; cases h
theorem rd_str (hu : Pg.underlying t = some .string) (h : Rd Pg t d ps) : ∃ s : ByteArray, d = .lit (.string s.data.toList) ∧ ps = [.c (.string s)] ∧ s.size ≤ maxLen := by
 cases h with
 | bool _ b h => rw [hu] at h; cases h
 | int _ k' n h hw => rw [hu] at h; cases h
 | str _ s h hs => exact ⟨s, rfl, rfl, hs⟩
 | nils _ e h => rw [hu] at h; cases h
 | slice _ e ds rest ps h _ => rw [hu] at h; cases h
 | struct _ fs ds ps h _ => rw [hu] at h; cases h
theorem rd_slice {e : TypeId} (hu : Pg.underlying t = some (.slice e)) (h : Rd Pg t d ps) : (d = .nil ∧ ps = [.sl (Pg.cellsOf e) 0 []]) ∨ ∃ ds rest qs, d = .slice ds rest ∧ ps = [.sl (Pg.cellsOf e) ds.length qs] ∧ RdL Pg e ds qs := by
 cases h with
 | bool _ b h => rw [hu] at h; cases h
 | int _ k' n h hw => rw [hu] at h; cases h
 | str _ s h hs => rw [hu] at h; cases h
 | nils _ e h => rw [hu] at h; cases h; exact .inl ⟨rfl, rfl⟩
 | slice _ e ds rest ps h hl => rw [hu] at h; cases h; exact .inr ⟨ds, rest, ps, rfl, rfl, hl⟩
 | struct _ fs ds ps h _ => rw [hu] at h; cases h
theorem rd_struct {fs : Array Field} (hu : Pg.underlying t = some (.struct fs)) (h : Rd Pg t d ps) : ∃ ds, d = .agg ds ∧ RdF Pg fs.toList ds ps := by
 cases h with
 | bool _ b h => rw [hu] at h; cases h
 | int _ k' n h hw => rw [hu] at h; cases h
 | str _ s h hs => rw [hu] at h; cases h
 | nils _ e h => rw [hu] at h; cases h
 | slice _ e ds rest ps h _ => rw [hu] at h; cases h
 | struct _ fs' ds ps h hF => rw [hu] at h; cases h; exact ⟨ds, rfl, hF⟩
theorem rdf_cons {f : Field} {fs : List Field} {ds : List (DataW H)} (h : RdF Pg (f :: fs) ds ps) : ∃ d ds' p ps', ds = d :: ds' ∧ ps = p ++ ps' ∧ Rd Pg f.type d p ∧ RdF Pg fs ds' ps' := by
 cases h with
 | cons _ _ d ds p ps h1 h2 => exact ⟨d, ds, p, ps, rfl, rfl, h1, h2⟩
theorem rdf_nil {ds : List (DataW H)} (h : RdF Pg [] ds ps) : ds = [] ∧ ps = [] := by
 cases h; exact ⟨rfl, rfl⟩
theorem rda_cons {t : TypeId} {ts : List TypeId} {ds : List (DataW H)} (h : RdA Pg (t :: ts) ds ps) : ∃ d ds' p ps', ds = d :: ds' ∧ ps = p :: ps' ∧ RdV Pg t d p ∧ RdA Pg ts ds' ps' := by
 cases h with
 | cons _ _ d ds p ps h1 h2 => exact ⟨d, ds, p, ps, rfl, rfl, h1, h2⟩
theorem rda_nil {ds : List (DataW H)} (h : RdA Pg [] ds ps) : ds = [] ∧ ps = [] := by
 cases h; exact ⟨rfl, rfl⟩
theorem rdv_agg {fs : Array Field} {p : P} (hu : Pg.underlying t = some (.struct fs)) (h : RdV Pg t d p) : ∃ ps, p = .agg ps ∧ Rd Pg t d ps := by
 cases h with
 | one _ _ hn _ => exact (hn fs hu).elim
 | agg _ fs' ps h1 h2 => exact ⟨ps, rfl, h2⟩
end
end Go.AM.PV
