/- From the evaluator's answer to a call in a world whose memory stays as it was. -/
import Derived.Test.YtkhgbpokoaklpaaGreatDoorAmRun2
import GoSem.ClaimChange
import Derived.KernelRfl
namespace Go.AM
section
variable {E : Env} {P : Program} {nm : Nm}

/-- A global's row: its number, its cells, its type. -/
structure GRow where
  g : Nat
  cells : List Value
  elem : TypeId

def gRowObj (r : GRow) : AObj := .row { own := false, size := r.cells.length, cells := T.ofList r.cells, elem := r.elem, esz := 0, opn := false, grp := r.g, frz := 0, sb := false }
/-- The first state: the rows of the globals that are looked at. -/
def startSt (n : Nat) (rows : List GRow) : St := { next := n, h := rows.foldl (fun h r => h.set r.g (gRowObj r)) T.nil, g := T.nil }

theorem get_start (rows : List GRow) : ∀ (h : T AObj) (b : Nat) (o : AObj), (rows.foldl (fun h r => h.set r.g (gRowObj r)) h).get b = some o → h.get b = some o ∨ ∃ r, r ∈ rows ∧ r.g = b ∧ o = gRowObj r := by
  induction rows with
  | nil => intro h b o hb; exact .inl hb
  | cons r rows ih =>
    intro h b o hb
    rcases ih _ b o hb with g | ⟨r', g1, g2⟩
    · by_cases e : b = r.g
      · subst e
        rw [T.get_set_same] at g
        cases g
        exact .inr ⟨r, by simp, rfl, rfl⟩
      · rw [T.get_set_other _ _ e] at g
        exact .inl g
    · exact .inr ⟨r', by simp [g1], g2⟩

theorem nil_get {α : Type} (b : Nat) : (T.nil : T α).get b = none := by
  have := T.get_ofList ([] : List α) b
  simpa [T.ofList, T.setL] using this

/-- The globals' places. -/
def glPl (w : World) (n : Nat) : Emb := fun b => if b < n then some { blk := b, off := 0, csz := (match w.heap[b]? with | some (.cells c _ _) => c.size | _ => 0), esz := 0, opn := false } else none

theorem start_ok {n : Nat} {rows : List GRow} {w : World} (hn : n ≤ w.heap.size)
    (hrows : ∀ r, r ∈ rows → r.g < n ∧ ∃ fz, w.heap[r.g]? = some (.cells r.cells.toArray r.elem fz)) (hplain : ∀ r, r ∈ rows → ∀ v, v ∈ r.cells → VR nm (glPl w n) v v) :
    WR nm (fun b => w.heap[b]?) w (glPl w n) (startSt n rows) w := by
  have hφ : ∀ b p, glPl w n b = some p → b < n ∧ p.blk = b ∧ p.off = 0 := by
    intro b p hb
    unfold glPl at hb
    split at hb
    · cases hb; exact ⟨by assumption, rfl, rfl⟩
    · cases hb
  have hget : ∀ b o, (startSt n rows).h.get b = some o → ∃ r, r ∈ rows ∧ r.g = b ∧ o = gRowObj r := by
    intro b o hb
    rcases get_start rows T.nil b o hb with g | g
    · rw [nil_get] at g; cases g
    · exact g
  refine { dom := ?_, lt := ?_, obj := ?_, key := fun b o h => h, sep := ?_, tip := ?_, grp := ?_, env := ⟨rfl, rfl, rfl⟩, size := Nat.le_refl _, old := ?_ }
  · intro b hb
    have hb' : n ≤ b := hb
    unfold glPl
    rw [if_neg (by omega)]
  · intro b p hb
    obtain ⟨h1, h2, _⟩ := hφ b p hb
    omega
  · intro b o hb hl
    obtain ⟨r, h1, rfl, rfl⟩ := hget b o hb
    obtain ⟨h2, fz, h3⟩ := hrows r h1
    refine ⟨_, by unfold glPl; rw [if_pos h2], ?_, ?_⟩
    · refine ⟨r.cells.toArray, fz, { blk := h3, csz := ?_, opn := rfl, esz := fun h => (by cases h), fit := ?_, cell := ?_, frz := fun h => (by cases h), sb := fun h => (by cases h), exact := fun _ => ⟨rfl, by simp⟩ }⟩
      · simp [h3]
      · simp
      · intro i hi
        have hi' : i < r.cells.length := hi
        refine ⟨r.cells[i], (T.get_ofList _ _).trans (List.getElem?_eq_getElem hi'), ?_⟩
        have : r.cells.toArray.getD (0 + i) undef = r.cells[i] := by
          rw [Nat.zero_add, Array.getD_eq_getD_getElem?]
          simp [hi']
        rw [this]
        exact hplain r h1 _ (List.getElem_mem hi')
    · show (w.heap[r.g]?).isNone = false
      rw [h3]; rfl
  · intro b c o u p q hbc hb hc lo lu oo
    obtain ⟨r, _, _, rfl⟩ := hget b o hb
    cases oo
  · intro g m ms hg
    rw [show (startSt n rows).g = T.nil from rfl, nil_get] at hg
    cases hg
  · intro g ms hg
    rw [show (startSt n rows).g = T.nil from rfl, nil_get] at hg
    cases hg
  · intro b o p hb hl ho hp
    obtain ⟨h1, h2, _⟩ := hφ b p hp
    omega

theorem keptBut_of_key {K : Kp} {φ : Emb} {A' : St} {w w' : World} (hK : K = fun b => w.heap[b]?) (h : WR nm K w φ A' w') : w.keptBut w' (fun _ => False) := by
  subst hK
  refine ⟨h.env.2.1, h.env.2.2, fun i hi => ?_⟩
  have hw : w.heap[i]? = some w.heap[i] := Array.getElem?_eq_getElem hi
  have hw' := h.key i _ hw
  rw [hw, hw']
  cases w.heap[i] <;> simp

/-- A function without arguments that the evaluator says answers 'v'. -/
theorem calls_closed (ok : EnvOk E P nm) {f : FuncId} {n fuel : Nat} {rows : List GRow} {v : Value} {A' : St} (hrun : (big E fuel).call f [] (startSt n rows) = some (v, A')) (hv : plainV v = true) {w : World} (hng : E.ng ≤ n) (hn : n ≤ w.heap.size)
    (hrows : ∀ r, r ∈ rows → r.g < n ∧ ∃ fz, w.heap[r.g]? = some (.cells r.cells.toArray r.elem fz)) (hplain : ∀ r, r ∈ rows → ∀ v, v ∈ r.cells → plainV v = true) :
    Calls P f #[] w fun e w' => e = .returned v ∧ w.keptBut w' (fun _ => False) ∧ w'.tape = w.tape := by
  have h := start_ok (nm := nm) hn hrows (fun r hr v hv => .of_plainV (hplain r hr v hv))
  have hg : Gl E (glPl w n) := fun g hgl => ⟨_, by unfold glPl; rw [if_pos (by omega)], rfl, rfl⟩
  refine Calls.mono ((big_ok ok fuel).2.2 f [] _ v A' hrun _ w _ w #[] h hg .nil) ?_
  rintro e w' ⟨φ', v', _, _, h', hv', rfl⟩
  rw [hv'.plainV_eq hv]
  exact ⟨rfl, keptBut_of_key rfl h', h'.env.1⟩

/-- What of a program is asked. -/
def extNames : List String := ["internal/bytealg.IndexByteString", "internal/bytealg.IndexByte", "internal/abi.NoEscape", "internal/bytealg.abigen_runtime_cmpstring", "internal/bytealg.CountString"]
theorem gen_none : extNames.all (fun n => (Extern.allGenericRows.lookup n).isNone && (Extern.allTypedRows.lookup n).isNone && (Extern.allNextRows.lookup n).isNone) = true := by kernel_rfl
theorem row_index1 : Extern.allRows.lookup "internal/bytealg.IndexByteString" = some Extern.BytealgIndexByte.indexByte := by kernel_rfl
theorem row_index2 : Extern.allRows.lookup "internal/bytealg.IndexByte" = some Extern.BytealgIndexByte.indexByte := by kernel_rfl
theorem row_same : Extern.allRows.lookup "internal/abi.NoEscape" = some Extern.AbiNoEscape.same := by kernel_rfl
theorem row_cmp : Extern.allRows.lookup "internal/bytealg.abigen_runtime_cmpstring" = some Extern.BytealgCompare.compare := by kernel_rfl
theorem row_count : Extern.allRows.lookup "internal/bytealg.CountString" = some Extern.BytealgCount.count := by kernel_rfl

theorem rows_at : ∀ n, n ∈ extNames → Extern.allRows.lookup n = some (rowOf n) := by
  intro n hn
  simp only [extNames, List.mem_cons, List.mem_nil_iff, or_false] at hn
  rcases hn with rfl | rfl | rfl | rfl | rfl
  · rw [row_index1]; rfl
  · rw [row_index2]; rfl
  · rw [row_same]; rfl
  · rw [row_cmp]; rfl
  · rw [row_count]; rfl

theorem ext_ok (P : Program) (h : P.funcs.all (fun g => !(extNames.contains g.name) || (Extern.allNextRows.lookup g.origin).isNone) = true) :
    ∀ (f : Nat) (g : Func), P.funcs[f]? = some g → g.body = none → g.name ∈ extNames → Extern.findNext g = none ∧ Extern.find g = some (rowOf g.name) := by
  intro f g hf _ hn
  have h1 := List.all_eq_true.1 gen_none g.name hn
  simp only [Bool.and_eq_true, Option.isNone_iff_eq_none] at h1
  obtain ⟨⟨e1, e2⟩, e3⟩ := h1
  have h2 := Array.all_eq_true_iff_forall_mem.1 h g (Array.mem_of_getElem? hf)
  have h3 : (Extern.allNextRows.lookup g.origin) = none := by
    have hc : extNames.contains g.name = true := List.contains_iff_mem.2 hn
    rw [hc] at h2
    simpa using h2
  refine ⟨?_, ?_⟩
  · unfold Extern.findNext
    simp only [e3, h3]
    rfl
  · unfold Extern.find
    simp only [e1, e2, rows_at _ hn]
    rfl

theorem envOk (P : Program) (sl : List (List UInt8)) (hsl : ∀ l, sl.contains l = true → nm.data.toList ≠ l) (hnames : P.funcs.all (fun g => !(g.name == "runtime.NumGoroutine")) = true) (hmix : P.follows .mixedOrders = true)
    (hext : ∀ (f : Nat) (g : Func), P.funcs[f]? = some g → g.body = none → g.name ∈ extNames → Extern.findNext g = none ∧ Extern.find g = some (rowOf g.name)) : EnvOk (mkEnv P sl) P nm where
  prog := rfl
  inf := by
    intro t i h
    have : (T.ofList P.types.toList).get t = some i := h
    rw [T.get_ofList] at this
    have h2 : P.types[t]? = some i := by simpa using this
    have hlt := (Array.getElem?_eq_some_iff.1 h2).1
    unfold Tables.info?
    rw [if_pos hlt]
    exact h2
  fn := by
    intro f g h
    have : (T.ofList P.funcs.toList).get f = some g := h
    rw [T.get_ofList] at this
    simpa using this
  sl := hsl
  names := by
    intro f g h
    have := Array.all_eq_true_iff_forall_mem.1 hnames g (Array.mem_of_getElem? h)
    simpa using this
  mix := hmix
  ext := fun f g h1 h2 h3 => hext f g h1 h2 (by simpa [extNames, or_assoc] using h3)
/-- How many globals are looked at is free. -/
theorem EnvOk.ng (ok : EnvOk E P nm) (n : Nat) : EnvOk { E with ng := n } P nm :=
  { prog := ok.prog, inf := ok.inf, fn := ok.fn, sl := ok.sl, names := ok.names, mix := ok.mix, ext := ok.ext }
end
end Go.AM
