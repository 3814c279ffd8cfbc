/- The law PrimNames returns true at every name, and what was there stays. No condition beyond the statement's own. -/
import Derived.Test.YtkhgbpokoaklpaaGreatDoorPnS
import Derived.Test.YtkhgbpokoaklpaaGreatDoorPnU
import Derived.Test.YtkhgbpokoaklpaaGreatDoorRows
import Derived.Test.YtkhgbpokoaklpaaGreatDoorTie
import Derived.Test.YtkhgbpokoaklpaaGreatDoorCards
import Derived.WalkKit
import Derived.ProofKit
import Derived.OpenShut
import Derived.LaidMore
import Derived.Lay
import Derived.SevenTiedAt
import Derived.Stop.Joined
namespace Go.Proofs.YtkhgbpokoaklpaaGreatDoor
set_option maxRecDepth 1000000
open Go Go.ChangeMaps Go.ChangeShapes Go.WideShapes Go.ChangeAt Go.RowKit Go.AM Go.AM.SX

theorem pn_names : Tryz.prog.funcs.all (fun g => !(g.name == "runtime.NumGoroutine")) = true := by kernel_rfl
theorem pn_mix : Tryz.prog.follows .mixedOrders = true := by kernel_rfl
theorem pn_ext : Tryz.prog.funcs.all (fun g => !(extNames.contains g.name) || (Extern.allNextRows.lookup g.origin).isNone) = true := by kernel_rfl
theorem pn_own : ownKnob Tryz.prog.godebug = none := by kernel_rfl

theorem ok00 (nm : ByteArray) : EnvOk E00 Tryz.prog nm := (envOk Tryz.prog [] (fun _ h => by cases h) pn_names pn_mix (ext_ok _ pn_ext)).ng 0
theorem ok0 (nm : ByteArray) : EnvOk E0 Tryz.prog nm := (envOk Tryz.prog [] (fun _ h => by cases h) pn_names pn_mix (ext_ok _ pn_ext)).ng 1
theorem of00 (nm : ByteArray) {l : List Known} (h : ∀ f, l.all (runOf E00 f) = true) : ∀ k, k ∈ l → KnownOk Tryz.prog nm k := fun k hk =>
  known_of_run (ok00 nm) (Nat.zero_le _) fun f => List.all_eq_true.1 (h f) k hk
theorem k94_ok (nm : ByteArray) : KnownOk Tryz.prog nm k94 := known_of_run (ok0 nm) (Nat.le_refl 1) k94_run
theorem ok1 (nm : ByteArray) : EnvOk E1 Tryz.prog nm := (ok0 nm).knows _ fun k hk => by
  rcases List.mem_cons.1 hk with rfl | hk
  · exact k94_ok nm
  · exact of00 nm cuts_run k hk
theorem of1 (nm : ByteArray) {l : List Known} (h : ∀ f, l.all (runOf E1 f) = true) (hl : (l.all fun k => Nat.ble 1 (topOf k.looks)) = true) : ∀ k, k ∈ l → KnownOk Tryz.prog nm k := fun k hk =>
  known_of_run (ok1 nm) (Nat.le_of_ble_eq_true (List.all_eq_true.1 hl k hk)) fun f => List.all_eq_true.1 (h f) k hk
theorem knowns_ok (nm : ByteArray) : ∀ k, k ∈ knowns → KnownOk Tryz.prog nm k := by
  intro k hk
  unfold knowns at hk
  simp only [List.mem_cons, List.mem_append] at hk
  rcases hk with rfl | rfl | rfl | rfl | ((((((h | h) | h) | h) | h) | h) | h)
  · exact known_of_run (ok1 nm) (Nat.le_refl 1) k18_run
  · exact known_of_run (ok1 nm) (Nat.le_refl 1) k20_run
  · exact known_of_run (ok00 nm) (Nat.zero_le _) k21_run
  · exact k94_ok nm
  · exact of00 nm cuts_run k h
  · exact of00 nm prims_run k h
  · exact of00 nm ctls_run k h
  · exact of1 nm effs0_run (by kernel_rfl) k h
  · exact of1 nm effs1_run (by kernel_rfl) k h
  · exact of1 nm effs2_run (by kernel_rfl) k h
  · exact of1 nm effs3_run (by kernel_rfl) k h
theorem ok2 (nm : ByteArray) : EnvOk E2 Tryz.prog nm := (ok0 nm).knows _ (knowns_ok nm)
theorem ok3 (nm : ByteArray) (h : ∀ l, nameL.contains l = true → nm.data.toList ≠ l) : EnvOk E3 Tryz.prog nm :=
  ((envOk Tryz.prog nameL h pn_names pn_mix (ext_ok _ pn_ext)).ng 1).knows _ (knowns_ok nm)

/-! ### A name that is known -/
def cfg : Cfg := { inl := [22, 46, 24, 23], unr := [] }
set_option maxRecDepth 1000000 in
theorem tree5 : sxFn E2 cfg 2000 5 1 = some t5 := by kernel_rfl
set_option maxRecDepth 1000000 in
theorem tree19 : sxFn E2 cfg 2000 19 2 = some t19 := by kernel_rfl
set_option maxRecDepth 1000000 in
theorem tree96 : sxFn E2 cfg 2000 96 2 = some t96 := by kernel_rfl
def ents : List (List UInt8 × Int × Int × Bool) := [([100, 117, 112], 1, 2, true), ([100, 114, 111, 112], 1, 0, true), ([115, 119, 97, 112], 2, 2, true), ([111, 118, 101, 114], 2, 3, true), ([114, 111, 116], 3, 3, true), ([110, 105, 112], 2, 1, true), ([116, 117, 99, 107], 2, 3, true), ([43], 2, 1, true), ([45], 2, 1, true), ([42], 2, 1, true), ([47], 2, 1, true), ([109, 111, 100], 2, 1, true), ([110, 101, 103], 1, 1, true), ([97, 98, 115], 1, 1, true), ([109, 105, 110], 2, 1, true), ([109, 97, 120], 2, 1, true), ([60], 2, 1, true), ([62], 2, 1, true), ([61], 2, 1, true), ([97, 110, 100], 2, 1, true), ([111, 114], 2, 1, true), ([110, 111, 116], 1, 1, true), ([105, 110, 116, 63], 1, 1, true), ([115, 116, 114, 63], 1, 1, true), ([98, 111, 111, 108, 63], 1, 1, true), ([108, 105, 115, 116, 63], 1, 1, true), ([113, 117, 111, 116, 63], 1, 1, true), ([98, 111, 120, 63], 1, 1, true), ([108, 101, 110, 103, 116, 104], 1, 1, true), ([97, 112, 112, 101, 110, 100], 2, 1, true), ([110, 116, 104], 2, 1, true), ([115, 108, 105, 99, 101], 3, 1, true), ([119, 114, 97, 112], 1, 1, true), ([112, 97, 105, 114], 2, 1, true), ([117, 110, 112, 97, 105, 114], 1, 2, true), ([114, 101, 118, 101, 114, 115, 101], 1, 1, true), ([99, 117, 114, 114, 121], 2, 1, true), ([99, 111, 109, 112, 111, 115, 101], 2, 1, true), ([62, 115, 116, 114], 1, 1, true), ([62, 105, 110, 116], 1, 1, true), ([99, 97, 108, 108], 0, 0, false), ([100, 105, 112], 0, 0, false), ([107, 101, 101, 112], 0, 0, false), ([105, 102], 0, 0, false), ([119, 104, 101, 110], 0, 0, false), ([116, 105, 109, 101, 115], 0, 0, false), ([101, 97, 99, 104], 0, 0, false), ([108, 111, 111, 112], 0, 0, false), ([98, 111, 120], 1, 1, true), ([103, 101, 116], 1, 1, true), ([112, 117, 116], 2, 0, true), ([46], 1, 0, true)]
theorem ents_names : names = ents.map fun e => bs e.1 := by kernel_rfl
theorem look25 : ents.map (fun e => knownAt 25 [bs e.1] knowns) = ents.map fun e => some (pOf e.1 e.2.1 e.2.2.1 e.2.2.2) := by kernel_rfl
theorem look48 : ents.map (fun e => knownAt 48 [bs e.1] knowns) = ents.map fun e => some (eOf e.1 e.2.1 e.2.2.1 e.2.2.2) := by kernel_rfl
theorem look47 : (ents.filter fun e => !e.2.2.2).map (fun e => knownAt 47 [bs e.1] knowns) = (ents.filter fun e => !e.2.2.2).map fun e => some (cOf e.1) := by kernel_rfl
theorem look18 : knownAt 18 [] knowns = some k18 := by kernel_rfl
theorem look20 : knownAt 20 [] knowns = some k20 := by kernel_rfl
theorem look21 : knownAt 21 [] knowns = some k21 := by kernel_rfl
theorem map_at {α β : Type} {f g : α → β} : ∀ {l : List α}, l.map f = l.map g → ∀ x, x ∈ l → f x = g x
  | [], _, x, hx => by simp at hx
  | y :: l, h, x, hx => by
    simp only [List.map_cons, List.cons.injEq] at h
    rcases List.mem_cons.1 hx with rfl | hx
    · exact h.1
    · exact map_at h.2 x hx
theorem ready_look {A : St} (h : Ready A) : ([asc].all fun r => Nat.blt r.g E2.ng && lookOk A r) = true := by
  simp only [List.all_cons, List.all_nil, Bool.and_true, Bool.and_eq_true]
  exact ⟨rfl, h.1⟩
theorem names_shift (s : Nat) : names.map (shiftV s 8) = names := by
  have hp : names.all (noAddr 40) = true := by kernel_rfl
  conv => rhs; rw [← List.map_id names]
  exact List.map_congr_left fun x hx => shiftV_plain 40 8 x (List.all_eq_true.1 hp x hx)
theorem row_rd (A : St) (k : Known) (r : KRow) (hk : k.objs = [r]) (hr : r.cells = names) : SX.Rd { A with next := A.next + k.cnt, h := addRows A.next A.h k.objs } ⟨r.b + A.next, 0, none⟩ names := by
  refine ⟨kRow A.next r, ?_, ?_, ?_⟩
  · show (addRows A.next A.h k.objs).get (r.b + A.next) = _
    rw [hk]
    exact _root_.Go.AM.T.get_set_same _ _ _
  · show 0 + names.length ≤ r.cells.length
    rw [hr, Nat.zero_add]
    exact Nat.le_refl _
  · intro i hi
    show (_root_.Go.AM.T.ofList (r.cells.map (shiftV A.next 8))).get (0 + i) = _
    rw [hr, names_shift, _root_.Go.AM.T.get_ofList, Nat.zero_add]

theorem calls5 {c : ByteArray} (hc : Value.string c ∈ names) : Calls5 E2 c where
  awake := fun A hA => runs_plain (k := k18) (A := A) look18 (ready_look hA) rfl
  prog := fun A hA => ⟨_, ⟨1146 + A.next, 0, none⟩, runs_known (k := k20) (A := A) look20 (ready_look hA), keep_known A k20, row_rd A k20 _ rfl rfl, by show 1146 + A.next < A.next + 2000; omega⟩
  refs := fun A _ => ⟨_, ⟨0 + A.next, 0, none⟩, runs_known (k := k21) (A := A) look21 rfl, keep_known A k21, row_rd A k21 _ rfl rfl, by show 0 + A.next < A.next + 1; omega⟩
  one := by
    rw [ents_names] at hc
    obtain ⟨e, he, hce⟩ := List.mem_map.1 hc
    obtain ⟨n, i, o, ok⟩ := e
    have hcn : Value.string c = bs n := hce.symm
    refine ⟨i, o, ok, fun A _ => ?_, fun A hA => ?_, fun hok A _ => ?_⟩
    · rw [hcn]
      exact runs_plain (k := pOf n i o ok) (map_at look25 _ he) rfl rfl
    · rw [hcn]
      exact runs_plain (k := eOf n i o ok) (map_at look48 _ he) (ready_look hA) rfl
    · rw [hcn]
      subst hok
      exact runs_plain (k := cOf n) (map_at look47 _ (List.mem_filter.2 ⟨he, rfl⟩)) rfl rfl
  mem := hc

theorem ready_start (f : Nat → TypeId) : Ready (startSt 1 (withEl f [asc])) := ⟨by kernel_rfl, Nat.le_refl 1, rfl⟩
theorem not_in {c : ByteArray} (hc : ¬ Value.string c ∈ names) : ∀ l, nameL.contains l = true → c.data.toList ≠ l := by
  intro l hl e
  have hn : names = nameL.map bs := by kernel_rfl
  apply hc
  rw [hn]
  refine List.mem_map.2 ⟨l, List.contains_iff_mem.1 hl, ?_⟩
  subst e
  rfl

theorem pn_walk (c : ByteArray) (w : World) (hrow : ∃ t fz, w.heap[0]? = some (.cells asc.cells.toArray t fz)) :
    Calls Tryz.prog 5 #[.string c] w fun e w' => e = .returned (.bool true) ∧ w.keptBut w' (fun _ => False) := by
  obtain ⟨t, fz, hrow⟩ := hrow
  have hn : 1 ≤ w.heap.size := (Array.getElem?_eq_some_iff.1 hrow).1
  have hpl : asc.cells.all plainV = true := by kernel_rfl
  have start : ∀ nm : ByteArray, WR nm (fun b => w.heap[b]?) w (glPl w 1) (startSt 1 (withEl (fun _ => t) [asc])) w := fun nm =>
    start_ok hn (fun r hr => by
      obtain rfl := List.mem_singleton.1 hr
      exact ⟨Nat.lt_succ_self 0, fz, hrow⟩) (fun r hr v hv => by
      obtain rfl := List.mem_singleton.1 hr
      exact .of_plainV (List.all_eq_true.1 hpl v hv))
  have gl : ∀ E : Env, E.ng = 1 → Gl E (glPl w 1) := fun E hE g hg => ⟨_, by unfold glPl; rw [if_pos (by omega)], rfl, rfl⟩
  by_cases hc : Value.string c ∈ names
  · obtain ⟨v, A', ⟨n, hrun⟩, rfl⟩ := law_in (SxEnv.of (ok2 ByteArray.empty) rfl) tree5 tree19 tree96 (calls5 hc) (ready_start (fun _ => t))
    refine Calls.mono ((big_ok (ok2 ByteArray.empty) n).2.2 5 _ _ _ A' hrun _ w _ w #[.string c] (start _) (gl E2 rfl) (.cons (.str c) .nil)) ?_
    rintro e w' ⟨φ', v', _, _, hW, hv, rfl⟩
    rw [hv.plainV_eq rfl]
    exact ⟨rfl, keptBut_of_key rfl hW⟩
  · have hr := unknown_run (fun _ => t)
    cases hq : (big E3 100000).call 5 [.float .f64 0] (startSt 1 (withEl (fun _ => t) [asc])) with
    | none => rw [hq] at hr; cases hr
    | some r =>
      obtain ⟨v, A'⟩ := r
      have hv : v = .bool true := by
        rw [hq] at hr
        unfold okOf at hr
        split at hr
        · rename_i h; simp only [Option.some.injEq, Prod.mk.injEq] at h; exact h.1
        · cases hr
      subst hv
      refine Calls.mono ((big_ok (ok3 c (not_in hc)) 100000).2.2 5 _ _ _ A' hq _ w _ w #[.string c] (start _) (gl E3 rfl) (.cons .sym .nil)) ?_
      rintro e w' ⟨φ', v', _, _, hW, hv, rfl⟩
      rw [hv.plainV_eq rfl]
      exact ⟨rfl, keptBut_of_key rfl hW⟩

/-! ### The row -/
def dOf : Value → DataW Unit
  | .int k n => .lit (.int k n)
  | _ => .nil
theorem asc_row {W : World} (h : laidMetH Tryz.prog Rows.primNamesRow.laid W) : ∃ t fz, W.heap[0]? = some (.cells asc.cells.toArray t fz) := by
  rw [MakeChecks.laidMetH_plain _ _ _ (by kernel_rfl)] at h
  obtain ⟨ps, hl, _, _⟩ := h
  obtain ⟨_, _, _, _, _, _, _, _, _, _, hl, _⟩ := hl
  obtain ⟨_, _, _, _, _, _, _, _, _, _, hl, _⟩ := hl
  obtain ⟨_, _, _, _, _, _, _, _, _, _, hl, _⟩ := hl
  obtain ⟨_, _, _, _, _, _, _, _, _, _, hl, _⟩ := hl
  obtain ⟨_, _, _, _, _, _, _, _, _, _, hl, _⟩ := hl
  obtain ⟨g, t, cs, fuel, p, q, hg, ht, hv, hd, _, _⟩ := hl
  obtain rfl := Option.some.inj ((show Tryz.prog.globalNamed "strings.asciiSpace" = some 0 by kernel_rfl).symm.trans hg)
  obtain rfl := Option.some.inj ((show (Tryz.prog.globals[0]?).map (·.type) = some 228 by kernel_rfl).symm.trans ht)
  obtain ⟨xs, m, _, ex, hlen0, hl, hel⟩ := DataW.trod_array Tryz.underlying228 hd
  have c5 : Tryz.prog.cellsOf 5 = 1 := by kernel_rfl
  have e3 : xs.map (·.1) = asc.cells.map dOf := (DataW.agg.inj (Prod.mk.inj ex).1).symm.trans (by kernel_rfl)
  have hxl : xs.length = 256 := hl
  have hcell : ∀ r, r < 256 → cs[r]? = asc.cells[r]? := by
    intro r hr
    have hE := hel r hr
    rw [c5, Nat.mul_one, List.getElem?_eq_getElem (by omega)] at hE
    obtain ⟨z, e1, e2, _⟩ := DataW.trod_int Tryz.underlying5 hE
    have h0 : cs[r]? = some (.int .u8 z) := by
      have h0 : ((cs.toList.drop r).take 1)[0]? = some (.int .u8 z) := by rw [e1]; rfl
      simpa using h0
    rw [h0]
    have hform : asc.cells[r]? = some (.int .u8 (if ascOf r then 1 else 0)) := by simp [asc, hr]
    have e4 : (xs.map (·.1))[r]? = (asc.cells.map dOf)[r]? := by rw [e3]
    rw [List.getElem?_map, List.getElem?_map, List.getElem?_eq_getElem (by omega : r < xs.length), e2, hform] at e4
    have e5 : (DataW.lit (.int .u8 z) : DataW Unit) = .lit (.int .u8 (if ascOf r then 1 else 0)) := Option.some.inj e4
    have e6 : z = if ascOf r then 1 else 0 := by
      simp only [DataW.lit.injEq, Lit.int.injEq, true_and] at e5
      exact e5
    rw [hform, e6]
  have hsz : cs.size = 256 := by
    have c228 : Tryz.prog.cellsOf 228 = 256 := by kernel_rfl
    rw [c228] at hlen0
    simpa using hlen0
  have hcs : cs = asc.cells.toArray := by
    apply Array.ext'
    apply List.ext_getElem?
    intro i
    rcases Nat.lt_or_ge i 256 with h | h
    · have := hcell i h
      simpa using this
    · have hlen : asc.cells.length = 256 := by kernel_rfl
      rw [List.getElem?_eq_none (by simp [hsz]; omega), List.getElem?_eq_none (by simp [hlen]; omega)]
  have hvar := hv
  simp only [World.var?, show Tryz.prog.globalNamed "strings.asciiSpace" = some 0 by kernel_rfl, Option.bind_some] at hvar
  split at hvar
  · rename_i cs' t' fz hh
    cases hvar
    rw [hcs] at hh
    exact ⟨t', fz, hh⟩
  · cases hvar

set_option maxRecDepth 100000 in
theorem primNames_lifted (os : Os) (started : os.Started) (H : Type) (enc : TypeId × Value → H) :
    ReturnsInHanded {} Tryz.checked os 5 .any (fun w args => (Rows.primNamesSpec.pre enc Tryz.prog Tryz.f5 Rows.primNamesRow.domain false w args ∧ laidMetH Tryz.prog Rows.primNamesRow.laid w) ∧ sizedMet enc Tryz.prog Tryz.f5 (OpenSpec.ofChange Rows.primNamesSpec) false w args)
      (Rows.primNamesSpec.post enc Tryz.prog Tryz.f5 false true false false) := by
  refine returnsInHanded_of_change_and (C := Tryz.checked) (X := fun w _ => laidMetH Tryz.prog Rows.primNamesRow.laid w) (fun _ _ _ hh h => h.of_heap hh) pn_own started (by kernel_rfl) Tryz.func5
    (ChangeSpec.witness_shaped (enc := enc) (C := Tryz.checked) (os := os) (X := fun w _ => laidMetH Tryz.prog Rows.primNamesRow.laid w) false (World.laidAll Tryz.prog os Rows.primNamesRow.laid) #[.string .empty] 8 (World.laidAll_os _ _ _)
      (World.shaped_of_ZipB (by kernel_rfl) (by kernel_rfl)) (by kernel_rfl) (by kernel_rfl) (by kernel_rfl)
      (by rw [MakeChecks.laidMetH_plain _ _ _ (by kernel_rfl)]; exact laidMet_laidAll _ (by kernel_rfl) (by kernel_rfl))) ?_
  intro W base args ds gs before hval0 hW hc _ hL _
  have hval : ∀ (j : Nat) t v, Tryz.f5.params[j]? = some t → args[j]? = some v → Value.okWide Tryz.prog W .any base t v := hval0
  have hW' := hW
  obtain ⟨p, q, hA0, hV, rfl, _, _⟩ := hW
  have hA : DataW.TrodAll enc Tryz.prog W 0 (fun _ => true) true Tryz.f5.params.toList args.toList ds p := hA0
  rw [Tryz.params5] at hA hval
  obtain ⟨v0, d0, rfl, rfl, h0⟩ := trodAll_one hA
  obtain ⟨rfl, rfl⟩ := trodVars_none hV
  obtain ⟨c, rfl, rfl, rfl, wc⟩ := open_string Tryz.underlying9 (hval 0 9 v0 rfl rfl) h0
  simp only [List.append_nil] at hW'
  refine (pn_walk c W (asc_row hL)).mono fun e W' ⟨he, hg⟩ => ?_
  subst he
  refine ⟨_, rfl, _, _, _, [], [], [], hW', ?_, ?_, ?_, ?_, fun h => by cases h⟩
  · exact trodAll_mk1 (shut_bool Tryz.underlying4 true)
  · exact trodAll_mk1 (shut_string Tryz.underlying9 wc)
  · rfl
  · exact World.keptBut_mono (fun _ h => h.elim) hg

theorem primNames_named' : Tryz.pinned.checked.prog.funcNamed Rows.primNamesRow.func = some 5 := by kernel_rfl
theorem primNames_fact0 : (Rows.primNamesRow.wf (OpenSpec.ofChange Rows.primNamesSpec) : Bool) = true := by kernel_rfl
theorem primNames_fact1 : (laidOutB Tryz.prog : Bool) = true := by kernel_rfl
theorem primNames_fact2 : (mapsRowed Tryz.prog : Bool) = true := by kernel_rfl
theorem primNames_fact3 : (Tryz.f5.params.all (Tryz.prog.readableRec ·) : Bool) = true := by kernel_rfl
theorem primNames_fact4 : (namedTie Tryz.prog Rows.primNamesRow.named Rows.primNamesSpec.vars : Bool) = true := by kernel_rfl
theorem primNames_fact5 : ((Rows.primNamesRow.stops == []) : Bool) = true := by kernel_rfl
theorem primNames_fact6 : ((Tryz.prog.stops == []) : Bool) = true := by kernel_rfl
theorem primNames_fact7 : ((Rows.primNamesRow.knobs == []) : Bool) = true := by kernel_rfl
theorem primNames_fact8 : ((Tryz.prog.stopKnobs == []) : Bool) = true := by kernel_rfl
theorem primNames_fact9 : ((Rows.primNamesRow.inPlace == Tryz.prog.inPlace 5) : Bool) = true := by kernel_rfl
theorem primNames_fact10 : ((Rows.primNamesRow.unfollowed == Tryz.prog.unfollowed 5) : Bool) = true := by kernel_rfl
theorem primNames_fact11 : ((Rows.primNamesRow.recurses == Tryz.prog.recurses 5) : Bool) = true := by kernel_rfl
theorem primNames_fact12 : ((Rows.primNamesRow.named == Tryz.prog.varsNamed 5) : Bool) = true := by kernel_rfl
theorem primNames_fact13 : ((Rows.primNamesRow.maps == (Tryz.f5.params.toList ++ Rows.primNamesSpec.plain.varTypes Tryz.prog).any (Tryz.prog.mapsRec ·)) : Bool) = true := by kernel_rfl
theorem primNames_fact14 : ((Rows.primNamesRow.ifaces == (Tryz.f5.params.toList ++ Rows.primNamesSpec.plain.varTypes Tryz.prog).any (Tryz.prog.ifacesRec ·)) : Bool) = true := by kernel_rfl
theorem primNames_fact15 : ((Rows.primNamesRow.mapsOut == Tryz.prog.mapsAmong Tryz.f5.resultTypes.toList) : Bool) = true := by kernel_rfl
theorem primNames_fact16 : ((Rows.primNamesRow.loops == (Tryz.f5.params.toList ++ Rows.primNamesSpec.plain.varTypes Tryz.prog).any (Tryz.prog.loopsFrom ·)) : Bool) = true := by kernel_rfl
theorem primNames_fact17 : ((Rows.primNamesRow.wideKeys == (Tryz.f5.params.toList ++ Rows.primNamesSpec.plain.varTypes Tryz.prog ++ Tryz.f5.resultTypes.toList).any (Tryz.prog.wideKeysFrom ·)) : Bool) = true := by kernel_rfl
theorem primNames_fact18 : (Rows.primNamesSpec.vars.all (Tryz.prog.varReadable ·) : Bool) = true := by kernel_rfl
theorem primNames_fact19 : (Tryz.f5.resultTypes.all (fun t => Tryz.prog.readableRec t && decide (t < Tryz.prog.types.size)) : Bool) = true := by kernel_rfl
theorem primNames_fact20 : ((Rows.primNamesRow.ifacesOut == Tryz.f5.resultTypes.toList.any (Tryz.prog.ifacesRec ·)) : Bool) = true := by kernel_rfl
theorem primNames_fact21 : ((Rows.primNamesRow.loopsOut == Tryz.f5.resultTypes.toList.any (Tryz.prog.loopsFrom ·)) : Bool) = true := by kernel_rfl
theorem primNames_fact22 : ((Rows.primNamesRow.plainKeys == Tryz.prog.plainKeys) : Bool) = true := by kernel_rfl
theorem primNames_fact23 : (Rows.primNamesRow.shortTexts.isNone : Bool) = true := by kernel_rfl
theorem primNames_fact24 : (Tryz.prog.stopsHeard : Bool) = true := by kernel_rfl
theorem primNames_fact25 : (Tryz.prog.mayEnter : Bool) = true := by kernel_rfl
theorem primNames_fact26 : ((Rows.primNamesRow.lifted == Tryz.prog.liftsFinal) : Bool) = true := by kernel_rfl
theorem primNames_fact27 : ((Tryz.prog.make == some Rows.primNamesRow.make) : Bool) = true := by kernel_rfl
theorem primNames_fact28 : ((Rows.primNamesRow.kinds == (if Rows.primNamesRow.domain.isEmpty then [] else Tryz.f5.params.toList.map fun t => match Tryz.prog.underlying t with | some (.int k) => some k | _ => none)) : Bool) = true := by kernel_rfl
theorem primNames_fact29 : ((Rows.primNamesRow.pinned == Rows.primNamesRow.pinnedBy) : Bool) = true := by kernel_rfl
theorem primNames_fact30 : ((Rows.primNamesRow.veiled == (Tryz.f5.params.toList ++ Rows.primNamesSpec.plain.varTypes Tryz.prog ++ Tryz.f5.resultTypes.toList).any (Tryz.prog.veiledRec ·)) : Bool) = true := by kernel_rfl
theorem primNames_fact31 : (Rows.primNamesRow.veiledFits Tryz.prog Tryz.f5.params.toList (Tryz.f5.params.toList ++ Rows.primNamesSpec.plain.varTypes Tryz.prog ++ Tryz.f5.resultTypes.toList) : Bool) = true := by kernel_rfl
set_option maxRecDepth 100000 in
theorem primNames_facts : joinedFacts Tryz.pinned.checked.prog 5 Tryz.f5 Rows.primNamesSpec Rows.primNamesRow = true := by
  unfold joinedFacts
  simp only [Bool.and_eq_true]
  exact ⟨⟨⟨⟨⟨⟨⟨⟨⟨⟨⟨⟨⟨⟨⟨⟨⟨⟨⟨⟨⟨⟨⟨⟨⟨⟨⟨⟨⟨⟨⟨primNames_fact0, primNames_fact1⟩, primNames_fact2⟩, primNames_fact3⟩, primNames_fact4⟩, primNames_fact5⟩, primNames_fact6⟩, primNames_fact7⟩, primNames_fact8⟩, primNames_fact9⟩, primNames_fact10⟩, primNames_fact11⟩, primNames_fact12⟩, primNames_fact13⟩, primNames_fact14⟩, primNames_fact15⟩, primNames_fact16⟩, primNames_fact17⟩, primNames_fact18⟩, primNames_fact19⟩, primNames_fact20⟩, primNames_fact21⟩, primNames_fact22⟩, primNames_fact23⟩, primNames_fact24⟩, primNames_fact25⟩, primNames_fact26⟩, primNames_fact27⟩, primNames_fact28⟩, primNames_fact29⟩, primNames_fact30⟩, primNames_fact31⟩
theorem primNames_inst : Tryz.f5.isInstance Tryz.pinned.checked.prog Rows.primNamesRow.origin Rows.primNamesRow.targs := of_decide_eq_true (by kernel_rfl)
theorem primNames_wrap : Tryz.f5.isWrapper Tryz.pinned.checked.prog Rows.primNamesRow.wrapper Rows.primNamesRow.mainSum := by
  unfold Func.isWrapper; first | (rw [if_pos (by decide +kernel)]; kernel_rfl) | (rw [if_neg (by decide +kernel)]; exact ⟨rfl, rfl⟩)
theorem primNames_holds : Rows.PrimNamesSaid :=
  OpenClaim.holds_of_wide 5 Tryz.f5 rfl rfl rfl rfl rfl rfl rfl ⟨rfl, rfl, rfl, rfl, rfl⟩ rfl rfl rfl rfl rfl primNames_named' Tryz.func5 primNames_facts primNames_inst primNames_wrap
    (fun os started H enc _ => primNames_lifted os started H enc)
/-- The tied card. -/
theorem primNames_card : Rows.PrimNamesCardSaid :=
  Claim7.holds_tied_plain_at .later [] [.data, .data, .data, .data, .listed, .data, .pinned] true (true, "761b297b4356aebc060d7f7319397b4b2f57b666343fc4c50c4fda11c65cb4ed") true primNames_holds (fun _ h => by cases h) (by kernel_rfl) (fun _ h => by cases h) primNames_row_tie rfl ⟨rfl, rfl⟩ (by kernel_rfl) rfl
    (fun f fn hf hfn => by
      obtain rfl : f = 5 := Option.some.inj ((show Tryz.prog.funcNamed Rows.primNamesRow.func = some 5 by kernel_rfl).symm.trans hf) |>.symm
      obtain rfl : fn = Tryz.f5 := (Option.some.inj (Tryz.func5.symm.trans hfn)).symm
      exact ⟨by kernel_rfl, fun j t ht => by
        rw [Tryz.params5] at ht
        have hm : t ∈ [9] := by simpa using Array.mem_of_getElem? ht
        obtain rfl := List.mem_singleton.1 hm
        exact (show Tryz.prog.wantsStandIn 9 = false by kernel_rfl)⟩)
    (by kernel_rfl)
#print axioms primNames_card
end Go.Proofs.YtkhgbpokoaklpaaGreatDoor
