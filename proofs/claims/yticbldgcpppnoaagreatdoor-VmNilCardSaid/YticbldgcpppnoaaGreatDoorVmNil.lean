/- The law VmNil returns true at every name, and what was there stays. No condition beyond the statement's own. -/
import Derived.Test.YticbldgcpppnoaaGreatDoorVmKn
import Derived.Test.YticbldgcpppnoaaGreatDoorRows
import Derived.Test.YticbldgcpppnoaaGreatDoorTie
import Derived.Test.YticbldgcpppnoaaGreatDoorCards
import Derived.WalkKit
import Derived.ProofKit
import Derived.OpenShut
import Derived.LaidMore
import Derived.Lay
import Derived.SevenTiedAt
import Derived.Stop.Joined
namespace Go.Proofs.YticbldgcpppnoaaGreatDoor
set_option maxRecDepth 1000000
open Go Go.ChangeMaps Go.ChangeShapes Go.WideShapes Go.ChangeAt Go.RowKit Go.AM

theorem pn_names : Tryz.prog.funcs.all (fun g => !(g.name == "runtime.NumGoroutine")) = true := by kernel_rfl
theorem pn_mix : Tryz.prog.follows .mixedOrders = true := by kernel_rfl
theorem pn_ext : Tryz.prog.funcs.all (fun g => !(extNames.contains g.name) || (Extern.allNextRows.lookup g.origin).isNone) = true := by kernel_rfl
theorem pn_own : ownKnob Tryz.prog.godebug = none := by kernel_rfl

theorem ok0 (nm : ByteArray) : EnvOk E0 Tryz.prog nm := (envOk Tryz.prog [] (fun _ h => by cases h) pn_names pn_mix (ext_ok _ pn_ext)).ng 1
theorem kF_ok (nm : ByteArray) : KnownOk Tryz.prog nm kF := known_of_run (ok0 nm) (Nat.le_refl 1) kF_run
theorem ok1 (nm : ByteArray) : EnvOk E1 Tryz.prog nm := (ok0 nm).knows _ fun k hk => by
  obtain rfl := List.mem_singleton.1 hk
  exact kF_ok nm
theorem kN_ok (nm : ByteArray) : KnownOk Tryz.prog nm kN := known_of_run (ok1 nm) (Nat.le_refl 1) kN_run
theorem ok2 (nm : ByteArray) : EnvOk E2 Tryz.prog nm := (ok0 nm).knows _ fun k hk => by
  rcases List.mem_cons.1 hk with rfl | hk
  · exact kF_ok nm
  · obtain rfl := List.mem_singleton.1 hk
    exact kN_ok nm

theorem law_walk (c : ByteArray) (w : World) (hrow : ∃ t fz, w.heap[0]? = some (.cells asc.cells.toArray t fz)) :
    Calls Tryz.prog 3 #[.string c] w fun e w' => e = .returned (.bool true) ∧ w.keptBut w' (fun _ => False) := by
  obtain ⟨t, fz, hrow⟩ := hrow
  have hn : 1 ≤ w.heap.size := (Array.getElem?_eq_some_iff.1 hrow).1
  have hpl : asc.cells.all plainV = true := by kernel_rfl
  have start : ∀ nm : ByteArray, WR nm (fun b => w.heap[b]?) w (glPl w 1) (startSt 1 (withEl (fun _ => t) [asc])) w := fun nm =>
    start_ok hn (fun r hr => by
      obtain rfl := List.mem_singleton.1 hr
      exact ⟨Nat.lt_succ_self 0, fz, hrow⟩) (fun r hr v hv => by
      obtain rfl := List.mem_singleton.1 hr
      exact .of_plainV (List.all_eq_true.1 hpl v hv))
  have gl : Gl E2 (glPl w 1) := fun g hg => ⟨_, by unfold glPl; rw [if_pos (by have : E2.ng = 1 := rfl; omega)], rfl, rfl⟩
  have hr := law_run (fun _ => t)
  cases hq : (big E2 100000).call 3 [.float .f64 0] (startSt 1 (withEl (fun _ => t) [asc])) with
  | none => rw [hq] at hr; cases hr
  | some r =>
    obtain ⟨v, A'⟩ := r
    have hv : v = .bool true := by
      rw [hq] at hr
      unfold okOf at hr
      split at hr
      · rename_i h; simp only [Option.some.injEq, Prod.mk.injEq] at h; exact h.1
      · cases hr
    subst hv
    refine Calls.mono ((big_ok (ok2 c) 100000).2.2 3 _ _ _ A' hq _ w _ w #[.string c] (start _) gl (.cons .sym .nil)) ?_
    rintro e w' ⟨φ', v', _, _, hW, hv, rfl⟩
    rw [hv.plainV_eq rfl]
    exact ⟨rfl, keptBut_of_key rfl hW⟩

/-! ### The row -/
def dOf : Value → DataW Unit
  | .int k n => .lit (.int k n)
  | _ => .nil
theorem asc_row {W : World} (h : laidMetH Tryz.prog Rows.vmNilRow.laid W) : ∃ t fz, W.heap[0]? = some (.cells asc.cells.toArray t fz) := by
  rw [MakeChecks.laidMetH_plain _ _ _ (by kernel_rfl)] at h
  obtain ⟨ps, hl, _, _⟩ := h
  obtain ⟨_, _, _, _, _, _, _, _, _, _, hl, _⟩ := hl
  obtain ⟨_, _, _, _, _, _, _, _, _, _, hl, _⟩ := hl
  obtain ⟨g, t, cs, fuel, p, q, hg, ht, hv, hd, _, _⟩ := hl
  obtain rfl := Option.some.inj ((show Tryz.prog.globalNamed "strings.asciiSpace" = some 0 by kernel_rfl).symm.trans hg)
  obtain rfl := Option.some.inj ((show (Tryz.prog.globals[0]?).map (·.type) = some 158 by kernel_rfl).symm.trans ht)
  obtain ⟨xs, m, _, ex, hlen0, hl, hel⟩ := DataW.trod_array Tryz.underlying158 hd
  have c5 : Tryz.prog.cellsOf 5 = 1 := by kernel_rfl
  have e3 : xs.map (·.1) = asc.cells.map dOf := (DataW.agg.inj (Prod.mk.inj ex).1).symm.trans (by kernel_rfl)
  have hxl : xs.length = 256 := hl
  have hcell : ∀ r, r < 256 → cs[r]? = asc.cells[r]? := by
    intro r hr
    have hE := hel r hr
    rw [c5, Nat.mul_one, List.getElem?_eq_getElem (by omega)] at hE
    obtain ⟨z, e1, e2, _⟩ := DataW.trod_int Tryz.underlying5 hE
    have h0 : cs[r]? = some (.int .u8 z) := by
      have h0 : ((cs.toList.drop r).take 1)[0]? = some (.int .u8 z) := by rw [e1]; rfl
      simpa using h0
    rw [h0]
    have hform : asc.cells[r]? = some (.int .u8 (if ascOf r then 1 else 0)) := by simp [asc, hr]
    have e4 : (xs.map (·.1))[r]? = (asc.cells.map dOf)[r]? := by rw [e3]
    rw [List.getElem?_map, List.getElem?_map, List.getElem?_eq_getElem (by omega : r < xs.length), e2, hform] at e4
    have e5 : (DataW.lit (.int .u8 z) : DataW Unit) = .lit (.int .u8 (if ascOf r then 1 else 0)) := Option.some.inj e4
    have e6 : z = if ascOf r then 1 else 0 := by
      simp only [DataW.lit.injEq, Lit.int.injEq, true_and] at e5
      exact e5
    rw [hform, e6]
  have hsz : cs.size = 256 := by
    have c228 : Tryz.prog.cellsOf 158 = 256 := by kernel_rfl
    rw [c228] at hlen0
    simpa using hlen0
  have hcs : cs = asc.cells.toArray := by
    apply Array.ext'
    apply List.ext_getElem?
    intro i
    rcases Nat.lt_or_ge i 256 with h | h
    · have := hcell i h
      simpa using this
    · have hlen : asc.cells.length = 256 := by kernel_rfl
      rw [List.getElem?_eq_none (by simp [hsz]; omega), List.getElem?_eq_none (by simp [hlen]; omega)]
  have hvar := hv
  simp only [World.var?, show Tryz.prog.globalNamed "strings.asciiSpace" = some 0 by kernel_rfl, Option.bind_some] at hvar
  split at hvar
  · rename_i cs' t' fz hh
    cases hvar
    rw [hcs] at hh
    exact ⟨t', fz, hh⟩
  · cases hvar

set_option maxRecDepth 100000 in
theorem vmNil_lifted (os : Os) (started : os.Started) (H : Type) (enc : TypeId × Value → H) :
    ReturnsInHanded {} Tryz.checked os 3 .any (fun w args => (Rows.vmNilSpec.pre enc Tryz.prog Tryz.f3 Rows.vmNilRow.domain false w args ∧ laidMetH Tryz.prog Rows.vmNilRow.laid w) ∧ sizedMet enc Tryz.prog Tryz.f3 (OpenSpec.ofChange Rows.vmNilSpec) false w args)
      (Rows.vmNilSpec.post enc Tryz.prog Tryz.f3 false true false false) := by
  refine returnsInHanded_of_change_and (C := Tryz.checked) (X := fun w _ => laidMetH Tryz.prog Rows.vmNilRow.laid w) (fun _ _ _ hh h => h.of_heap hh) pn_own started (by kernel_rfl) Tryz.func3
    (ChangeSpec.witness_shaped (enc := enc) (C := Tryz.checked) (os := os) (X := fun w _ => laidMetH Tryz.prog Rows.vmNilRow.laid w) false (World.laidAll Tryz.prog os Rows.vmNilRow.laid) #[.string .empty] 8 (World.laidAll_os _ _ _)
      (World.shaped_of_ZipB (by kernel_rfl) (by kernel_rfl)) (by kernel_rfl) (by kernel_rfl) (by kernel_rfl)
      (by rw [MakeChecks.laidMetH_plain _ _ _ (by kernel_rfl)]; exact laidMet_laidAll _ (by kernel_rfl) (by kernel_rfl))) ?_
  intro W base args ds gs before hval0 hW hc _ hL _
  have hval : ∀ (j : Nat) t v, Tryz.f3.params[j]? = some t → args[j]? = some v → Value.okWide Tryz.prog W .any base t v := hval0
  have hW' := hW
  obtain ⟨p, q, hA0, hV, rfl, _, _⟩ := hW
  have hA : DataW.TrodAll enc Tryz.prog W 0 (fun _ => true) true Tryz.f3.params.toList args.toList ds p := hA0
  rw [Tryz.params3] at hA hval
  obtain ⟨v0, d0, rfl, rfl, h0⟩ := trodAll_one hA
  obtain ⟨rfl, rfl⟩ := trodVars_none hV
  obtain ⟨c, rfl, rfl, rfl, wc⟩ := open_string Tryz.underlying9 (hval 0 9 v0 rfl rfl) h0
  simp only [List.append_nil] at hW'
  refine (law_walk c W (asc_row hL)).mono fun e W' ⟨he, hg⟩ => ?_
  subst he
  refine ⟨_, rfl, _, _, _, [], [], [], hW', ?_, ?_, ?_, ?_, fun h => by cases h⟩
  · exact trodAll_mk1 (shut_bool Tryz.underlying4 true)
  · exact trodAll_mk1 (shut_string Tryz.underlying9 wc)
  · rfl
  · exact World.keptBut_mono (fun _ h => h.elim) hg

theorem vmNil_named' : Tryz.pinned.checked.prog.funcNamed Rows.vmNilRow.func = some 3 := by kernel_rfl
theorem vmNil_fact0 : (Rows.vmNilRow.wf (OpenSpec.ofChange Rows.vmNilSpec) : Bool) = true := by kernel_rfl
theorem vmNil_fact1 : (laidOutB Tryz.prog : Bool) = true := by kernel_rfl
theorem vmNil_fact2 : (mapsRowed Tryz.prog : Bool) = true := by kernel_rfl
theorem vmNil_fact3 : (Tryz.f3.params.all (Tryz.prog.readableRec ·) : Bool) = true := by kernel_rfl
theorem vmNil_fact4 : (namedTie Tryz.prog Rows.vmNilRow.named Rows.vmNilSpec.vars : Bool) = true := by kernel_rfl
theorem vmNil_fact5 : ((Rows.vmNilRow.stops == []) : Bool) = true := by kernel_rfl
theorem vmNil_fact6 : ((Tryz.prog.stops == []) : Bool) = true := by kernel_rfl
theorem vmNil_fact7 : ((Rows.vmNilRow.knobs == []) : Bool) = true := by kernel_rfl
theorem vmNil_fact8 : ((Tryz.prog.stopKnobs == []) : Bool) = true := by kernel_rfl
theorem vmNil_fact9 : ((Rows.vmNilRow.inPlace == Tryz.prog.inPlace 3) : Bool) = true := by kernel_rfl
theorem vmNil_fact10 : ((Rows.vmNilRow.unfollowed == Tryz.prog.unfollowed 3) : Bool) = true := by kernel_rfl
theorem vmNil_fact11 : ((Rows.vmNilRow.recurses == Tryz.prog.recurses 3) : Bool) = true := by kernel_rfl
theorem vmNil_fact12 : ((Rows.vmNilRow.named == Tryz.prog.varsNamed 3) : Bool) = true := by kernel_rfl
theorem vmNil_fact13 : ((Rows.vmNilRow.maps == (Tryz.f3.params.toList ++ Rows.vmNilSpec.plain.varTypes Tryz.prog).any (Tryz.prog.mapsRec ·)) : Bool) = true := by kernel_rfl
theorem vmNil_fact14 : ((Rows.vmNilRow.ifaces == (Tryz.f3.params.toList ++ Rows.vmNilSpec.plain.varTypes Tryz.prog).any (Tryz.prog.ifacesRec ·)) : Bool) = true := by kernel_rfl
theorem vmNil_fact15 : ((Rows.vmNilRow.mapsOut == Tryz.prog.mapsAmong Tryz.f3.resultTypes.toList) : Bool) = true := by kernel_rfl
theorem vmNil_fact16 : ((Rows.vmNilRow.loops == (Tryz.f3.params.toList ++ Rows.vmNilSpec.plain.varTypes Tryz.prog).any (Tryz.prog.loopsFrom ·)) : Bool) = true := by kernel_rfl
theorem vmNil_fact17 : ((Rows.vmNilRow.wideKeys == (Tryz.f3.params.toList ++ Rows.vmNilSpec.plain.varTypes Tryz.prog ++ Tryz.f3.resultTypes.toList).any (Tryz.prog.wideKeysFrom ·)) : Bool) = true := by kernel_rfl
theorem vmNil_fact18 : (Rows.vmNilSpec.vars.all (Tryz.prog.varReadable ·) : Bool) = true := by kernel_rfl
theorem vmNil_fact19 : (Tryz.f3.resultTypes.all (fun t => Tryz.prog.readableRec t && decide (t < Tryz.prog.types.size)) : Bool) = true := by kernel_rfl
theorem vmNil_fact20 : ((Rows.vmNilRow.ifacesOut == Tryz.f3.resultTypes.toList.any (Tryz.prog.ifacesRec ·)) : Bool) = true := by kernel_rfl
theorem vmNil_fact21 : ((Rows.vmNilRow.loopsOut == Tryz.f3.resultTypes.toList.any (Tryz.prog.loopsFrom ·)) : Bool) = true := by kernel_rfl
theorem vmNil_fact22 : ((Rows.vmNilRow.plainKeys == Tryz.prog.plainKeys) : Bool) = true := by kernel_rfl
theorem vmNil_fact23 : (Rows.vmNilRow.shortTexts.isNone : Bool) = true := by kernel_rfl
theorem vmNil_fact24 : (Tryz.prog.stopsHeard : Bool) = true := by kernel_rfl
theorem vmNil_fact25 : (Tryz.prog.mayEnter : Bool) = true := by kernel_rfl
theorem vmNil_fact26 : ((Rows.vmNilRow.lifted == Tryz.prog.liftsFinal) : Bool) = true := by kernel_rfl
theorem vmNil_fact27 : ((Tryz.prog.make == some Rows.vmNilRow.make) : Bool) = true := by kernel_rfl
theorem vmNil_fact28 : ((Rows.vmNilRow.kinds == (if Rows.vmNilRow.domain.isEmpty then [] else Tryz.f3.params.toList.map fun t => match Tryz.prog.underlying t with | some (.int k) => some k | _ => none)) : Bool) = true := by kernel_rfl
theorem vmNil_fact29 : ((Rows.vmNilRow.pinned == Rows.vmNilRow.pinnedBy) : Bool) = true := by kernel_rfl
theorem vmNil_fact30 : ((Rows.vmNilRow.veiled == (Tryz.f3.params.toList ++ Rows.vmNilSpec.plain.varTypes Tryz.prog ++ Tryz.f3.resultTypes.toList).any (Tryz.prog.veiledRec ·)) : Bool) = true := by kernel_rfl
theorem vmNil_fact31 : (Rows.vmNilRow.veiledFits Tryz.prog Tryz.f3.params.toList (Tryz.f3.params.toList ++ Rows.vmNilSpec.plain.varTypes Tryz.prog ++ Tryz.f3.resultTypes.toList) : Bool) = true := by kernel_rfl
set_option maxRecDepth 100000 in
theorem vmNil_facts : joinedFacts Tryz.pinned.checked.prog 3 Tryz.f3 Rows.vmNilSpec Rows.vmNilRow = true := by
  unfold joinedFacts
  simp only [Bool.and_eq_true]
  exact ⟨⟨⟨⟨⟨⟨⟨⟨⟨⟨⟨⟨⟨⟨⟨⟨⟨⟨⟨⟨⟨⟨⟨⟨⟨⟨⟨⟨⟨⟨⟨vmNil_fact0, vmNil_fact1⟩, vmNil_fact2⟩, vmNil_fact3⟩, vmNil_fact4⟩, vmNil_fact5⟩, vmNil_fact6⟩, vmNil_fact7⟩, vmNil_fact8⟩, vmNil_fact9⟩, vmNil_fact10⟩, vmNil_fact11⟩, vmNil_fact12⟩, vmNil_fact13⟩, vmNil_fact14⟩, vmNil_fact15⟩, vmNil_fact16⟩, vmNil_fact17⟩, vmNil_fact18⟩, vmNil_fact19⟩, vmNil_fact20⟩, vmNil_fact21⟩, vmNil_fact22⟩, vmNil_fact23⟩, vmNil_fact24⟩, vmNil_fact25⟩, vmNil_fact26⟩, vmNil_fact27⟩, vmNil_fact28⟩, vmNil_fact29⟩, vmNil_fact30⟩, vmNil_fact31⟩
theorem vmNil_inst : Tryz.f3.isInstance Tryz.pinned.checked.prog Rows.vmNilRow.origin Rows.vmNilRow.targs := of_decide_eq_true (by kernel_rfl)
theorem vmNil_wrap : Tryz.f3.isWrapper Tryz.pinned.checked.prog Rows.vmNilRow.wrapper Rows.vmNilRow.mainSum := by
  unfold Func.isWrapper; first | (rw [if_pos (by decide +kernel)]; kernel_rfl) | (rw [if_neg (by decide +kernel)]; exact ⟨rfl, rfl⟩)
theorem vmNil_holds : Rows.VmNilSaid :=
  OpenClaim.holds_of_wide 3 Tryz.f3 rfl rfl rfl rfl rfl rfl rfl ⟨rfl, rfl, rfl, rfl, rfl⟩ rfl rfl rfl rfl rfl vmNil_named' Tryz.func3 vmNil_facts vmNil_inst vmNil_wrap
    (fun os started H enc _ => vmNil_lifted os started H enc)
/-- The tied card. -/
theorem vmNil_card : Rows.VmNilCardSaid :=
  Claim7.holds_tied_plain_at .later [] [.data, .listed, .data, .pinned] true (true, "d0be1362e318c237436fc2a75e11339120055334885ce8177fb537393b052169") true vmNil_holds (fun _ h => by cases h) (by kernel_rfl) (fun _ h => by cases h) vmNil_row_tie rfl ⟨rfl, rfl⟩ (by kernel_rfl) rfl
    (fun f fn hf hfn => by
      obtain rfl : f = 3 := Option.some.inj ((show Tryz.prog.funcNamed Rows.vmNilRow.func = some 3 by kernel_rfl).symm.trans hf) |>.symm
      obtain rfl : fn = Tryz.f3 := (Option.some.inj (Tryz.func3.symm.trans hfn)).symm
      exact ⟨by kernel_rfl, fun j t ht => by
        rw [Tryz.params3] at ht
        have hm : t ∈ [9] := by simpa using Array.mem_of_getElem? ht
        obtain rfl := List.mem_singleton.1 hm
        exact (show Tryz.prog.wantsStandIn 9 = false by kernel_rfl)⟩)
    (by kernel_rfl)
#print axioms vmNil_card
end Go.Proofs.YticbldgcpppnoaaGreatDoor
