/- The law DictNil returns true, and what was there stays: whatever the world, whatever the tape. No condition beyond the statement's own. -/
import Derived.Test.YtkhgbpokoaklpaaGreatDoorAmTop
import Derived.Test.YtkhgbpokoaklpaaGreatDoorRows
import Derived.Test.YtkhgbpokoaklpaaGreatDoorTie
import Derived.Test.YtkhgbpokoaklpaaGreatDoorCards
import Derived.WalkKit
import Derived.ProofKit
import Derived.OpenShut
import Derived.LaidMore
import Derived.Lay
import Derived.SevenTiedAt
import Derived.Stop.Joined
namespace Go.Proofs.YtkhgbpokoaklpaaGreatDoor
open Go.ChangeShapes Go.WideShapes Go.ChangeAt Go.RowKit Go.AM

/-- The evaluator's look at the program. -/
noncomputable def dictNilEnv : Env := { mkEnv Tryz.prog with ng := 0 }
def dictNilOk (r : Option (Value × St)) : Bool := match r with
  | some (.bool true, _) => true
  | _ => false

set_option maxRecDepth 100000 in
set_option maxHeartbeats 0 in
theorem dictNil_run : dictNilOk ((big dictNilEnv 100000).call 3 [] (startSt 0 [])) = true := by kernel_rfl

theorem dictNil_names : Tryz.prog.funcs.all (fun g => !(g.name == "runtime.NumGoroutine")) = true := by kernel_rfl
theorem dictNil_mix : Tryz.prog.follows .mixedOrders = true := by kernel_rfl
theorem dictNil_ext : Tryz.prog.funcs.all (fun g => !(extNames.contains g.name) || (Extern.allNextRows.lookup g.origin).isNone) = true := by kernel_rfl
theorem dictNil_own : ownKnob Tryz.prog.godebug = none := by kernel_rfl

theorem dictNil_walk (w : World) :
    Calls Tryz.prog 3 #[] w fun e w' => e = .returned (.bool true) ∧ w.keptBut w' (fun _ => False) := by
  have hr := dictNil_run
  cases hq : (big dictNilEnv 100000).call 3 [] (startSt 0 []) with
  | none => rw [hq] at hr; cases hr
  | some r =>
    obtain ⟨v, A'⟩ := r
    have hv : v = .bool true := by
      rw [hq] at hr
      unfold dictNilOk at hr
      split at hr
      · rename_i h; simp only [Option.some.injEq, Prod.mk.injEq] at h; exact h.1
      · cases hr
    subst hv
    have ok : EnvOk dictNilEnv Tryz.prog ByteArray.empty := (envOk Tryz.prog [] (fun l h => by cases h) dictNil_names dictNil_mix (ext_ok _ dictNil_ext)).ng 0
    refine (calls_closed ok hq rfl (Nat.le_refl _) (Nat.zero_le _) (fun r hr => by cases hr) (fun r hr => by cases hr)).mono ?_
    rintro e w' ⟨h1, h2, _⟩
    exact ⟨h1, h2⟩

set_option maxRecDepth 100000 in
theorem dictNil_lifted (os : Os) (started : os.Started) (H : Type) (enc : TypeId × Value → H) :
    ReturnsInHanded {} Tryz.checked os 3 .any (fun w args => (Rows.dictNilSpec.pre enc Tryz.prog Tryz.f3 Rows.dictNilRow.domain false w args ∧ laidMetH Tryz.prog Rows.dictNilRow.laid w) ∧ sizedMet enc Tryz.prog Tryz.f3 (OpenSpec.ofChange Rows.dictNilSpec) false w args)
      (Rows.dictNilSpec.post enc Tryz.prog Tryz.f3 false true false false) := by
  refine returnsInHanded_of_change_and (C := Tryz.checked) (X := fun w _ => laidMetH Tryz.prog Rows.dictNilRow.laid w) (fun _ _ _ hh h => h.of_heap hh) dictNil_own started (by kernel_rfl) Tryz.func3
    (ChangeSpec.witness_shaped (enc := enc) (C := Tryz.checked) (os := os) (X := fun w _ => laidMetH Tryz.prog Rows.dictNilRow.laid w) false (World.laidAll Tryz.prog os Rows.dictNilRow.laid) #[] 8 (World.laidAll_os _ _ _)
      (World.shaped_of_ZipB (by kernel_rfl) (by kernel_rfl)) (by kernel_rfl) (by kernel_rfl) (by kernel_rfl)
      (by rw [MakeChecks.laidMetH_plain _ _ _ (by kernel_rfl)]; exact laidMet_laidAll _ (by kernel_rfl) (by kernel_rfl))) ?_
  intro W base args ds gs before hval0 hW hc _ hL _
  have hW' := hW
  obtain ⟨p, q, hA0, hV, rfl, _, _⟩ := hW
  have hA : DataW.TrodAll enc Tryz.prog W 0 (fun _ => true) true Tryz.f3.params.toList args.toList ds p := hA0
  rw [Tryz.params3] at hA
  obtain ⟨rfl, rfl, rfl⟩ := trodAll_none hA
  obtain ⟨rfl, rfl⟩ := trodVars_none hV
  simp only [List.append_nil] at hW'
  refine (dictNil_walk W).mono fun e W' ⟨he, hg⟩ => ?_
  subst he
  refine ⟨_, rfl, _, _, _, [], [], [], hW', ?_, ?_, ?_, ?_, fun h => by cases h⟩
  · exact trodAll_mk1 (shut_bool Tryz.underlying4 true)
  · exact trodAll_mk0
  · rfl
  · exact World.keptBut_mono (fun _ h => h.elim) hg

theorem dictNil_named' : Tryz.pinned.checked.prog.funcNamed Rows.dictNilRow.func = some 3 := by kernel_rfl
theorem dictNil_fact0 : (Rows.dictNilRow.wf (OpenSpec.ofChange Rows.dictNilSpec) : Bool) = true := by kernel_rfl
theorem dictNil_fact1 : (laidOutB Tryz.prog : Bool) = true := by kernel_rfl
theorem dictNil_fact2 : (mapsRowed Tryz.prog : Bool) = true := by kernel_rfl
theorem dictNil_fact3 : (Tryz.f3.params.all (Tryz.prog.readableRec ·) : Bool) = true := by kernel_rfl
theorem dictNil_fact4 : (namedTie Tryz.prog Rows.dictNilRow.named Rows.dictNilSpec.vars : Bool) = true := by kernel_rfl
theorem dictNil_fact5 : ((Rows.dictNilRow.stops == []) : Bool) = true := by kernel_rfl
theorem dictNil_fact6 : ((Tryz.prog.stops == []) : Bool) = true := by kernel_rfl
theorem dictNil_fact7 : ((Rows.dictNilRow.knobs == []) : Bool) = true := by kernel_rfl
theorem dictNil_fact8 : ((Tryz.prog.stopKnobs == []) : Bool) = true := by kernel_rfl
theorem dictNil_fact9 : ((Rows.dictNilRow.inPlace == Tryz.prog.inPlace 3) : Bool) = true := by kernel_rfl
theorem dictNil_fact10 : ((Rows.dictNilRow.unfollowed == Tryz.prog.unfollowed 3) : Bool) = true := by kernel_rfl
theorem dictNil_fact11 : ((Rows.dictNilRow.recurses == Tryz.prog.recurses 3) : Bool) = true := by kernel_rfl
theorem dictNil_fact12 : ((Rows.dictNilRow.named == Tryz.prog.varsNamed 3) : Bool) = true := by kernel_rfl
theorem dictNil_fact13 : ((Rows.dictNilRow.maps == (Tryz.f3.params.toList ++ Rows.dictNilSpec.plain.varTypes Tryz.prog).any (Tryz.prog.mapsRec ·)) : Bool) = true := by kernel_rfl
theorem dictNil_fact14 : ((Rows.dictNilRow.ifaces == (Tryz.f3.params.toList ++ Rows.dictNilSpec.plain.varTypes Tryz.prog).any (Tryz.prog.ifacesRec ·)) : Bool) = true := by kernel_rfl
theorem dictNil_fact15 : ((Rows.dictNilRow.mapsOut == Tryz.prog.mapsAmong Tryz.f3.resultTypes.toList) : Bool) = true := by kernel_rfl
theorem dictNil_fact16 : ((Rows.dictNilRow.loops == (Tryz.f3.params.toList ++ Rows.dictNilSpec.plain.varTypes Tryz.prog).any (Tryz.prog.loopsFrom ·)) : Bool) = true := by kernel_rfl
theorem dictNil_fact17 : ((Rows.dictNilRow.wideKeys == (Tryz.f3.params.toList ++ Rows.dictNilSpec.plain.varTypes Tryz.prog ++ Tryz.f3.resultTypes.toList).any (Tryz.prog.wideKeysFrom ·)) : Bool) = true := by kernel_rfl
theorem dictNil_fact18 : (Rows.dictNilSpec.vars.all (Tryz.prog.varReadable ·) : Bool) = true := by kernel_rfl
theorem dictNil_fact19 : (Tryz.f3.resultTypes.all (fun t => Tryz.prog.readableRec t && decide (t < Tryz.prog.types.size)) : Bool) = true := by kernel_rfl
theorem dictNil_fact20 : ((Rows.dictNilRow.ifacesOut == Tryz.f3.resultTypes.toList.any (Tryz.prog.ifacesRec ·)) : Bool) = true := by kernel_rfl
theorem dictNil_fact21 : ((Rows.dictNilRow.loopsOut == Tryz.f3.resultTypes.toList.any (Tryz.prog.loopsFrom ·)) : Bool) = true := by kernel_rfl
theorem dictNil_fact22 : ((Rows.dictNilRow.plainKeys == Tryz.prog.plainKeys) : Bool) = true := by kernel_rfl
theorem dictNil_fact23 : (Rows.dictNilRow.shortTexts.isNone : Bool) = true := by kernel_rfl
theorem dictNil_fact24 : (Tryz.prog.stopsHeard : Bool) = true := by kernel_rfl
theorem dictNil_fact25 : (Tryz.prog.mayEnter : Bool) = true := by kernel_rfl
theorem dictNil_fact26 : ((Rows.dictNilRow.lifted == Tryz.prog.liftsFinal) : Bool) = true := by kernel_rfl
theorem dictNil_fact27 : ((Tryz.prog.make == some Rows.dictNilRow.make) : Bool) = true := by kernel_rfl
theorem dictNil_fact28 : ((Rows.dictNilRow.kinds == (if Rows.dictNilRow.domain.isEmpty then [] else Tryz.f3.params.toList.map fun t => match Tryz.prog.underlying t with | some (.int k) => some k | _ => none)) : Bool) = true := by kernel_rfl
theorem dictNil_fact29 : ((Rows.dictNilRow.pinned == Rows.dictNilRow.pinnedBy) : Bool) = true := by kernel_rfl
theorem dictNil_fact30 : ((Rows.dictNilRow.veiled == (Tryz.f3.params.toList ++ Rows.dictNilSpec.plain.varTypes Tryz.prog ++ Tryz.f3.resultTypes.toList).any (Tryz.prog.veiledRec ·)) : Bool) = true := by kernel_rfl
theorem dictNil_fact31 : (Rows.dictNilRow.veiledFits Tryz.prog Tryz.f3.params.toList (Tryz.f3.params.toList ++ Rows.dictNilSpec.plain.varTypes Tryz.prog ++ Tryz.f3.resultTypes.toList) : Bool) = true := by kernel_rfl
set_option maxRecDepth 100000 in
theorem dictNil_facts : joinedFacts Tryz.pinned.checked.prog 3 Tryz.f3 Rows.dictNilSpec Rows.dictNilRow = true := by
  unfold joinedFacts
  simp only [Bool.and_eq_true]
  exact ⟨⟨⟨⟨⟨⟨⟨⟨⟨⟨⟨⟨⟨⟨⟨⟨⟨⟨⟨⟨⟨⟨⟨⟨⟨⟨⟨⟨⟨⟨⟨dictNil_fact0, dictNil_fact1⟩, dictNil_fact2⟩, dictNil_fact3⟩, dictNil_fact4⟩, dictNil_fact5⟩, dictNil_fact6⟩, dictNil_fact7⟩, dictNil_fact8⟩, dictNil_fact9⟩, dictNil_fact10⟩, dictNil_fact11⟩, dictNil_fact12⟩, dictNil_fact13⟩, dictNil_fact14⟩, dictNil_fact15⟩, dictNil_fact16⟩, dictNil_fact17⟩, dictNil_fact18⟩, dictNil_fact19⟩, dictNil_fact20⟩, dictNil_fact21⟩, dictNil_fact22⟩, dictNil_fact23⟩, dictNil_fact24⟩, dictNil_fact25⟩, dictNil_fact26⟩, dictNil_fact27⟩, dictNil_fact28⟩, dictNil_fact29⟩, dictNil_fact30⟩, dictNil_fact31⟩
theorem dictNil_inst : Tryz.f3.isInstance Tryz.pinned.checked.prog Rows.dictNilRow.origin Rows.dictNilRow.targs := of_decide_eq_true (by kernel_rfl)
theorem dictNil_wrap : Tryz.f3.isWrapper Tryz.pinned.checked.prog Rows.dictNilRow.wrapper Rows.dictNilRow.mainSum := by
  unfold Func.isWrapper; first | (rw [if_pos (by decide +kernel)]; kernel_rfl) | (rw [if_neg (by decide +kernel)]; exact ⟨rfl, rfl⟩)

theorem dictNil_holds : Rows.DictNilSaid :=
  OpenClaim.holds_of_wide 3 Tryz.f3 rfl rfl rfl rfl rfl rfl rfl ⟨rfl, rfl, rfl, rfl, rfl⟩ rfl rfl rfl rfl rfl dictNil_named' Tryz.func3 dictNil_facts dictNil_inst dictNil_wrap
    (fun os started H enc _ => dictNil_lifted os started H enc)

/-- The tied card. -/
theorem dictNil_card : Rows.DictNilCardSaid :=
  Claim7.holds_tied_plain_at .later [] [.data, .listed, .data, .pinned] true (true, "761b297b4356aebc060d7f7319397b4b2f57b666343fc4c50c4fda11c65cb4ed") true dictNil_holds (fun _ h => by cases h) (by kernel_rfl) (fun _ h => by cases h) dictNil_row_tie rfl ⟨rfl, rfl⟩ (by kernel_rfl) rfl
    (fun f fn hf hfn => by
      obtain rfl : f = 3 := Option.some.inj ((show Tryz.prog.funcNamed Rows.dictNilRow.func = some 3 by kernel_rfl).symm.trans hf) |>.symm
      obtain rfl : fn = Tryz.f3 := (Option.some.inj (Tryz.func3.symm.trans hfn)).symm
      exact ⟨by kernel_rfl, fun j t ht => by
        rw [Tryz.params3] at ht
        simp at ht⟩)
    (by kernel_rfl)
#print axioms dictNil_card
end Go.Proofs.YtkhgbpokoaklpaaGreatDoor
