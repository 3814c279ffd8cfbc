/- The law ImageNil returns true, and what was there stays: whatever the world, whatever the tape. No condition beyond the statement's own. -/
import Derived.Test.YtkhgbpokoaklpaaGreatDoorAmTop
import Derived.Test.YtkhgbpokoaklpaaGreatDoorRows
import Derived.Test.YtkhgbpokoaklpaaGreatDoorTie
import Derived.Test.YtkhgbpokoaklpaaGreatDoorCards
import Derived.WalkKit
import Derived.ProofKit
import Derived.OpenShut
import Derived.LaidMore
import Derived.Lay
import Derived.SevenTiedAt
import Derived.Stop.Joined
namespace Go.Proofs.YtkhgbpokoaklpaaGreatDoor
open Go.ChangeShapes Go.WideShapes Go.ChangeAt Go.RowKit Go.AM

/-- The evaluator's look at the program. -/
noncomputable def imageNilEnv : Env := { mkEnv Tryz.prog with ng := 0 }
def imageNilOk (r : Option (Value × St)) : Bool := match r with
  | some (.bool true, _) => true
  | _ => false

set_option maxRecDepth 100000 in
set_option maxHeartbeats 0 in
theorem imageNil_run : imageNilOk ((big imageNilEnv 100000).call 4 [] (startSt 0 [])) = true := by kernel_rfl

theorem imageNil_names : Tryz.prog.funcs.all (fun g => !(g.name == "runtime.NumGoroutine")) = true := by kernel_rfl
theorem imageNil_mix : Tryz.prog.follows .mixedOrders = true := by kernel_rfl
theorem imageNil_ext : Tryz.prog.funcs.all (fun g => !(extNames.contains g.name) || (Extern.allNextRows.lookup g.origin).isNone) = true := by kernel_rfl
theorem imageNil_own : ownKnob Tryz.prog.godebug = none := by kernel_rfl

theorem imageNil_walk (w : World) :
    Calls Tryz.prog 4 #[] w fun e w' => e = .returned (.bool true) ∧ w.keptBut w' (fun _ => False) := by
  have hr := imageNil_run
  cases hq : (big imageNilEnv 100000).call 4 [] (startSt 0 []) with
  | none => rw [hq] at hr; cases hr
  | some r =>
    obtain ⟨v, A'⟩ := r
    have hv : v = .bool true := by
      rw [hq] at hr
      unfold imageNilOk at hr
      split at hr
      · rename_i h; simp only [Option.some.injEq, Prod.mk.injEq] at h; exact h.1
      · cases hr
    subst hv
    have ok : EnvOk imageNilEnv Tryz.prog ByteArray.empty := (envOk Tryz.prog [] (fun l h => by cases h) imageNil_names imageNil_mix (ext_ok _ imageNil_ext)).ng 0
    refine (calls_closed ok hq rfl (Nat.le_refl _) (Nat.zero_le _) (fun r hr => by cases hr) (fun r hr => by cases hr)).mono ?_
    rintro e w' ⟨h1, h2, _⟩
    exact ⟨h1, h2⟩

set_option maxRecDepth 100000 in
theorem imageNil_lifted (os : Os) (started : os.Started) (H : Type) (enc : TypeId × Value → H) :
    ReturnsInHanded {} Tryz.checked os 4 .any (fun w args => (Rows.imageNilSpec.pre enc Tryz.prog Tryz.f4 Rows.imageNilRow.domain false w args ∧ laidMetH Tryz.prog Rows.imageNilRow.laid w) ∧ sizedMet enc Tryz.prog Tryz.f4 (OpenSpec.ofChange Rows.imageNilSpec) false w args)
      (Rows.imageNilSpec.post enc Tryz.prog Tryz.f4 false true false false) := by
  refine returnsInHanded_of_change_and (C := Tryz.checked) (X := fun w _ => laidMetH Tryz.prog Rows.imageNilRow.laid w) (fun _ _ _ hh h => h.of_heap hh) imageNil_own started (by kernel_rfl) Tryz.func4
    (ChangeSpec.witness_shaped (enc := enc) (C := Tryz.checked) (os := os) (X := fun w _ => laidMetH Tryz.prog Rows.imageNilRow.laid w) false (World.laidAll Tryz.prog os Rows.imageNilRow.laid) #[] 8 (World.laidAll_os _ _ _)
      (World.shaped_of_ZipB (by kernel_rfl) (by kernel_rfl)) (by kernel_rfl) (by kernel_rfl) (by kernel_rfl)
      (by rw [MakeChecks.laidMetH_plain _ _ _ (by kernel_rfl)]; exact laidMet_laidAll _ (by kernel_rfl) (by kernel_rfl))) ?_
  intro W base args ds gs before hval0 hW hc _ hL _
  have hW' := hW
  obtain ⟨p, q, hA0, hV, rfl, _, _⟩ := hW
  have hA : DataW.TrodAll enc Tryz.prog W 0 (fun _ => true) true Tryz.f4.params.toList args.toList ds p := hA0
  rw [Tryz.params4] at hA
  obtain ⟨rfl, rfl, rfl⟩ := trodAll_none hA
  obtain ⟨rfl, rfl⟩ := trodVars_none hV
  simp only [List.append_nil] at hW'
  refine (imageNil_walk W).mono fun e W' ⟨he, hg⟩ => ?_
  subst he
  refine ⟨_, rfl, _, _, _, [], [], [], hW', ?_, ?_, ?_, ?_, fun h => by cases h⟩
  · exact trodAll_mk1 (shut_bool Tryz.underlying4 true)
  · exact trodAll_mk0
  · rfl
  · exact World.keptBut_mono (fun _ h => h.elim) hg

theorem imageNil_named' : Tryz.pinned.checked.prog.funcNamed Rows.imageNilRow.func = some 4 := by kernel_rfl
theorem imageNil_fact0 : (Rows.imageNilRow.wf (OpenSpec.ofChange Rows.imageNilSpec) : Bool) = true := by kernel_rfl
theorem imageNil_fact1 : (laidOutB Tryz.prog : Bool) = true := by kernel_rfl
theorem imageNil_fact2 : (mapsRowed Tryz.prog : Bool) = true := by kernel_rfl
theorem imageNil_fact3 : (Tryz.f4.params.all (Tryz.prog.readableRec ·) : Bool) = true := by kernel_rfl
theorem imageNil_fact4 : (namedTie Tryz.prog Rows.imageNilRow.named Rows.imageNilSpec.vars : Bool) = true := by kernel_rfl
theorem imageNil_fact5 : ((Rows.imageNilRow.stops == []) : Bool) = true := by kernel_rfl
theorem imageNil_fact6 : ((Tryz.prog.stops == []) : Bool) = true := by kernel_rfl
theorem imageNil_fact7 : ((Rows.imageNilRow.knobs == []) : Bool) = true := by kernel_rfl
theorem imageNil_fact8 : ((Tryz.prog.stopKnobs == []) : Bool) = true := by kernel_rfl
theorem imageNil_fact9 : ((Rows.imageNilRow.inPlace == Tryz.prog.inPlace 4) : Bool) = true := by kernel_rfl
theorem imageNil_fact10 : ((Rows.imageNilRow.unfollowed == Tryz.prog.unfollowed 4) : Bool) = true := by kernel_rfl
theorem imageNil_fact11 : ((Rows.imageNilRow.recurses == Tryz.prog.recurses 4) : Bool) = true := by kernel_rfl
theorem imageNil_fact12 : ((Rows.imageNilRow.named == Tryz.prog.varsNamed 4) : Bool) = true := by kernel_rfl
theorem imageNil_fact13 : ((Rows.imageNilRow.maps == (Tryz.f4.params.toList ++ Rows.imageNilSpec.plain.varTypes Tryz.prog).any (Tryz.prog.mapsRec ·)) : Bool) = true := by kernel_rfl
theorem imageNil_fact14 : ((Rows.imageNilRow.ifaces == (Tryz.f4.params.toList ++ Rows.imageNilSpec.plain.varTypes Tryz.prog).any (Tryz.prog.ifacesRec ·)) : Bool) = true := by kernel_rfl
theorem imageNil_fact15 : ((Rows.imageNilRow.mapsOut == Tryz.prog.mapsAmong Tryz.f4.resultTypes.toList) : Bool) = true := by kernel_rfl
theorem imageNil_fact16 : ((Rows.imageNilRow.loops == (Tryz.f4.params.toList ++ Rows.imageNilSpec.plain.varTypes Tryz.prog).any (Tryz.prog.loopsFrom ·)) : Bool) = true := by kernel_rfl
theorem imageNil_fact17 : ((Rows.imageNilRow.wideKeys == (Tryz.f4.params.toList ++ Rows.imageNilSpec.plain.varTypes Tryz.prog ++ Tryz.f4.resultTypes.toList).any (Tryz.prog.wideKeysFrom ·)) : Bool) = true := by kernel_rfl
theorem imageNil_fact18 : (Rows.imageNilSpec.vars.all (Tryz.prog.varReadable ·) : Bool) = true := by kernel_rfl
theorem imageNil_fact19 : (Tryz.f4.resultTypes.all (fun t => Tryz.prog.readableRec t && decide (t < Tryz.prog.types.size)) : Bool) = true := by kernel_rfl
theorem imageNil_fact20 : ((Rows.imageNilRow.ifacesOut == Tryz.f4.resultTypes.toList.any (Tryz.prog.ifacesRec ·)) : Bool) = true := by kernel_rfl
theorem imageNil_fact21 : ((Rows.imageNilRow.loopsOut == Tryz.f4.resultTypes.toList.any (Tryz.prog.loopsFrom ·)) : Bool) = true := by kernel_rfl
theorem imageNil_fact22 : ((Rows.imageNilRow.plainKeys == Tryz.prog.plainKeys) : Bool) = true := by kernel_rfl
theorem imageNil_fact23 : (Rows.imageNilRow.shortTexts.isNone : Bool) = true := by kernel_rfl
theorem imageNil_fact24 : (Tryz.prog.stopsHeard : Bool) = true := by kernel_rfl
theorem imageNil_fact25 : (Tryz.prog.mayEnter : Bool) = true := by kernel_rfl
theorem imageNil_fact26 : ((Rows.imageNilRow.lifted == Tryz.prog.liftsFinal) : Bool) = true := by kernel_rfl
theorem imageNil_fact27 : ((Tryz.prog.make == some Rows.imageNilRow.make) : Bool) = true := by kernel_rfl
theorem imageNil_fact28 : ((Rows.imageNilRow.kinds == (if Rows.imageNilRow.domain.isEmpty then [] else Tryz.f4.params.toList.map fun t => match Tryz.prog.underlying t with | some (.int k) => some k | _ => none)) : Bool) = true := by kernel_rfl
theorem imageNil_fact29 : ((Rows.imageNilRow.pinned == Rows.imageNilRow.pinnedBy) : Bool) = true := by kernel_rfl
theorem imageNil_fact30 : ((Rows.imageNilRow.veiled == (Tryz.f4.params.toList ++ Rows.imageNilSpec.plain.varTypes Tryz.prog ++ Tryz.f4.resultTypes.toList).any (Tryz.prog.veiledRec ·)) : Bool) = true := by kernel_rfl
theorem imageNil_fact31 : (Rows.imageNilRow.veiledFits Tryz.prog Tryz.f4.params.toList (Tryz.f4.params.toList ++ Rows.imageNilSpec.plain.varTypes Tryz.prog ++ Tryz.f4.resultTypes.toList) : Bool) = true := by kernel_rfl
set_option maxRecDepth 100000 in
theorem imageNil_facts : joinedFacts Tryz.pinned.checked.prog 4 Tryz.f4 Rows.imageNilSpec Rows.imageNilRow = true := by
  unfold joinedFacts
  simp only [Bool.and_eq_true]
  exact ⟨⟨⟨⟨⟨⟨⟨⟨⟨⟨⟨⟨⟨⟨⟨⟨⟨⟨⟨⟨⟨⟨⟨⟨⟨⟨⟨⟨⟨⟨⟨imageNil_fact0, imageNil_fact1⟩, imageNil_fact2⟩, imageNil_fact3⟩, imageNil_fact4⟩, imageNil_fact5⟩, imageNil_fact6⟩, imageNil_fact7⟩, imageNil_fact8⟩, imageNil_fact9⟩, imageNil_fact10⟩, imageNil_fact11⟩, imageNil_fact12⟩, imageNil_fact13⟩, imageNil_fact14⟩, imageNil_fact15⟩, imageNil_fact16⟩, imageNil_fact17⟩, imageNil_fact18⟩, imageNil_fact19⟩, imageNil_fact20⟩, imageNil_fact21⟩, imageNil_fact22⟩, imageNil_fact23⟩, imageNil_fact24⟩, imageNil_fact25⟩, imageNil_fact26⟩, imageNil_fact27⟩, imageNil_fact28⟩, imageNil_fact29⟩, imageNil_fact30⟩, imageNil_fact31⟩
theorem imageNil_inst : Tryz.f4.isInstance Tryz.pinned.checked.prog Rows.imageNilRow.origin Rows.imageNilRow.targs := of_decide_eq_true (by kernel_rfl)
theorem imageNil_wrap : Tryz.f4.isWrapper Tryz.pinned.checked.prog Rows.imageNilRow.wrapper Rows.imageNilRow.mainSum := by
  unfold Func.isWrapper; first | (rw [if_pos (by decide +kernel)]; kernel_rfl) | (rw [if_neg (by decide +kernel)]; exact ⟨rfl, rfl⟩)

theorem imageNil_holds : Rows.ImageNilSaid :=
  OpenClaim.holds_of_wide 4 Tryz.f4 rfl rfl rfl rfl rfl rfl rfl ⟨rfl, rfl, rfl, rfl, rfl⟩ rfl rfl rfl rfl rfl imageNil_named' Tryz.func4 imageNil_facts imageNil_inst imageNil_wrap
    (fun os started H enc _ => imageNil_lifted os started H enc)

/-- The tied card. -/
theorem imageNil_card : Rows.ImageNilCardSaid :=
  Claim7.holds_tied_plain_at .later [] [.data, .listed, .data, .pinned] true (true, "761b297b4356aebc060d7f7319397b4b2f57b666343fc4c50c4fda11c65cb4ed") true imageNil_holds (fun _ h => by cases h) (by kernel_rfl) (fun _ h => by cases h) imageNil_row_tie rfl ⟨rfl, rfl⟩ (by kernel_rfl) rfl
    (fun f fn hf hfn => by
      obtain rfl : f = 4 := Option.some.inj ((show Tryz.prog.funcNamed Rows.imageNilRow.func = some 4 by kernel_rfl).symm.trans hf) |>.symm
      obtain rfl : fn = Tryz.f4 := (Option.some.inj (Tryz.func4.symm.trans hfn)).symm
      exact ⟨by kernel_rfl, fun j t ht => by
        rw [Tryz.params4] at ht
        simp at ht⟩)
    (by kernel_rfl)
#print axioms imageNil_card
end Go.Proofs.YtkhgbpokoaklpaaGreatDoor
