/-
  DERIVED. GIVEN WITH THE SEED: THE CARDS: each row of YtkhgbpokoaklpaaGreatDoorRows.lean that lists a variable, with what it lists TIED to the program's text (the seventh form; the later family's looks); each row that meets fmt, with fmt's text TOLD by the authors' own Lean function (tested against real Go, not proved from fmt's source: count such statements apart). THE CARD IS WHAT COUNTS. Prove the row's statement (the work); the ties are given (YtkhgbpokoaklpaaGreatDoorTie.lean); close each card by the builder's one call (the guide's Derived/Test/ToyasCard.lean, 'card_holds'). Laid BY PROGRAM, IN A SANDBOX (cutbox-door.mjs). By AI agents, Wed Nov 11 2026. No macro, syntax, notation, axiom, sorry.
-/
import Derived.Test.YtkhgbpokoaklpaaGreatDoorRows
import GoSem.ClaimSeven
namespace Go.Proofs.YtkhgbpokoaklpaaGreatDoor
namespace Rows

/-- THE TIED CARD OF 'quirelaw14.DictNil'. -/
def dictNilCard : Claim7 := { stood := { row := dictNilRow, standIns := [], harness := (true, "761b297b4356aebc060d7f7319397b4b2f57b666343fc4c50c4fda11c65cb4ed"), looks := true }, kinds := [], alts := [], laidByText := true, laidKinds := [.data, .listed, .data, .pinned], laidTests := true, laidLooks := .later }
def DictNilCardSaid : Prop := Claim7.holds Tryz.pinned (.plain (OpenSpec.ofChange dictNilSpec)) dictNilCard

/-- THE TIED CARD OF 'quirelaw20.ImageNil'. -/
def imageNilCard : Claim7 := { stood := { row := imageNilRow, standIns := [], harness := (true, "761b297b4356aebc060d7f7319397b4b2f57b666343fc4c50c4fda11c65cb4ed"), looks := true }, kinds := [], alts := [], laidByText := true, laidKinds := [.data, .listed, .data, .pinned], laidTests := true, laidLooks := .later }
def ImageNilCardSaid : Prop := Claim7.holds Tryz.pinned (.plain (OpenSpec.ofChange imageNilSpec)) imageNilCard

/-- THE TIED CARD OF 'quirelaw12.PrimNames'. -/
def primNamesCard : Claim7 := { stood := { row := primNamesRow, standIns := [], harness := (true, "761b297b4356aebc060d7f7319397b4b2f57b666343fc4c50c4fda11c65cb4ed"), looks := true }, kinds := [], alts := [], laidByText := true, laidKinds := [.data, .data, .data, .data, .listed, .data, .pinned], laidTests := true, laidLooks := .later }
def PrimNamesCardSaid : Prop := Claim7.holds Tryz.pinned (.plain (OpenSpec.ofChange primNamesSpec)) primNamesCard

/-- THE SECOND FORM's CARD OF 'quirelaw14.DictNil'. -/
def dictNilUptoCard : Claim7 := { stood := { row := dictNilUptoRow, standIns := [], harness := (true, "761b297b4356aebc060d7f7319397b4b2f57b666343fc4c50c4fda11c65cb4ed"), looks := true }, kinds := [], alts := [], laidByText := true, laidKinds := [.data, .listed, .data, .pinned], laidTests := true, laidLooks := .later }
def DictNilUptoCardSaid : Prop := Claim7.holds Tryz.pinned (.plain (OpenSpec.upto dictNilSpec)) dictNilUptoCard

/-- THE SECOND FORM's CARD OF 'quirelaw20.ImageNil'. -/
def imageNilUptoCard : Claim7 := { stood := { row := imageNilUptoRow, standIns := [], harness := (true, "761b297b4356aebc060d7f7319397b4b2f57b666343fc4c50c4fda11c65cb4ed"), looks := true }, kinds := [], alts := [], laidByText := true, laidKinds := [.data, .listed, .data, .pinned], laidTests := true, laidLooks := .later }
def ImageNilUptoCardSaid : Prop := Claim7.holds Tryz.pinned (.plain (OpenSpec.upto imageNilSpec)) imageNilUptoCard

/-- THE SECOND FORM's CARD OF 'quirelaw12.PrimNames'. -/
def primNamesUptoCard : Claim7 := { stood := { row := primNamesUptoRow, standIns := [], harness := (true, "761b297b4356aebc060d7f7319397b4b2f57b666343fc4c50c4fda11c65cb4ed"), looks := true }, kinds := [], alts := [], laidByText := true, laidKinds := [.data, .data, .data, .data, .listed, .data, .pinned], laidTests := true, laidLooks := .later }
def PrimNamesUptoCardSaid : Prop := Claim7.holds Tryz.pinned (.plain (OpenSpec.upto primNamesSpec)) primNamesUptoCard
end Rows
end Go.Proofs.YtkhgbpokoaklpaaGreatDoor
