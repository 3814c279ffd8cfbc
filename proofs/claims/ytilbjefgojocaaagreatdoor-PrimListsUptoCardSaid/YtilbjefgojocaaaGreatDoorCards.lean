/-
  DERIVED. GIVEN WITH THE SEED: THE CARDS: each row of YtilbjefgojocaaaGreatDoorRows.lean that lists a variable, with what it lists TIED to the program's text (the seventh form; the later family's looks); each row that meets fmt, with fmt's text TOLD by the authors' own Lean function (tested against real Go, not proved from fmt's source: count such statements apart). THE CARD IS WHAT COUNTS. Prove the row's statement (the work); the ties are given (YtilbjefgojocaaaGreatDoorTie.lean); close each card by the builder's one call (the guide's Derived/Test/ToyasCard.lean, 'card_holds'). Laid BY PROGRAM, IN A SANDBOX (cutbox-door.mjs). By AI agents, Wed Nov 11 2026. No macro, syntax, notation, axiom, sorry.
-/
import Derived.Test.YtilbjefgojocaaaGreatDoorRows
import GoSem.ClaimSeven
namespace Go.Proofs.YtilbjefgojocaaaGreatDoor
namespace Rows

/-- THE TIED CARD OF 'quirelaw12.PrimPlays'. -/
def primPlaysCard : Claim7 := { stood := { row := primPlaysRow, standIns := [], harness := (true, "ea4f6b5ab0f0a490235b1b4dfac6ff680351ac7800976076e1933e8a1c5a3a5d"), looks := true }, kinds := [], alts := [], laidByText := true, laidKinds := [.data, .data, .data, .data, .listed, .data, .pinned], laidTests := true, laidLooks := .later }
def PrimPlaysCardSaid : Prop := Claim7.holds Tryz.pinned (.plain (OpenSpec.ofChange primPlaysSpec)) primPlaysCard

/-- THE TIED CARD OF 'quirelaw12.PrimStacks'. -/
def primStacksCard : Claim7 := { stood := { row := primStacksRow, standIns := [], harness := (true, "ea4f6b5ab0f0a490235b1b4dfac6ff680351ac7800976076e1933e8a1c5a3a5d"), looks := true }, kinds := [], alts := [], laidByText := true, laidKinds := [.data, .data, .data, .data, .listed, .data, .pinned], laidTests := true, laidLooks := .later }
def PrimStacksCardSaid : Prop := Claim7.holds Tryz.pinned (.plain (OpenSpec.ofChange primStacksSpec)) primStacksCard

/-- THE TIED CARD OF 'quirelaw12.PrimLists'. -/
def primListsCard : Claim7 := { stood := { row := primListsRow, standIns := [], harness := (true, "ea4f6b5ab0f0a490235b1b4dfac6ff680351ac7800976076e1933e8a1c5a3a5d"), looks := true }, kinds := [], alts := [], laidByText := true, laidKinds := [.data, .data, .data, .data, .listed, .data, .pinned], laidTests := true, laidLooks := .later }
def PrimListsCardSaid : Prop := Claim7.holds Tryz.pinned (.plain (OpenSpec.ofChange primListsSpec)) primListsCard

/-- THE TIED CARD OF 'quirelaw12.PrimTexts'. -/
def primTextsCard : Claim7 := { stood := { row := primTextsRow, standIns := [], harness := (true, "ea4f6b5ab0f0a490235b1b4dfac6ff680351ac7800976076e1933e8a1c5a3a5d"), looks := true }, kinds := [], alts := [], laidByText := true, laidKinds := [.data, .data, .data, .data, .listed, .data, .pinned], laidTests := true, laidLooks := .later }
def PrimTextsCardSaid : Prop := Claim7.holds Tryz.pinned (.plain (OpenSpec.ofChange primTextsSpec)) primTextsCard

/-- THE TIED CARD OF 'quirelaw12.PrimKeeps'. -/
def primKeepsCard : Claim7 := { stood := { row := primKeepsRow, standIns := [], harness := (true, "ea4f6b5ab0f0a490235b1b4dfac6ff680351ac7800976076e1933e8a1c5a3a5d"), looks := true }, kinds := [], alts := [], laidByText := true, laidKinds := [.data, .data, .data, .data, .listed, .data, .pinned], laidTests := true, laidLooks := .later }
def PrimKeepsCardSaid : Prop := Claim7.holds Tryz.pinned (.plain (OpenSpec.ofChange primKeepsSpec)) primKeepsCard

/-- THE TIED CARD OF 'quirelaw12.PrimKinds'. -/
def primKindsCard : Claim7 := { stood := { row := primKindsRow, standIns := [], harness := (true, "ea4f6b5ab0f0a490235b1b4dfac6ff680351ac7800976076e1933e8a1c5a3a5d"), looks := true }, kinds := [], alts := [], laidByText := true, laidKinds := [.data, .data, .data, .data, .listed, .data, .pinned], laidTests := true, laidLooks := .later }
def PrimKindsCardSaid : Prop := Claim7.holds Tryz.pinned (.plain (OpenSpec.ofChange primKindsSpec)) primKindsCard

/-- THE TIED CARD OF 'quirelaw12.PrimEffects'. -/
def primEffectsCard : Claim7 := { stood := { row := primEffectsRow, standIns := [], harness := (true, "ea4f6b5ab0f0a490235b1b4dfac6ff680351ac7800976076e1933e8a1c5a3a5d"), looks := true }, kinds := [], alts := [], laidByText := true, laidKinds := [.data, .data, .data, .data, .listed, .data, .pinned], laidTests := true, laidLooks := .later }
def PrimEffectsCardSaid : Prop := Claim7.holds Tryz.pinned (.plain (OpenSpec.ofChange primEffectsSpec)) primEffectsCard

/-- THE SECOND FORM's CARD OF 'quirelaw12.PrimPlays'. -/
def primPlaysUptoCard : Claim7 := { stood := { row := primPlaysUptoRow, standIns := [], harness := (true, "ea4f6b5ab0f0a490235b1b4dfac6ff680351ac7800976076e1933e8a1c5a3a5d"), looks := true }, kinds := [], alts := [], laidByText := true, laidKinds := [.data, .data, .data, .data, .listed, .data, .pinned], laidTests := true, laidLooks := .later }
def PrimPlaysUptoCardSaid : Prop := Claim7.holds Tryz.pinned (.plain (OpenSpec.upto primPlaysSpec)) primPlaysUptoCard

/-- THE SECOND FORM's CARD OF 'quirelaw12.PrimStacks'. -/
def primStacksUptoCard : Claim7 := { stood := { row := primStacksUptoRow, standIns := [], harness := (true, "ea4f6b5ab0f0a490235b1b4dfac6ff680351ac7800976076e1933e8a1c5a3a5d"), looks := true }, kinds := [], alts := [], laidByText := true, laidKinds := [.data, .data, .data, .data, .listed, .data, .pinned], laidTests := true, laidLooks := .later }
def PrimStacksUptoCardSaid : Prop := Claim7.holds Tryz.pinned (.plain (OpenSpec.upto primStacksSpec)) primStacksUptoCard

/-- THE SECOND FORM's CARD OF 'quirelaw12.PrimLists'. -/
def primListsUptoCard : Claim7 := { stood := { row := primListsUptoRow, standIns := [], harness := (true, "ea4f6b5ab0f0a490235b1b4dfac6ff680351ac7800976076e1933e8a1c5a3a5d"), looks := true }, kinds := [], alts := [], laidByText := true, laidKinds := [.data, .data, .data, .data, .listed, .data, .pinned], laidTests := true, laidLooks := .later }
def PrimListsUptoCardSaid : Prop := Claim7.holds Tryz.pinned (.plain (OpenSpec.upto primListsSpec)) primListsUptoCard

/-- THE SECOND FORM's CARD OF 'quirelaw12.PrimTexts'. -/
def primTextsUptoCard : Claim7 := { stood := { row := primTextsUptoRow, standIns := [], harness := (true, "ea4f6b5ab0f0a490235b1b4dfac6ff680351ac7800976076e1933e8a1c5a3a5d"), looks := true }, kinds := [], alts := [], laidByText := true, laidKinds := [.data, .data, .data, .data, .listed, .data, .pinned], laidTests := true, laidLooks := .later }
def PrimTextsUptoCardSaid : Prop := Claim7.holds Tryz.pinned (.plain (OpenSpec.upto primTextsSpec)) primTextsUptoCard

/-- THE SECOND FORM's CARD OF 'quirelaw12.PrimKeeps'. -/
def primKeepsUptoCard : Claim7 := { stood := { row := primKeepsUptoRow, standIns := [], harness := (true, "ea4f6b5ab0f0a490235b1b4dfac6ff680351ac7800976076e1933e8a1c5a3a5d"), looks := true }, kinds := [], alts := [], laidByText := true, laidKinds := [.data, .data, .data, .data, .listed, .data, .pinned], laidTests := true, laidLooks := .later }
def PrimKeepsUptoCardSaid : Prop := Claim7.holds Tryz.pinned (.plain (OpenSpec.upto primKeepsSpec)) primKeepsUptoCard

/-- THE SECOND FORM's CARD OF 'quirelaw12.PrimKinds'. -/
def primKindsUptoCard : Claim7 := { stood := { row := primKindsUptoRow, standIns := [], harness := (true, "ea4f6b5ab0f0a490235b1b4dfac6ff680351ac7800976076e1933e8a1c5a3a5d"), looks := true }, kinds := [], alts := [], laidByText := true, laidKinds := [.data, .data, .data, .data, .listed, .data, .pinned], laidTests := true, laidLooks := .later }
def PrimKindsUptoCardSaid : Prop := Claim7.holds Tryz.pinned (.plain (OpenSpec.upto primKindsSpec)) primKindsUptoCard

/-- THE SECOND FORM's CARD OF 'quirelaw12.PrimEffects'. -/
def primEffectsUptoCard : Claim7 := { stood := { row := primEffectsUptoRow, standIns := [], harness := (true, "ea4f6b5ab0f0a490235b1b4dfac6ff680351ac7800976076e1933e8a1c5a3a5d"), looks := true }, kinds := [], alts := [], laidByText := true, laidKinds := [.data, .data, .data, .data, .listed, .data, .pinned], laidTests := true, laidLooks := .later }
def PrimEffectsUptoCardSaid : Prop := Claim7.holds Tryz.pinned (.plain (OpenSpec.upto primEffectsSpec)) primEffectsUptoCard
end Rows
end Go.Proofs.YtilbjefgojocaaaGreatDoor
