/-
  DERIVED. GIVEN WITH THE SEED: THE CARDS: each row of YtddfcajdelfikaaDoorRows.lean that lists a variable, with what it lists TIED to the program's text (the seventh form; the later family's looks); each row that meets fmt, with fmt's text TOLD by the authors' own Lean function (tested against real Go, not proved from fmt's source: count such statements apart). THE CARD IS WHAT COUNTS. Prove the row's statement (the work); the ties are given (YtddfcajdelfikaaDoorTie.lean); close each card by the builder's one call (the guide's Derived/Test/ToyasCard.lean, 'card_holds'). Laid BY PROGRAM, IN A SANDBOX (cutbox-door.mjs). By AI agents, Wed Nov 11 2026. No macro, syntax, notation, axiom, sorry.
-/
import Derived.Test.YtddfcajdelfikaaDoorRows
import GoSem.ClaimSeven
namespace Go.Proofs.YtddfcajdelfikaaDoor
namespace Rows

/-- THE TIED CARD OF 'laws.FnExactTextStep'. -/
def fnExactTextStepCard : Claim7 := { stood := { row := fnExactTextStepRow, standIns := [], harness := (true, "353b1c46b66200835231b285dccf1d80ae799216d5ee92614b5ba13cf50f7eec"), looks := false }, kinds := [], alts := [], laidByText := true, laidKinds := [.data, .pinned], laidTests := true, laidLooks := .later }
def FnExactTextStepCardSaid : Prop := Claim7.holds Tryd.pinned (.plain (OpenSpec.ofChange fnExactTextStepSpec)) fnExactTextStepCard

/-- THE TIED CARD OF 'laws.FnExactReadScript'. -/
def fnExactReadScriptCard : Claim7 := { stood := { row := fnExactReadScriptRow, standIns := [], harness := (true, "353b1c46b66200835231b285dccf1d80ae799216d5ee92614b5ba13cf50f7eec"), looks := false }, kinds := [], alts := [], laidByText := true, laidKinds := [.data, .pinned], laidTests := true, laidLooks := .later }
def FnExactReadScriptCardSaid : Prop := Claim7.holds Tryd.pinned (.plain (OpenSpec.ofChange fnExactReadScriptSpec)) fnExactReadScriptCard

/-- THE SECOND FORM's CARD OF 'laws.FnExactTextStep'. -/
def fnExactTextStepUptoCard : Claim7 := { stood := { row := fnExactTextStepUptoRow, standIns := [], harness := (true, "353b1c46b66200835231b285dccf1d80ae799216d5ee92614b5ba13cf50f7eec"), looks := false }, kinds := [], alts := [], laidByText := true, laidKinds := [.data, .pinned], laidTests := true, laidLooks := .later }
def FnExactTextStepUptoCardSaid : Prop := Claim7.holds Tryd.pinned (.plain (OpenSpec.upto fnExactTextStepSpec)) fnExactTextStepUptoCard

/-- THE SECOND FORM's CARD OF 'laws.FnExactReadScript'. -/
def fnExactReadScriptUptoCard : Claim7 := { stood := { row := fnExactReadScriptUptoRow, standIns := [], harness := (true, "353b1c46b66200835231b285dccf1d80ae799216d5ee92614b5ba13cf50f7eec"), looks := false }, kinds := [], alts := [], laidByText := true, laidKinds := [.data, .pinned], laidTests := true, laidLooks := .later }
def FnExactReadScriptUptoCardSaid : Prop := Claim7.holds Tryd.pinned (.plain (OpenSpec.upto fnExactReadScriptSpec)) fnExactReadScriptUptoCard
end Rows
end Go.Proofs.YtddfcajdelfikaaDoor
