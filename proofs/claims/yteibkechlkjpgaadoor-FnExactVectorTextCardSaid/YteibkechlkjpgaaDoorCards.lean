/-
  DERIVED. GIVEN WITH THE SEED: THE CARDS: each row of YteibkechlkjpgaaDoorRows.lean that lists a variable, with what it lists TIED to the program's text (the seventh form; the later family's looks); each row that meets fmt, with fmt's text TOLD by the authors' own Lean function (tested against real Go, not proved from fmt's source: count such statements apart). THE CARD IS WHAT COUNTS. Prove the row's statement (the work); the ties are given (YteibkechlkjpgaaDoorTie.lean); close each card by the builder's one call (the guide's Derived/Test/ToyasCard.lean, 'card_holds'). Laid BY PROGRAM, IN A SANDBOX (cutbox-door.mjs). By AI agents, Wed Nov 11 2026. No macro, syntax, notation, axiom, sorry.
-/
import Derived.Test.YteibkechlkjpgaaDoorRows
import GoSem.ClaimSeven
namespace Go.Proofs.YteibkechlkjpgaaDoor
namespace Rows

/-- THE TIED CARD OF 'laws.FnExactNumbersText'. -/
def fnExactNumbersTextCard : Claim7 := { stood := { row := fnExactNumbersTextRow, standIns := [], harness := (true, "c6fec25b62ea8cb64ee9e23da82c1c2e4e427ae88ba3f8081dc264262abff079"), looks := false }, kinds := [], alts := [], laidByText := true, laidKinds := [.data, .data, .data], laidTests := true, laidLooks := .later }
def FnExactNumbersTextCardSaid : Prop := Claim7.holds Tryd.pinned (.plain (OpenSpec.ofChange fnExactNumbersTextSpec)) fnExactNumbersTextCard

/-- THE TIED CARD OF 'laws.FnExactVectorText'. -/
def fnExactVectorTextCard : Claim7 := { stood := { row := fnExactVectorTextRow, standIns := [], harness := (true, "c6fec25b62ea8cb64ee9e23da82c1c2e4e427ae88ba3f8081dc264262abff079"), looks := false }, kinds := [], alts := [], laidByText := true, laidKinds := [.data, .data, .data], laidTests := true, laidLooks := .later }
def FnExactVectorTextCardSaid : Prop := Claim7.holds Tryd.pinned (.plain (OpenSpec.ofChange fnExactVectorTextSpec)) fnExactVectorTextCard

/-- THE SECOND FORM's CARD OF 'laws.FnExactNumbersText'. -/
def fnExactNumbersTextUptoCard : Claim7 := { stood := { row := fnExactNumbersTextUptoRow, standIns := [], harness := (true, "c6fec25b62ea8cb64ee9e23da82c1c2e4e427ae88ba3f8081dc264262abff079"), looks := false }, kinds := [], alts := [], laidByText := true, laidKinds := [.data, .data, .data], laidTests := true, laidLooks := .later }
def FnExactNumbersTextUptoCardSaid : Prop := Claim7.holds Tryd.pinned (.plain (OpenSpec.upto fnExactNumbersTextSpec)) fnExactNumbersTextUptoCard

/-- THE SECOND FORM's CARD OF 'laws.FnExactVectorText'. -/
def fnExactVectorTextUptoCard : Claim7 := { stood := { row := fnExactVectorTextUptoRow, standIns := [], harness := (true, "c6fec25b62ea8cb64ee9e23da82c1c2e4e427ae88ba3f8081dc264262abff079"), looks := false }, kinds := [], alts := [], laidByText := true, laidKinds := [.data, .data, .data], laidTests := true, laidLooks := .later }
def FnExactVectorTextUptoCardSaid : Prop := Claim7.holds Tryd.pinned (.plain (OpenSpec.upto fnExactVectorTextSpec)) fnExactVectorTextUptoCard
end Rows
end Go.Proofs.YteibkechlkjpgaaDoor
