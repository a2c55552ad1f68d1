/-
  DERIVED. GIVEN WITH THE SEED: THE CARDS: each row of YtfkbgacmpalafaaGreatDoorRows.lean that lists a variable, with what it lists TIED to the program's text (the seventh form; the later family's looks); each row that meets fmt, with fmt's text TOLD by the authors' own Lean function (tested against real Go, not proved from fmt's source: count such statements apart). THE CARD IS WHAT COUNTS. Prove the row's statement (the work); the ties are given (YtfkbgacmpalafaaGreatDoorTie.lean); close each card by the builder's one call (the guide's Derived/Test/ToyasCard.lean, 'card_holds'). Laid BY PROGRAM, IN A SANDBOX (cutbox-door.mjs). By AI agents, Wed Nov 11 2026. No macro, syntax, notation, axiom, sorry.
-/
import Derived.Test.YtfkbgacmpalafaaGreatDoorRows
import GoSem.ClaimSeven
namespace Go.Proofs.YtfkbgacmpalafaaGreatDoor
namespace Rows

/-- THE TIED CARD OF 'alumlaw32.CollectLinksMatchSpec'. -/
def collectLinksMatchSpecCard : Claim7 := { stood := { row := collectLinksMatchSpecRow, standIns := [], harness := (true, "9b6295027cad09bef53b16c47bf57b001fa59cb211a448ea5546f93de57dbd20"), looks := false }, kinds := [], alts := [], laidByText := true, laidKinds := [.data, .data, .data, .data, .mapped], laidTests := true, laidLooks := .later }
def CollectLinksMatchSpecCardSaid : Prop := Claim7.holds Tryz.pinned (.plain (OpenSpec.ofChange collectLinksMatchSpecSpec)) collectLinksMatchSpecCard

/-- THE TIED CARD OF 'alumlaw32.CollectTracesAsSpecified'. -/
def collectTracesAsSpecifiedCard : Claim7 := { stood := { row := collectTracesAsSpecifiedRow, standIns := [], harness := (true, "9b6295027cad09bef53b16c47bf57b001fa59cb211a448ea5546f93de57dbd20"), looks := false }, kinds := [], alts := [], laidByText := true, laidKinds := [.data, .data, .data, .data, .mapped], laidTests := true, laidLooks := .later }
def CollectTracesAsSpecifiedCardSaid : Prop := Claim7.holds Tryz.pinned (.plain (OpenSpec.ofChange collectTracesAsSpecifiedSpec)) collectTracesAsSpecifiedCard

/-- THE TIED CARD OF 'alumlaw32.CollectGivesAsSpecified'. -/
def collectGivesAsSpecifiedCard : Claim7 := { stood := { row := collectGivesAsSpecifiedRow, standIns := [], harness := (true, "9b6295027cad09bef53b16c47bf57b001fa59cb211a448ea5546f93de57dbd20"), looks := false }, kinds := [], alts := [], laidByText := true, laidKinds := [.data, .data, .data, .data, .mapped], laidTests := true, laidLooks := .later }
def CollectGivesAsSpecifiedCardSaid : Prop := Claim7.holds Tryz.pinned (.plain (OpenSpec.ofChange collectGivesAsSpecifiedSpec)) collectGivesAsSpecifiedCard

/-- THE SECOND FORM's CARD OF 'alumlaw32.CollectLinksMatchSpec'. -/
def collectLinksMatchSpecUptoCard : Claim7 := { stood := { row := collectLinksMatchSpecUptoRow, standIns := [], harness := (true, "9b6295027cad09bef53b16c47bf57b001fa59cb211a448ea5546f93de57dbd20"), looks := false }, kinds := [], alts := [], laidByText := true, laidKinds := [.data, .data, .data, .data, .mapped], laidTests := true, laidLooks := .later }
def CollectLinksMatchSpecUptoCardSaid : Prop := Claim7.holds Tryz.pinned (.plain (OpenSpec.upto collectLinksMatchSpecSpec)) collectLinksMatchSpecUptoCard

/-- THE SECOND FORM's CARD OF 'alumlaw32.CollectTracesAsSpecified'. -/
def collectTracesAsSpecifiedUptoCard : Claim7 := { stood := { row := collectTracesAsSpecifiedUptoRow, standIns := [], harness := (true, "9b6295027cad09bef53b16c47bf57b001fa59cb211a448ea5546f93de57dbd20"), looks := false }, kinds := [], alts := [], laidByText := true, laidKinds := [.data, .data, .data, .data, .mapped], laidTests := true, laidLooks := .later }
def CollectTracesAsSpecifiedUptoCardSaid : Prop := Claim7.holds Tryz.pinned (.plain (OpenSpec.upto collectTracesAsSpecifiedSpec)) collectTracesAsSpecifiedUptoCard

/-- THE SECOND FORM's CARD OF 'alumlaw32.CollectGivesAsSpecified'. -/
def collectGivesAsSpecifiedUptoCard : Claim7 := { stood := { row := collectGivesAsSpecifiedUptoRow, standIns := [], harness := (true, "9b6295027cad09bef53b16c47bf57b001fa59cb211a448ea5546f93de57dbd20"), looks := false }, kinds := [], alts := [], laidByText := true, laidKinds := [.data, .data, .data, .data, .mapped], laidTests := true, laidLooks := .later }
def CollectGivesAsSpecifiedUptoCardSaid : Prop := Claim7.holds Tryz.pinned (.plain (OpenSpec.upto collectGivesAsSpecifiedSpec)) collectGivesAsSpecifiedUptoCard
end Rows
end Go.Proofs.YtfkbgacmpalafaaGreatDoor
