/-
  DERIVED. GIVEN WITH THE SEED: THE CARDS: each row of YtccailcjclbhlaaDoorRows.lean that lists a variable, with what it lists TIED to the program's text (the seventh form; the later family's looks); each row that meets fmt, with fmt's text TOLD by the authors' own Lean function (tested against real Go, not proved from fmt's source: count such statements apart). THE CARD IS WHAT COUNTS. Prove the row's statement (the work); the ties are given (YtccailcjclbhlaaDoorTie.lean); close each card by the builder's one call (the guide's Derived/Test/ToyasCard.lean, 'card_holds'). Laid BY PROGRAM, IN A SANDBOX (cutbox-door.mjs). By AI agents, Wed Nov 11 2026. No macro, syntax, notation, axiom, sorry.
-/
import Derived.Test.YtccailcjclbhlaaDoorRows
import GoSem.ClaimSeven
namespace Go.Proofs.YtccailcjclbhlaaDoor
namespace Rows

/-- THE TIED CARD OF 'felllaw.MapsReads'. -/
def mapsReadsCard : Claim7 := { stood := { row := mapsReadsRow, standIns := [], harness := (true, "d54bb4ca7f8d476405a5456b5c990579a1f7d623ab48948d659f4f398a7275a7"), looks := false }, kinds := [], alts := [], laidByText := true, laidKinds := [.data, .pinned], laidTests := true, laidLooks := .later }
def MapsReadsCardSaid : Prop := Claim7.holds Tryd.pinned (.plain (OpenSpec.ofChange mapsReadsSpec)) mapsReadsCard

/-- THE SECOND FORM's CARD OF 'felllaw.MapsReads'. -/
def mapsReadsUptoCard : Claim7 := { stood := { row := mapsReadsUptoRow, standIns := [], harness := (true, "d54bb4ca7f8d476405a5456b5c990579a1f7d623ab48948d659f4f398a7275a7"), looks := false }, kinds := [], alts := [], laidByText := true, laidKinds := [.data, .pinned], laidTests := true, laidLooks := .later }
def MapsReadsUptoCardSaid : Prop := Claim7.holds Tryd.pinned (.plain (OpenSpec.upto mapsReadsSpec)) mapsReadsUptoCard
end Rows
end Go.Proofs.YtccailcjclbhlaaDoor
