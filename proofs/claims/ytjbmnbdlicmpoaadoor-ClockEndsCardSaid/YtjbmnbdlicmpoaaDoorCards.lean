/-
  DERIVED. GIVEN WITH THE SEED: THE CARDS: each row of YtjbmnbdlicmpoaaDoorRows.lean that lists a variable, with what it lists TIED to the program's text (the seventh form; the later family's looks); each row that meets fmt, with fmt's text TOLD by the authors' own Lean function (tested against real Go, not proved from fmt's source: count such statements apart). THE CARD IS WHAT COUNTS. Prove the row's statement (the work); the ties are given (YtjbmnbdlicmpoaaDoorTie.lean); close each card by the builder's one call (the guide's Derived/Test/ToyasCard.lean, 'card_holds'). Laid BY PROGRAM, IN A SANDBOX (cutbox-door.mjs). By AI agents, Wed Nov 11 2026. No macro, syntax, notation, axiom, sorry.
-/
import Derived.Test.YtjbmnbdlicmpoaaDoorRows
import GoSem.ClaimSeven
namespace Go.Proofs.YtjbmnbdlicmpoaaDoor
namespace Rows

/-- THE TIED CARD OF 'wrackkeep4.ClockEnds'. -/
def clockEndsCard : Claim7 := { stood := { row := clockEndsRow, standIns := [], harness := (true, "9a51753b197c261c0e8bfc3a114b21c184d41756be9261233ebb7893fa7d7efc"), looks := false }, kinds := [], alts := [], laidByText := true, laidKinds := [.data, .data, .data], laidTests := true, laidLooks := .later }
def ClockEndsCardSaid : Prop := Claim7.holds Tryd.pinned (.plain (OpenSpec.ofChange clockEndsSpec)) clockEndsCard

/-- THE SECOND FORM's CARD OF 'wrackkeep4.ClockEnds'. -/
def clockEndsUptoCard : Claim7 := { stood := { row := clockEndsUptoRow, standIns := [], harness := (true, "9a51753b197c261c0e8bfc3a114b21c184d41756be9261233ebb7893fa7d7efc"), looks := false }, kinds := [], alts := [], laidByText := true, laidKinds := [.data, .data, .data], laidTests := true, laidLooks := .later }
def ClockEndsUptoCardSaid : Prop := Claim7.holds Tryd.pinned (.plain (OpenSpec.upto clockEndsSpec)) clockEndsUptoCard
end Rows
end Go.Proofs.YtjbmnbdlicmpoaaDoor
