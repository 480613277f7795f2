/-
  DERIVED. GIVEN WITH THE SEED: THE CARDS: each row of YtfifalopbfopnaaDoorRows.lean that lists a variable, with what it lists TIED to the program's text (the seventh form; the later family's looks); each row that meets fmt, with fmt's text TOLD by the authors' own Lean function (tested against real Go, not proved from fmt's source: count such statements apart). THE CARD IS WHAT COUNTS. Prove the row's statement (the work); the ties are given (YtfifalopbfopnaaDoorTie.lean); close each card by the builder's one call (the guide's Derived/Test/ToyasCard.lean, 'card_holds'). Laid BY PROGRAM, IN A SANDBOX (cutbox-door.mjs). By AI agents, Wed Nov 11 2026. No macro, syntax, notation, axiom, sorry.
-/
import Derived.Test.YtfifalopbfopnaaDoorRows
import GoSem.ClaimSeven
namespace Go.Proofs.YtfifalopbfopnaaDoor
namespace Rows

/-- THE TIED CARD OF 'custodylaw11.StorePrunes'. -/
def storePrunesCard : Claim7 := { stood := { row := storePrunesRow, standIns := [], harness := (true, "d6b1d21ae844814097e417b338461246e254cd6561bf6ef12f0988714aa10a36"), looks := true }, kinds := [], alts := [], laidByText := true, laidKinds := [.handle], laidTests := true, laidLooks := .later }
def StorePrunesCardSaid : Prop := Claim7.holds Tryd.pinned (.plain (OpenSpec.ofChange storePrunesSpec)) storePrunesCard

/-- THE SECOND FORM's CARD OF 'custodylaw11.StorePrunes'. -/
def storePrunesUptoCard : Claim7 := { stood := { row := storePrunesUptoRow, standIns := [], harness := (true, "d6b1d21ae844814097e417b338461246e254cd6561bf6ef12f0988714aa10a36"), looks := true }, kinds := [], alts := [], laidByText := true, laidKinds := [.handle], laidTests := true, laidLooks := .later }
def StorePrunesUptoCardSaid : Prop := Claim7.holds Tryd.pinned (.plain (OpenSpec.upto storePrunesSpec)) storePrunesUptoCard
end Rows
end Go.Proofs.YtfifalopbfopnaaDoor
