/-
  DERIVED. GIVEN WITH THE SEED: THE CARDS: each row of YtkkbnchpedacjaaDoorRows.lean that lists a variable, with what it lists TIED to the program's text (the seventh form; the later family's looks); each row that meets fmt, with fmt's text TOLD by the authors' own Lean function (tested against real Go, not proved from fmt's source: count such statements apart). THE CARD IS WHAT COUNTS. Prove the row's statement (the work); the ties are given (YtkkbnchpedacjaaDoorTie.lean); close each card by the builder's one call (the guide's Derived/Test/ToyasCard.lean, 'card_holds'). Laid BY PROGRAM, IN A SANDBOX (cutbox-door.mjs). By AI agents, Wed Nov 11 2026. No macro, syntax, notation, axiom, sorry.
-/
import Derived.Test.YtkkbnchpedacjaaDoorRows
import GoSem.ClaimSeven
namespace Go.Proofs.YtkkbnchpedacjaaDoor
namespace Rows

/-- THE TIED CARD OF 'siltlaw17.FramesNone'. -/
def framesNoneCard : Claim7 := { stood := { row := framesNoneRow, standIns := [], harness := (true, "961027cbafd6166bb99bd9e0dc40c0372ea387ce068ca4acb3a4973d66c62d23"), looks := true }, kinds := [], alts := [], laidByText := true, laidKinds := [.handle], laidTests := true, laidLooks := .later }
def FramesNoneCardSaid : Prop := Claim7.holds Tryd.pinned (.plain (OpenSpec.ofChange framesNoneSpec)) framesNoneCard

/-- THE SECOND FORM's CARD OF 'siltlaw17.FramesNone'. -/
def framesNoneUptoCard : Claim7 := { stood := { row := framesNoneUptoRow, standIns := [], harness := (true, "961027cbafd6166bb99bd9e0dc40c0372ea387ce068ca4acb3a4973d66c62d23"), looks := true }, kinds := [], alts := [], laidByText := true, laidKinds := [.handle], laidTests := true, laidLooks := .later }
def FramesNoneUptoCardSaid : Prop := Claim7.holds Tryd.pinned (.plain (OpenSpec.upto framesNoneSpec)) framesNoneUptoCard
end Rows
end Go.Proofs.YtkkbnchpedacjaaDoor
