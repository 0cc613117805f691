/-
  DERIVED. GIVEN WITH THE SEED: THE CARDS: each row of YtlnbbgagccgnjaaDoorRows.lean that lists a variable, with what it lists TIED to the program's text (the seventh form; the later family's looks); each row that meets fmt, with fmt's text TOLD by the authors' own Lean function (tested against real Go, not proved from fmt's source: count such statements apart). THE CARD IS WHAT COUNTS. Prove the row's statement (the work); the ties are given (YtlnbbgagccgnjaaDoorTie.lean); close each card by the builder's one call (the guide's Derived/Test/ToyasCard.lean, 'card_holds'). Laid BY PROGRAM, IN A SANDBOX (cutbox-door.mjs). By AI agents, Wed Nov 11 2026. No macro, syntax, notation, axiom, sorry.
-/
import Derived.Test.YtlnbbgagccgnjaaDoorRows
import GoSem.ClaimSeven
namespace Go.Proofs.YtlnbbgagccgnjaaDoor
namespace Rows

/-- THE TIED CARD OF 'siltlaw17.FramesKeep'. -/
def framesKeepCard : Claim7 := { stood := { row := framesKeepRow, standIns := [], harness := (true, "2d0cccc07d8d17fe01a939a1ffec3a86ce4e87e86ca402e2eecdca77b523394b"), looks := true }, kinds := [], alts := [], laidByText := true, laidKinds := [.handle], laidTests := true, laidLooks := .later }
def FramesKeepCardSaid : Prop := Claim7.holds Tryd.pinned (.plain (OpenSpec.ofChange framesKeepSpec)) framesKeepCard

/-- THE TIED CARD OF 'siltlaw17.FramesNone'. -/
def framesNoneCard : Claim7 := { stood := { row := framesNoneRow, standIns := [], harness := (true, "2d0cccc07d8d17fe01a939a1ffec3a86ce4e87e86ca402e2eecdca77b523394b"), looks := true }, kinds := [], alts := [], laidByText := true, laidKinds := [.handle], laidTests := true, laidLooks := .later }
def FramesNoneCardSaid : Prop := Claim7.holds Tryd.pinned (.plain (OpenSpec.ofChange framesNoneSpec)) framesNoneCard

/-- THE TIED CARD OF 'siltlaw17.FramesPages'. -/
def framesPagesCard : Claim7 := { stood := { row := framesPagesRow, standIns := [], harness := (true, "2d0cccc07d8d17fe01a939a1ffec3a86ce4e87e86ca402e2eecdca77b523394b"), looks := true }, kinds := [], alts := [], laidByText := true, laidKinds := [.handle], laidTests := true, laidLooks := .later }
def FramesPagesCardSaid : Prop := Claim7.holds Tryd.pinned (.plain (OpenSpec.ofChange framesPagesSpec)) framesPagesCard

/-- THE TIED CARD OF 'siltlaw17.FramesPlay'. -/
def framesPlayCard : Claim7 := { stood := { row := framesPlayRow, standIns := [], harness := (true, "2d0cccc07d8d17fe01a939a1ffec3a86ce4e87e86ca402e2eecdca77b523394b"), looks := true }, kinds := [], alts := [], laidByText := true, laidKinds := [.handle], laidTests := true, laidLooks := .later }
def FramesPlayCardSaid : Prop := Claim7.holds Tryd.pinned (.plain (OpenSpec.ofChange framesPlaySpec)) framesPlayCard

/-- THE SECOND FORM's CARD OF 'siltlaw17.FramesKeep'. -/
def framesKeepUptoCard : Claim7 := { stood := { row := framesKeepUptoRow, standIns := [], harness := (true, "2d0cccc07d8d17fe01a939a1ffec3a86ce4e87e86ca402e2eecdca77b523394b"), looks := true }, kinds := [], alts := [], laidByText := true, laidKinds := [.handle], laidTests := true, laidLooks := .later }
def FramesKeepUptoCardSaid : Prop := Claim7.holds Tryd.pinned (.plain (OpenSpec.upto framesKeepSpec)) framesKeepUptoCard

/-- THE SECOND FORM's CARD OF 'siltlaw17.FramesNone'. -/
def framesNoneUptoCard : Claim7 := { stood := { row := framesNoneUptoRow, standIns := [], harness := (true, "2d0cccc07d8d17fe01a939a1ffec3a86ce4e87e86ca402e2eecdca77b523394b"), looks := true }, kinds := [], alts := [], laidByText := true, laidKinds := [.handle], laidTests := true, laidLooks := .later }
def FramesNoneUptoCardSaid : Prop := Claim7.holds Tryd.pinned (.plain (OpenSpec.upto framesNoneSpec)) framesNoneUptoCard

/-- THE SECOND FORM's CARD OF 'siltlaw17.FramesPages'. -/
def framesPagesUptoCard : Claim7 := { stood := { row := framesPagesUptoRow, standIns := [], harness := (true, "2d0cccc07d8d17fe01a939a1ffec3a86ce4e87e86ca402e2eecdca77b523394b"), looks := true }, kinds := [], alts := [], laidByText := true, laidKinds := [.handle], laidTests := true, laidLooks := .later }
def FramesPagesUptoCardSaid : Prop := Claim7.holds Tryd.pinned (.plain (OpenSpec.upto framesPagesSpec)) framesPagesUptoCard

/-- THE SECOND FORM's CARD OF 'siltlaw17.FramesPlay'. -/
def framesPlayUptoCard : Claim7 := { stood := { row := framesPlayUptoRow, standIns := [], harness := (true, "2d0cccc07d8d17fe01a939a1ffec3a86ce4e87e86ca402e2eecdca77b523394b"), looks := true }, kinds := [], alts := [], laidByText := true, laidKinds := [.handle], laidTests := true, laidLooks := .later }
def FramesPlayUptoCardSaid : Prop := Claim7.holds Tryd.pinned (.plain (OpenSpec.upto framesPlaySpec)) framesPlayUptoCard
end Rows
end Go.Proofs.YtlnbbgagccgnjaaDoor
