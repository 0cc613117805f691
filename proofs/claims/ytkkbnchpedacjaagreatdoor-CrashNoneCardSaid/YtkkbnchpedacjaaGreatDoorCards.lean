/-
  DERIVED. GIVEN WITH THE SEED: THE CARDS: each row of YtkkbnchpedacjaaGreatDoorRows.lean that lists a variable, with what it lists TIED to the program's text (the seventh form; the later family's looks); each row that meets fmt, with fmt's text TOLD by the authors' own Lean function (tested against real Go, not proved from fmt's source: count such statements apart). THE CARD IS WHAT COUNTS. Prove the row's statement (the work); the ties are given (YtkkbnchpedacjaaGreatDoorTie.lean); close each card by the builder's one call (the guide's Derived/Test/ToyasCard.lean, 'card_holds'). Laid BY PROGRAM, IN A SANDBOX (cutbox-door.mjs). By AI agents, Wed Nov 11 2026. No macro, syntax, notation, axiom, sorry.
-/
import Derived.Test.YtkkbnchpedacjaaGreatDoorRows
import GoSem.ClaimSeven
namespace Go.Proofs.YtkkbnchpedacjaaGreatDoor
namespace Rows

/-- THE TIED CARD OF 'siltlaw20.LoadNone'. -/
def loadNoneCard : Claim7 := { stood := { row := loadNoneRow, standIns := [], harness := (true, "475195ba9da3d727c99adb5083548a11752c87005dca1ea6c8a122826955ac16"), looks := true }, kinds := [], alts := [], laidByText := true, laidKinds := [.handle], laidTests := true, laidLooks := .later }
def LoadNoneCardSaid : Prop := Claim7.holds Tryz.pinned (.plain (OpenSpec.ofChange loadNoneSpec)) loadNoneCard

/-- THE TIED CARD OF 'siltlaw21.CoreNone'. -/
def coreNoneCard : Claim7 := { stood := { row := coreNoneRow, standIns := [], harness := (true, "475195ba9da3d727c99adb5083548a11752c87005dca1ea6c8a122826955ac16"), looks := true }, kinds := [], alts := [], laidByText := true, laidKinds := [.handle], laidTests := true, laidLooks := .later }
def CoreNoneCardSaid : Prop := Claim7.holds Tryz.pinned (.plain (OpenSpec.ofChange coreNoneSpec)) coreNoneCard

/-- THE TIED CARD OF 'siltlaw22.CleanNone'. -/
def cleanNoneCard : Claim7 := { stood := { row := cleanNoneRow, standIns := [], harness := (true, "475195ba9da3d727c99adb5083548a11752c87005dca1ea6c8a122826955ac16"), looks := true }, kinds := [], alts := [], laidByText := true, laidKinds := [.handle], laidTests := true, laidLooks := .later }
def CleanNoneCardSaid : Prop := Claim7.holds Tryz.pinned (.plain (OpenSpec.ofChange cleanNoneSpec)) cleanNoneCard

/-- THE TIED CARD OF 'siltlaw23.CacheNone'. -/
def cacheNoneCard : Claim7 := { stood := { row := cacheNoneRow, standIns := [], harness := (true, "475195ba9da3d727c99adb5083548a11752c87005dca1ea6c8a122826955ac16"), looks := true }, kinds := [], alts := [], laidByText := true, laidKinds := [.handle], laidTests := true, laidLooks := .later }
def CacheNoneCardSaid : Prop := Claim7.holds Tryz.pinned (.plain (OpenSpec.ofChange cacheNoneSpec)) cacheNoneCard

/-- THE TIED CARD OF 'siltlaw25.StepsNone'. -/
def stepsNoneCard : Claim7 := { stood := { row := stepsNoneRow, standIns := [], harness := (true, "475195ba9da3d727c99adb5083548a11752c87005dca1ea6c8a122826955ac16"), looks := true }, kinds := [], alts := [], laidByText := true, laidKinds := [.handle], laidTests := true, laidLooks := .later }
def StepsNoneCardSaid : Prop := Claim7.holds Tryz.pinned (.plain (OpenSpec.ofChange stepsNoneSpec)) stepsNoneCard

/-- THE TIED CARD OF 'siltlaw26.StoreNone'. -/
def storeNoneCard : Claim7 := { stood := { row := storeNoneRow, standIns := [], harness := (true, "475195ba9da3d727c99adb5083548a11752c87005dca1ea6c8a122826955ac16"), looks := true }, kinds := [], alts := [], laidByText := true, laidKinds := [.handle], laidTests := true, laidLooks := .later }
def StoreNoneCardSaid : Prop := Claim7.holds Tryz.pinned (.plain (OpenSpec.ofChange storeNoneSpec)) storeNoneCard

/-- THE TIED CARD OF 'siltlaw29.CrashNone'. -/
def crashNoneCard : Claim7 := { stood := { row := crashNoneRow, standIns := [], harness := (true, "475195ba9da3d727c99adb5083548a11752c87005dca1ea6c8a122826955ac16"), looks := true }, kinds := [], alts := [], laidByText := true, laidKinds := [.handle], laidTests := true, laidLooks := .later }
def CrashNoneCardSaid : Prop := Claim7.holds Tryz.pinned (.plain (OpenSpec.ofChange crashNoneSpec)) crashNoneCard

/-- THE SECOND FORM's CARD OF 'siltlaw20.LoadNone'. -/
def loadNoneUptoCard : Claim7 := { stood := { row := loadNoneUptoRow, standIns := [], harness := (true, "475195ba9da3d727c99adb5083548a11752c87005dca1ea6c8a122826955ac16"), looks := true }, kinds := [], alts := [], laidByText := true, laidKinds := [.handle], laidTests := true, laidLooks := .later }
def LoadNoneUptoCardSaid : Prop := Claim7.holds Tryz.pinned (.plain (OpenSpec.upto loadNoneSpec)) loadNoneUptoCard

/-- THE SECOND FORM's CARD OF 'siltlaw21.CoreNone'. -/
def coreNoneUptoCard : Claim7 := { stood := { row := coreNoneUptoRow, standIns := [], harness := (true, "475195ba9da3d727c99adb5083548a11752c87005dca1ea6c8a122826955ac16"), looks := true }, kinds := [], alts := [], laidByText := true, laidKinds := [.handle], laidTests := true, laidLooks := .later }
def CoreNoneUptoCardSaid : Prop := Claim7.holds Tryz.pinned (.plain (OpenSpec.upto coreNoneSpec)) coreNoneUptoCard

/-- THE SECOND FORM's CARD OF 'siltlaw22.CleanNone'. -/
def cleanNoneUptoCard : Claim7 := { stood := { row := cleanNoneUptoRow, standIns := [], harness := (true, "475195ba9da3d727c99adb5083548a11752c87005dca1ea6c8a122826955ac16"), looks := true }, kinds := [], alts := [], laidByText := true, laidKinds := [.handle], laidTests := true, laidLooks := .later }
def CleanNoneUptoCardSaid : Prop := Claim7.holds Tryz.pinned (.plain (OpenSpec.upto cleanNoneSpec)) cleanNoneUptoCard

/-- THE SECOND FORM's CARD OF 'siltlaw23.CacheNone'. -/
def cacheNoneUptoCard : Claim7 := { stood := { row := cacheNoneUptoRow, standIns := [], harness := (true, "475195ba9da3d727c99adb5083548a11752c87005dca1ea6c8a122826955ac16"), looks := true }, kinds := [], alts := [], laidByText := true, laidKinds := [.handle], laidTests := true, laidLooks := .later }
def CacheNoneUptoCardSaid : Prop := Claim7.holds Tryz.pinned (.plain (OpenSpec.upto cacheNoneSpec)) cacheNoneUptoCard

/-- THE SECOND FORM's CARD OF 'siltlaw25.StepsNone'. -/
def stepsNoneUptoCard : Claim7 := { stood := { row := stepsNoneUptoRow, standIns := [], harness := (true, "475195ba9da3d727c99adb5083548a11752c87005dca1ea6c8a122826955ac16"), looks := true }, kinds := [], alts := [], laidByText := true, laidKinds := [.handle], laidTests := true, laidLooks := .later }
def StepsNoneUptoCardSaid : Prop := Claim7.holds Tryz.pinned (.plain (OpenSpec.upto stepsNoneSpec)) stepsNoneUptoCard

/-- THE SECOND FORM's CARD OF 'siltlaw26.StoreNone'. -/
def storeNoneUptoCard : Claim7 := { stood := { row := storeNoneUptoRow, standIns := [], harness := (true, "475195ba9da3d727c99adb5083548a11752c87005dca1ea6c8a122826955ac16"), looks := true }, kinds := [], alts := [], laidByText := true, laidKinds := [.handle], laidTests := true, laidLooks := .later }
def StoreNoneUptoCardSaid : Prop := Claim7.holds Tryz.pinned (.plain (OpenSpec.upto storeNoneSpec)) storeNoneUptoCard

/-- THE SECOND FORM's CARD OF 'siltlaw29.CrashNone'. -/
def crashNoneUptoCard : Claim7 := { stood := { row := crashNoneUptoRow, standIns := [], harness := (true, "475195ba9da3d727c99adb5083548a11752c87005dca1ea6c8a122826955ac16"), looks := true }, kinds := [], alts := [], laidByText := true, laidKinds := [.handle], laidTests := true, laidLooks := .later }
def CrashNoneUptoCardSaid : Prop := Claim7.holds Tryz.pinned (.plain (OpenSpec.upto crashNoneSpec)) crashNoneUptoCard
end Rows
end Go.Proofs.YtkkbnchpedacjaaGreatDoor
