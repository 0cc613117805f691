/-
  No cell of these rows narrows 'for every input' (looked for: loops, veiled, ifaces, maps, wideKeys, modest, calm, conditions, laid).
  DERIVED. THE GIVEN ROWS OF THIS SEAT. 4 by the template 'for every input the law returns true; each argument reads behind the call as it read before'; 0 by the template 'total and deterministic' (their statements: YtclmndonaljppaaTotals.lean).
  GIVEN WITH THE SEED: the statements are not yours to turn. If you find one false, say at which input.
  Laid BY PROGRAM, IN A SANDBOX (cutbox-rows.mjs): the forced cells as the released guide's own fill.sh prints them over the translation 26a054b259d1b072… (all of the seat's roots in one cut). By AI agents, Wed Nov 11 2026. No macro, syntax, notation, axiom, sorry.
-/
import Derived.Test.YtclmndonaljppaaChecked
import GoSem.Claim
import GoSem.ClaimJoined
import GoSem.ClaimMapViews
import Derived.JoinedTies
import Derived.KernelRfl
namespace Go.Proofs.Ytclmndonaljppaa
/- THE CELL 'sum', in the pinned program and in every row, IS THE sha256 OF THE DUMP (.gsa) THAT YtclmndonaljppaaProg.lean LOADS. Nothing in Lean hashes anything: it is a label: what it is worth is what the hold of that sum in a sandbox is worth. -/
noncomputable def Try.pinned : Pinned := { name := "ytclmndonaljppaa", sum := "26a054b259d1b072bd8da5b2f09f3b2897b45061996d783aa77196a23834668d", checked := Try.checked }
namespace Rows
def none {H : Type} : Left H := { results := [], args := [] }

/-- 'siltlaw24.PinsPlay': WHATEVER THE INPUT: true; the input reads as it did. -/
def pinsPlaySpec : ChangeSpec := { name := "pinsPlay", fn := fun _ => fun
  | [d1, d2] => { results := [.lit (.bool true)], args := [d1, d2] }
  | _ => none }
def pinsPlayRow : OpenClaim := { program := "ytclmndonaljppaa", sum := "26a054b259d1b072bd8da5b2f09f3b2897b45061996d783aa77196a23834668d", func := "silt/siltlaw24.PinsPlay", spec := "pinsPlay", inPlace := ["internal/reflectlite.TypeOf"], unfollowed := true, recurses := true, apart := false }
def PinsPlaySaid : Prop := pinsPlayRow.holds Try.pinned (OpenSpec.ofChange pinsPlaySpec)

/-- ITS FALSE NEIGHBOUR: 'it returns false'. Refute it at one input. -/
def pinsPlayWrong : ChangeSpec := { name := "pinsPlay", fn := fun _ => fun
  | [d1, d2] => { results := [.lit (.bool false)], args := [d1, d2] }
  | _ => none }
def PinsPlayWrongFalsely : Prop := pinsPlayRow.holds Try.pinned (OpenSpec.ofChange pinsPlayWrong)

/-- 'siltlaw24.PinsOnce': WHATEVER THE INPUT: true; the input reads as it did. -/
def pinsOnceSpec : ChangeSpec := { name := "pinsOnce", fn := fun _ => fun
  | [d] => { results := [.lit (.bool true)], args := [d] }
  | _ => none }
def pinsOnceRow : OpenClaim := { program := "ytclmndonaljppaa", sum := "26a054b259d1b072bd8da5b2f09f3b2897b45061996d783aa77196a23834668d", func := "silt/siltlaw24.PinsOnce", spec := "pinsOnce", inPlace := ["internal/reflectlite.TypeOf"], unfollowed := true, recurses := true, apart := false }
def PinsOnceSaid : Prop := pinsOnceRow.holds Try.pinned (OpenSpec.ofChange pinsOnceSpec)

/-- ITS FALSE NEIGHBOUR: 'it returns false'. Refute it at one input. -/
def pinsOnceWrong : ChangeSpec := { name := "pinsOnce", fn := fun _ => fun
  | [d] => { results := [.lit (.bool false)], args := [d] }
  | _ => none }
def PinsOnceWrongFalsely : Prop := pinsOnceRow.holds Try.pinned (OpenSpec.ofChange pinsOnceWrong)

/-- 'siltlaw24.PinsNone': WHATEVER THE INPUT: true; the input reads as it did. -/
def pinsNoneSpec : ChangeSpec := { name := "pinsNone", fn := fun _ => fun
  | [d] => { results := [.lit (.bool true)], args := [d] }
  | _ => none }
def pinsNoneRow : OpenClaim := { program := "ytclmndonaljppaa", sum := "26a054b259d1b072bd8da5b2f09f3b2897b45061996d783aa77196a23834668d", func := "silt/siltlaw24.PinsNone", spec := "pinsNone", inPlace := ["internal/reflectlite.TypeOf"], unfollowed := true, recurses := true, apart := false }
def PinsNoneSaid : Prop := pinsNoneRow.holds Try.pinned (OpenSpec.ofChange pinsNoneSpec)

/-- ITS FALSE NEIGHBOUR: 'it returns false'. Refute it at one input. -/
def pinsNoneWrong : ChangeSpec := { name := "pinsNone", fn := fun _ => fun
  | [d] => { results := [.lit (.bool false)], args := [d] }
  | _ => none }
def PinsNoneWrongFalsely : Prop := pinsNoneRow.holds Try.pinned (OpenSpec.ofChange pinsNoneWrong)

/-- 'siltlaw24.PinsApart': WHATEVER THE INPUT: true; the input reads as it did. -/
def pinsApartSpec : ChangeSpec := { name := "pinsApart", fn := fun _ => fun
  | [d1, d2] => { results := [.lit (.bool true)], args := [d1, d2] }
  | _ => none }
def pinsApartRow : OpenClaim := { program := "ytclmndonaljppaa", sum := "26a054b259d1b072bd8da5b2f09f3b2897b45061996d783aa77196a23834668d", func := "silt/siltlaw24.PinsApart", spec := "pinsApart", inPlace := ["internal/reflectlite.TypeOf"], unfollowed := true, recurses := true, apart := false }
def PinsApartSaid : Prop := pinsApartRow.holds Try.pinned (OpenSpec.ofChange pinsApartSpec)

/-- ITS FALSE NEIGHBOUR: 'it returns false'. Refute it at one input. -/
def pinsApartWrong : ChangeSpec := { name := "pinsApart", fn := fun _ => fun
  | [d1, d2] => { results := [.lit (.bool false)], args := [d1, d2] }
  | _ => none }
def PinsApartWrongFalsely : Prop := pinsApartRow.holds Try.pinned (OpenSpec.ofChange pinsApartWrong)

/- THE SECOND FORM. 'bulk': how many values and letters a reading holds, each counted each time it is reached (what is shared counts as often as it is met; a slice's spare places count too). A statement '..UptoSaid' is the law's where the arguments, and the package variables that the reading takes, are together of bulk at most 1048576: NARROWER than '..Said'. Prove '..Said' where nothing that the law and all that it calls make is longer than what came in: it says more and counts as full. Else prove '..UptoSaid'. A law counts once. -/
mutual
def uptoBulk {H : Type} : DataW H → Nat
  | .lit (.string bytes) => bytes.length + 1
  | .lit _ => 1
  | .nil => 1
  | .ptr d => uptoBulk d + 1
  | .slice elems spare => uptoBulkAll elems + uptoBulkAll spare + 1
  | .agg parts => uptoBulkAll parts + 1
  | .iface _ d => uptoBulk d + 1
  | .map entries => uptoBulkEntries entries + 1
  | .held _ => 1
def uptoBulkAll {H : Type} : List (DataW H) → Nat
  | [] => 0
  | d :: r => uptoBulk d + uptoBulkAll r
def uptoBulkEntries {H : Type} : List (Lit × DataW H) → Nat
  | [] => 0
  | x :: r => uptoBulkEntry x + uptoBulkEntries r
def uptoBulkEntry {H : Type} : Lit × DataW H → Nat
  | (.string bytes, d) => bytes.length + uptoBulk d + 1
  | (_, d) => uptoBulk d + 1
 end
def uptoSmall : (H : Type) → List (DataW H) → Bool := fun _ ds => decide (uptoBulkAll ds ≤ 1048576)
def OpenSpec.upto (s : _root_.Go.ChangeSpec) : _root_.Go.OpenSpec := { _root_.Go.OpenSpec.ofChange s with cond := some uptoSmall }

/-- 'siltlaw24.PinsPlay', WHERE WHAT IT READS IS OF BULK AT MOST 1048576: true; the input reads as it did. -/
def pinsPlayUptoRow : OpenClaim := { program := "ytclmndonaljppaa", sum := "26a054b259d1b072bd8da5b2f09f3b2897b45061996d783aa77196a23834668d", func := "silt/siltlaw24.PinsPlay", spec := "pinsPlay", inPlace := ["internal/reflectlite.TypeOf"], unfollowed := true, recurses := true, apart := false, narrowed := true }
def PinsPlayUptoSaid : Prop := pinsPlayUptoRow.holds Try.pinned (OpenSpec.upto pinsPlaySpec)

/-- 'siltlaw24.PinsOnce', WHERE WHAT IT READS IS OF BULK AT MOST 1048576: true; the input reads as it did. -/
def pinsOnceUptoRow : OpenClaim := { program := "ytclmndonaljppaa", sum := "26a054b259d1b072bd8da5b2f09f3b2897b45061996d783aa77196a23834668d", func := "silt/siltlaw24.PinsOnce", spec := "pinsOnce", inPlace := ["internal/reflectlite.TypeOf"], unfollowed := true, recurses := true, apart := false, narrowed := true }
def PinsOnceUptoSaid : Prop := pinsOnceUptoRow.holds Try.pinned (OpenSpec.upto pinsOnceSpec)

/-- 'siltlaw24.PinsNone', WHERE WHAT IT READS IS OF BULK AT MOST 1048576: true; the input reads as it did. -/
def pinsNoneUptoRow : OpenClaim := { program := "ytclmndonaljppaa", sum := "26a054b259d1b072bd8da5b2f09f3b2897b45061996d783aa77196a23834668d", func := "silt/siltlaw24.PinsNone", spec := "pinsNone", inPlace := ["internal/reflectlite.TypeOf"], unfollowed := true, recurses := true, apart := false, narrowed := true }
def PinsNoneUptoSaid : Prop := pinsNoneUptoRow.holds Try.pinned (OpenSpec.upto pinsNoneSpec)

/-- 'siltlaw24.PinsApart', WHERE WHAT IT READS IS OF BULK AT MOST 1048576: true; the input reads as it did. -/
def pinsApartUptoRow : OpenClaim := { program := "ytclmndonaljppaa", sum := "26a054b259d1b072bd8da5b2f09f3b2897b45061996d783aa77196a23834668d", func := "silt/siltlaw24.PinsApart", spec := "pinsApart", inPlace := ["internal/reflectlite.TypeOf"], unfollowed := true, recurses := true, apart := false, narrowed := true }
def PinsApartUptoSaid : Prop := pinsApartUptoRow.holds Try.pinned (OpenSpec.upto pinsApartSpec)

end Rows
end Go.Proofs.Ytclmndonaljppaa
