/-
  No cell of these rows narrows 'for every input' (looked for: loops, veiled, ifaces, maps, wideKeys, modest, calm, conditions, laid).
  DERIVED. THE GIVEN ROWS OF THIS SEAT. 4 by the template 'for every input the law returns true; each argument reads behind the call as it read before'; 0 by the template 'total and deterministic' (their statements: YteffppdkofdmdaaTotals.lean).
  GIVEN WITH THE SEED: the statements are not yours to turn. If you find one false, say at which input.
  Laid BY PROGRAM, IN A SANDBOX (cutbox-rows.mjs): the forced cells as the released guide's own fill.sh prints them over the translation c17a703530bb1e8a… (all of the seat's roots in one cut). By AI agents, Wed Nov 11 2026. No macro, syntax, notation, axiom, sorry.
-/
import Derived.Test.YteffppdkofdmdaaChecked
import GoSem.Claim
import GoSem.ClaimJoined
import GoSem.ClaimMapViews
import Derived.JoinedTies
import Derived.KernelRfl
namespace Go.Proofs.Yteffppdkofdmdaa
/- THE CELL 'sum', in the pinned program and in every row, IS THE sha256 OF THE DUMP (.gsa) THAT YteffppdkofdmdaaProg.lean LOADS. Nothing in Lean hashes anything: it is a label: what it is worth is what the hold of that sum in a sandbox is worth. -/
noncomputable def Try.pinned : Pinned := { name := "yteffppdkofdmdaa", sum := "c17a703530bb1e8aa5301cdef2e7e95030b4c6e0ec1336e718662191df39aeff", checked := Try.checked }
namespace Rows
def none {H : Type} : Left H := { results := [], args := [] }

/-- 'understudylaw25.PastNames': WHATEVER THE INPUT: true; the input reads as it did. -/
def pastNamesSpec : ChangeSpec := { name := "pastNames", fn := fun _ => fun
  | [] => { results := [.lit (.bool true)], args := [] }
  | _ => none }
def pastNamesRow : OpenClaim := { program := "yteffppdkofdmdaa", sum := "c17a703530bb1e8aa5301cdef2e7e95030b4c6e0ec1336e718662191df39aeff", func := "understudy/understudylaw25.PastNames", spec := "pastNames", unfollowed := true, recurses := true, apart := false }
def PastNamesSaid : Prop := pastNamesRow.holds Try.pinned (OpenSpec.ofChange pastNamesSpec)

/-- ITS FALSE NEIGHBOUR: 'it returns false'. Refute it at one input. -/
def pastNamesWrong : ChangeSpec := { name := "pastNames", fn := fun _ => fun
  | [] => { results := [.lit (.bool false)], args := [] }
  | _ => none }
def PastNamesWrongFalsely : Prop := pastNamesRow.holds Try.pinned (OpenSpec.ofChange pastNamesWrong)

/-- 'understudylaw25.PastRises': WHATEVER THE INPUT: true; the input reads as it did. -/
def pastRisesSpec : ChangeSpec := { name := "pastRises", fn := fun _ => fun
  | [d] => { results := [.lit (.bool true)], args := [d] }
  | _ => none }
def pastRisesRow : OpenClaim := { program := "yteffppdkofdmdaa", sum := "c17a703530bb1e8aa5301cdef2e7e95030b4c6e0ec1336e718662191df39aeff", func := "understudy/understudylaw25.PastRises", spec := "pastRises", unfollowed := true, recurses := true, apart := false }
def PastRisesSaid : Prop := pastRisesRow.holds Try.pinned (OpenSpec.ofChange pastRisesSpec)

/-- ITS FALSE NEIGHBOUR: 'it returns false'. Refute it at one input. -/
def pastRisesWrong : ChangeSpec := { name := "pastRises", fn := fun _ => fun
  | [d] => { results := [.lit (.bool false)], args := [d] }
  | _ => none }
def PastRisesWrongFalsely : Prop := pastRisesRow.holds Try.pinned (OpenSpec.ofChange pastRisesWrong)

/-- 'understudylaw25.PastParts': WHATEVER THE INPUT: true; the input reads as it did. -/
def pastPartsSpec : ChangeSpec := { name := "pastParts", fn := fun _ => fun
  | [d1, d2] => { results := [.lit (.bool true)], args := [d1, d2] }
  | _ => none }
def pastPartsRow : OpenClaim := { program := "yteffppdkofdmdaa", sum := "c17a703530bb1e8aa5301cdef2e7e95030b4c6e0ec1336e718662191df39aeff", func := "understudy/understudylaw25.PastParts", spec := "pastParts", unfollowed := true, recurses := true, apart := false }
def PastPartsSaid : Prop := pastPartsRow.holds Try.pinned (OpenSpec.ofChange pastPartsSpec)

/-- ITS FALSE NEIGHBOUR: 'it returns false'. Refute it at one input. -/
def pastPartsWrong : ChangeSpec := { name := "pastParts", fn := fun _ => fun
  | [d1, d2] => { results := [.lit (.bool false)], args := [d1, d2] }
  | _ => none }
def PastPartsWrongFalsely : Prop := pastPartsRow.holds Try.pinned (OpenSpec.ofChange pastPartsWrong)

/-- 'understudylaw25.PastCovers': WHATEVER THE INPUT: true; the input reads as it did. -/
def pastCoversSpec : ChangeSpec := { name := "pastCovers", fn := fun _ => fun
  | [d] => { results := [.lit (.bool true)], args := [d] }
  | _ => none }
def pastCoversRow : OpenClaim := { program := "yteffppdkofdmdaa", sum := "c17a703530bb1e8aa5301cdef2e7e95030b4c6e0ec1336e718662191df39aeff", func := "understudy/understudylaw25.PastCovers", spec := "pastCovers", unfollowed := true, recurses := true, apart := false }
def PastCoversSaid : Prop := pastCoversRow.holds Try.pinned (OpenSpec.ofChange pastCoversSpec)

/-- ITS FALSE NEIGHBOUR: 'it returns false'. Refute it at one input. -/
def pastCoversWrong : ChangeSpec := { name := "pastCovers", fn := fun _ => fun
  | [d] => { results := [.lit (.bool false)], args := [d] }
  | _ => none }
def PastCoversWrongFalsely : Prop := pastCoversRow.holds Try.pinned (OpenSpec.ofChange pastCoversWrong)

/- THE SECOND FORM. 'bulk': how many values and letters a reading holds, each counted each time it is reached (what is shared counts as often as it is met; a slice's spare places count too). A statement '..UptoSaid' is the law's where the arguments, and the package variables that the reading takes, are together of bulk at most 1048576: NARROWER than '..Said'. Prove '..Said' where nothing that the law and all that it calls make is longer than what came in: it says more and counts as full. Else prove '..UptoSaid'. A law counts once. -/
mutual
def uptoBulk {H : Type} : DataW H → Nat
  | .lit (.string bytes) => bytes.length + 1
  | .lit _ => 1
  | .nil => 1
  | .ptr d => uptoBulk d + 1
  | .slice elems spare => uptoBulkAll elems + uptoBulkAll spare + 1
  | .agg parts => uptoBulkAll parts + 1
  | .iface _ d => uptoBulk d + 1
  | .map entries => uptoBulkEntries entries + 1
  | .held _ => 1
def uptoBulkAll {H : Type} : List (DataW H) → Nat
  | [] => 0
  | d :: r => uptoBulk d + uptoBulkAll r
def uptoBulkEntries {H : Type} : List (Lit × DataW H) → Nat
  | [] => 0
  | x :: r => uptoBulkEntry x + uptoBulkEntries r
def uptoBulkEntry {H : Type} : Lit × DataW H → Nat
  | (.string bytes, d) => bytes.length + uptoBulk d + 1
  | (_, d) => uptoBulk d + 1
 end
def uptoSmall : (H : Type) → List (DataW H) → Bool := fun _ ds => decide (uptoBulkAll ds ≤ 1048576)
def OpenSpec.upto (s : _root_.Go.ChangeSpec) : _root_.Go.OpenSpec := { _root_.Go.OpenSpec.ofChange s with cond := some uptoSmall }

/-- 'understudylaw25.PastNames', WHERE WHAT IT READS IS OF BULK AT MOST 1048576: true; the input reads as it did. -/
def pastNamesUptoRow : OpenClaim := { program := "yteffppdkofdmdaa", sum := "c17a703530bb1e8aa5301cdef2e7e95030b4c6e0ec1336e718662191df39aeff", func := "understudy/understudylaw25.PastNames", spec := "pastNames", unfollowed := true, recurses := true, apart := false, narrowed := true }
def PastNamesUptoSaid : Prop := pastNamesUptoRow.holds Try.pinned (OpenSpec.upto pastNamesSpec)

/-- 'understudylaw25.PastRises', WHERE WHAT IT READS IS OF BULK AT MOST 1048576: true; the input reads as it did. -/
def pastRisesUptoRow : OpenClaim := { program := "yteffppdkofdmdaa", sum := "c17a703530bb1e8aa5301cdef2e7e95030b4c6e0ec1336e718662191df39aeff", func := "understudy/understudylaw25.PastRises", spec := "pastRises", unfollowed := true, recurses := true, apart := false, narrowed := true }
def PastRisesUptoSaid : Prop := pastRisesUptoRow.holds Try.pinned (OpenSpec.upto pastRisesSpec)

/-- 'understudylaw25.PastParts', WHERE WHAT IT READS IS OF BULK AT MOST 1048576: true; the input reads as it did. -/
def pastPartsUptoRow : OpenClaim := { program := "yteffppdkofdmdaa", sum := "c17a703530bb1e8aa5301cdef2e7e95030b4c6e0ec1336e718662191df39aeff", func := "understudy/understudylaw25.PastParts", spec := "pastParts", unfollowed := true, recurses := true, apart := false, narrowed := true }
def PastPartsUptoSaid : Prop := pastPartsUptoRow.holds Try.pinned (OpenSpec.upto pastPartsSpec)

/-- 'understudylaw25.PastCovers', WHERE WHAT IT READS IS OF BULK AT MOST 1048576: true; the input reads as it did. -/
def pastCoversUptoRow : OpenClaim := { program := "yteffppdkofdmdaa", sum := "c17a703530bb1e8aa5301cdef2e7e95030b4c6e0ec1336e718662191df39aeff", func := "understudy/understudylaw25.PastCovers", spec := "pastCovers", unfollowed := true, recurses := true, apart := false, narrowed := true }
def PastCoversUptoSaid : Prop := pastCoversUptoRow.holds Try.pinned (OpenSpec.upto pastCoversSpec)

end Rows
end Go.Proofs.Yteffppdkofdmdaa
