/-
  No cell of these rows narrows 'for every input' (looked for: loops, veiled, ifaces, maps, wideKeys, modest, calm, conditions, laid).
  DERIVED. THE GIVEN ROWS OF THIS SEAT. 5 by the template 'for every input the law returns true; each argument reads behind the call as it read before'; 0 by the template 'total and deterministic' (their statements: YtfboomidofnmfaaTotals.lean).
  GIVEN WITH THE SEED: the statements are not yours to turn. If you find one false, say at which input.
  Laid BY PROGRAM, IN A SANDBOX (cutbox-rows.mjs): the forced cells as the released guide's own fill.sh prints them over the translation c2d0e7f6901ec088… (all of the seat's roots in one cut). By AI agents, Wed Nov 11 2026. No macro, syntax, notation, axiom, sorry.
-/
import Derived.Test.YtfboomidofnmfaaChecked
import GoSem.Claim
import GoSem.ClaimJoined
import GoSem.ClaimMapViews
import Derived.JoinedTies
import Derived.KernelRfl
namespace Go.Proofs.Ytfboomidofnmfaa
/- THE CELL 'sum', in the pinned program and in every row, IS THE sha256 OF THE DUMP (.gsa) THAT YtfboomidofnmfaaProg.lean LOADS. Nothing in Lean hashes anything: it is a label: what it is worth is what the hold of that sum in a sandbox is worth. -/
noncomputable def Try.pinned : Pinned := { name := "ytfboomidofnmfaa", sum := "c2d0e7f6901ec0885cbc9ddadbd76cc04db95ecaa48c085c77e1c03a11fd8f18", checked := Try.checked }
namespace Rows
def none {H : Type} : Left H := { results := [], args := [] }

/-- 'understudylaw20.SenderNames': WHATEVER THE INPUT: true; the input reads as it did. -/
def senderNamesSpec : ChangeSpec := { name := "senderNames", fn := fun _ => fun
  | [] => { results := [.lit (.bool true)], args := [] }
  | _ => none }
def senderNamesRow : OpenClaim := { program := "ytfboomidofnmfaa", sum := "c2d0e7f6901ec0885cbc9ddadbd76cc04db95ecaa48c085c77e1c03a11fd8f18", func := "understudy/understudylaw20.SenderNames", spec := "senderNames", apart := false }
def SenderNamesSaid : Prop := senderNamesRow.holds Try.pinned (OpenSpec.ofChange senderNamesSpec)

/-- ITS FALSE NEIGHBOUR: 'it returns false'. Refute it at one input. -/
def senderNamesWrong : ChangeSpec := { name := "senderNames", fn := fun _ => fun
  | [] => { results := [.lit (.bool false)], args := [] }
  | _ => none }
def SenderNamesWrongFalsely : Prop := senderNamesRow.holds Try.pinned (OpenSpec.ofChange senderNamesWrong)

/-- 'understudylaw20.SenderTicks': WHATEVER THE INPUT: true; the input reads as it did. -/
def senderTicksSpec : ChangeSpec := { name := "senderTicks", fn := fun _ => fun
  | [d1, d2] => { results := [.lit (.bool true)], args := [d1, d2] }
  | _ => none }
def senderTicksRow : OpenClaim := { program := "ytfboomidofnmfaa", sum := "c2d0e7f6901ec0885cbc9ddadbd76cc04db95ecaa48c085c77e1c03a11fd8f18", func := "understudy/understudylaw20.SenderTicks", spec := "senderTicks", apart := false }
def SenderTicksSaid : Prop := senderTicksRow.holds Try.pinned (OpenSpec.ofChange senderTicksSpec)

/-- ITS FALSE NEIGHBOUR: 'it returns false'. Refute it at one input. -/
def senderTicksWrong : ChangeSpec := { name := "senderTicks", fn := fun _ => fun
  | [d1, d2] => { results := [.lit (.bool false)], args := [d1, d2] }
  | _ => none }
def SenderTicksWrongFalsely : Prop := senderTicksRow.holds Try.pinned (OpenSpec.ofChange senderTicksWrong)

/-- 'understudylaw20.SenderEnds': WHATEVER THE INPUT: true; the input reads as it did. -/
def senderEndsSpec : ChangeSpec := { name := "senderEnds", fn := fun _ => fun
  | [d1, d2, d3] => { results := [.lit (.bool true)], args := [d1, d2, d3] }
  | _ => none }
def senderEndsRow : OpenClaim := { program := "ytfboomidofnmfaa", sum := "c2d0e7f6901ec0885cbc9ddadbd76cc04db95ecaa48c085c77e1c03a11fd8f18", func := "understudy/understudylaw20.SenderEnds", spec := "senderEnds", unfollowed := true, recurses := true, apart := false }
def SenderEndsSaid : Prop := senderEndsRow.holds Try.pinned (OpenSpec.ofChange senderEndsSpec)

/-- ITS FALSE NEIGHBOUR: 'it returns false'. Refute it at one input. -/
def senderEndsWrong : ChangeSpec := { name := "senderEnds", fn := fun _ => fun
  | [d1, d2, d3] => { results := [.lit (.bool false)], args := [d1, d2, d3] }
  | _ => none }
def SenderEndsWrongFalsely : Prop := senderEndsRow.holds Try.pinned (OpenSpec.ofChange senderEndsWrong)

/-- 'understudylaw20.SenderRises': WHATEVER THE INPUT: true; the input reads as it did. -/
def senderRisesSpec : ChangeSpec := { name := "senderRises", fn := fun _ => fun
  | [d1, d2, d3] => { results := [.lit (.bool true)], args := [d1, d2, d3] }
  | _ => none }
def senderRisesRow : OpenClaim := { program := "ytfboomidofnmfaa", sum := "c2d0e7f6901ec0885cbc9ddadbd76cc04db95ecaa48c085c77e1c03a11fd8f18", func := "understudy/understudylaw20.SenderRises", spec := "senderRises", unfollowed := true, recurses := true, apart := false }
def SenderRisesSaid : Prop := senderRisesRow.holds Try.pinned (OpenSpec.ofChange senderRisesSpec)

/-- ITS FALSE NEIGHBOUR: 'it returns false'. Refute it at one input. -/
def senderRisesWrong : ChangeSpec := { name := "senderRises", fn := fun _ => fun
  | [d1, d2, d3] => { results := [.lit (.bool false)], args := [d1, d2, d3] }
  | _ => none }
def SenderRisesWrongFalsely : Prop := senderRisesRow.holds Try.pinned (OpenSpec.ofChange senderRisesWrong)

/-- 'understudylaw20.SenderRuns': WHATEVER THE INPUT: true; the input reads as it did. -/
def senderRunsSpec : ChangeSpec := { name := "senderRuns", fn := fun _ => fun
  | [d1, d2, d3] => { results := [.lit (.bool true)], args := [d1, d2, d3] }
  | _ => none }
def senderRunsRow : OpenClaim := { program := "ytfboomidofnmfaa", sum := "c2d0e7f6901ec0885cbc9ddadbd76cc04db95ecaa48c085c77e1c03a11fd8f18", func := "understudy/understudylaw20.SenderRuns", spec := "senderRuns", unfollowed := true, recurses := true, apart := false }
def SenderRunsSaid : Prop := senderRunsRow.holds Try.pinned (OpenSpec.ofChange senderRunsSpec)

/-- ITS FALSE NEIGHBOUR: 'it returns false'. Refute it at one input. -/
def senderRunsWrong : ChangeSpec := { name := "senderRuns", fn := fun _ => fun
  | [d1, d2, d3] => { results := [.lit (.bool false)], args := [d1, d2, d3] }
  | _ => none }
def SenderRunsWrongFalsely : Prop := senderRunsRow.holds Try.pinned (OpenSpec.ofChange senderRunsWrong)

/- THE SECOND FORM. 'bulk': how many values and letters a reading holds, each counted each time it is reached (what is shared counts as often as it is met; a slice's spare places count too). A statement '..UptoSaid' is the law's where the arguments, and the package variables that the reading takes, are together of bulk at most 1048576: NARROWER than '..Said'. Prove '..Said' where nothing that the law and all that it calls make is longer than what came in: it says more and counts as full. Else prove '..UptoSaid'. A law counts once. -/
mutual
def uptoBulk {H : Type} : DataW H → Nat
  | .lit (.string bytes) => bytes.length + 1
  | .lit _ => 1
  | .nil => 1
  | .ptr d => uptoBulk d + 1
  | .slice elems spare => uptoBulkAll elems + uptoBulkAll spare + 1
  | .agg parts => uptoBulkAll parts + 1
  | .iface _ d => uptoBulk d + 1
  | .map entries => uptoBulkEntries entries + 1
  | .held _ => 1
def uptoBulkAll {H : Type} : List (DataW H) → Nat
  | [] => 0
  | d :: r => uptoBulk d + uptoBulkAll r
def uptoBulkEntries {H : Type} : List (Lit × DataW H) → Nat
  | [] => 0
  | x :: r => uptoBulkEntry x + uptoBulkEntries r
def uptoBulkEntry {H : Type} : Lit × DataW H → Nat
  | (.string bytes, d) => bytes.length + uptoBulk d + 1
  | (_, d) => uptoBulk d + 1
 end
def uptoSmall : (H : Type) → List (DataW H) → Bool := fun _ ds => decide (uptoBulkAll ds ≤ 1048576)
def OpenSpec.upto (s : _root_.Go.ChangeSpec) : _root_.Go.OpenSpec := { _root_.Go.OpenSpec.ofChange s with cond := some uptoSmall }

/-- 'understudylaw20.SenderNames', WHERE WHAT IT READS IS OF BULK AT MOST 1048576: true; the input reads as it did. -/
def senderNamesUptoRow : OpenClaim := { program := "ytfboomidofnmfaa", sum := "c2d0e7f6901ec0885cbc9ddadbd76cc04db95ecaa48c085c77e1c03a11fd8f18", func := "understudy/understudylaw20.SenderNames", spec := "senderNames", apart := false, narrowed := true }
def SenderNamesUptoSaid : Prop := senderNamesUptoRow.holds Try.pinned (OpenSpec.upto senderNamesSpec)

/-- 'understudylaw20.SenderTicks', WHERE WHAT IT READS IS OF BULK AT MOST 1048576: true; the input reads as it did. -/
def senderTicksUptoRow : OpenClaim := { program := "ytfboomidofnmfaa", sum := "c2d0e7f6901ec0885cbc9ddadbd76cc04db95ecaa48c085c77e1c03a11fd8f18", func := "understudy/understudylaw20.SenderTicks", spec := "senderTicks", apart := false, narrowed := true }
def SenderTicksUptoSaid : Prop := senderTicksUptoRow.holds Try.pinned (OpenSpec.upto senderTicksSpec)

/-- 'understudylaw20.SenderEnds', WHERE WHAT IT READS IS OF BULK AT MOST 1048576: true; the input reads as it did. -/
def senderEndsUptoRow : OpenClaim := { program := "ytfboomidofnmfaa", sum := "c2d0e7f6901ec0885cbc9ddadbd76cc04db95ecaa48c085c77e1c03a11fd8f18", func := "understudy/understudylaw20.SenderEnds", spec := "senderEnds", unfollowed := true, recurses := true, apart := false, narrowed := true }
def SenderEndsUptoSaid : Prop := senderEndsUptoRow.holds Try.pinned (OpenSpec.upto senderEndsSpec)

/-- 'understudylaw20.SenderRises', WHERE WHAT IT READS IS OF BULK AT MOST 1048576: true; the input reads as it did. -/
def senderRisesUptoRow : OpenClaim := { program := "ytfboomidofnmfaa", sum := "c2d0e7f6901ec0885cbc9ddadbd76cc04db95ecaa48c085c77e1c03a11fd8f18", func := "understudy/understudylaw20.SenderRises", spec := "senderRises", unfollowed := true, recurses := true, apart := false, narrowed := true }
def SenderRisesUptoSaid : Prop := senderRisesUptoRow.holds Try.pinned (OpenSpec.upto senderRisesSpec)

/-- 'understudylaw20.SenderRuns', WHERE WHAT IT READS IS OF BULK AT MOST 1048576: true; the input reads as it did. -/
def senderRunsUptoRow : OpenClaim := { program := "ytfboomidofnmfaa", sum := "c2d0e7f6901ec0885cbc9ddadbd76cc04db95ecaa48c085c77e1c03a11fd8f18", func := "understudy/understudylaw20.SenderRuns", spec := "senderRuns", unfollowed := true, recurses := true, apart := false, narrowed := true }
def SenderRunsUptoSaid : Prop := senderRunsUptoRow.holds Try.pinned (OpenSpec.upto senderRunsSpec)

end Rows
end Go.Proofs.Ytfboomidofnmfaa
