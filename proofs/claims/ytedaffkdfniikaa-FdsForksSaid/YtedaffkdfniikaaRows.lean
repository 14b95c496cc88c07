/-
  No cell of these rows narrows 'for every input' (looked for: loops, veiled, ifaces, maps, wideKeys, modest, calm, conditions, laid).
  DERIVED. THE GIVEN ROWS OF THIS SEAT. 6 by the template 'for every input the law returns true; each argument reads behind the call as it read before'; 0 by the template 'total and deterministic' (their statements: YtedaffkdfniikaaTotals.lean).
  GIVEN WITH THE SEED: the statements are not yours to turn. If you find one false, say at which input.
  Laid BY PROGRAM, IN A SANDBOX (cutbox-rows.mjs): the forced cells as the released guide's own fill.sh prints them over the translation c8c8c7c5041dd9a9… (all of the seat's roots in one cut). By AI agents, Wed Nov 11 2026. No macro, syntax, notation, axiom, sorry.
-/
import Derived.Test.YtedaffkdfniikaaChecked
import GoSem.Claim
import GoSem.ClaimJoined
import GoSem.ClaimMapViews
import Derived.JoinedTies
import Derived.KernelRfl
namespace Go.Proofs.Ytedaffkdfniikaa
/- THE CELL 'sum', in the pinned program and in every row, IS THE sha256 OF THE DUMP (.gsa) THAT YtedaffkdfniikaaProg.lean LOADS. Nothing in Lean hashes anything: it is a label: what it is worth is what the hold of that sum in a sandbox is worth. -/
noncomputable def Try.pinned : Pinned := { name := "ytedaffkdfniikaa", sum := "c8c8c7c5041dd9a9dffa434f4b4e5dd9f99016590bd8c871aaddddc9fbb821b2", checked := Try.checked }
namespace Rows
def none {H : Type} : Left H := { results := [], args := [] }

/-- 'embrasurelaw21.FdsEnds': WHATEVER THE INPUT: true; the input reads as it did. -/
def fdsEndsSpec : ChangeSpec := { name := "fdsEnds", fn := fun _ => fun
  | [d] => { results := [.lit (.bool true)], args := [d] }
  | _ => none }
def fdsEndsRow : OpenClaim := { program := "ytedaffkdfniikaa", sum := "c8c8c7c5041dd9a9dffa434f4b4e5dd9f99016590bd8c871aaddddc9fbb821b2", func := "embrasure/embrasurelaw21.FdsEnds", spec := "fdsEnds", apart := false }
def FdsEndsSaid : Prop := fdsEndsRow.holds Try.pinned (OpenSpec.ofChange fdsEndsSpec)

/-- ITS FALSE NEIGHBOUR: 'it returns false'. Refute it at one input. -/
def fdsEndsWrong : ChangeSpec := { name := "fdsEnds", fn := fun _ => fun
  | [d] => { results := [.lit (.bool false)], args := [d] }
  | _ => none }
def FdsEndsWrongFalsely : Prop := fdsEndsRow.holds Try.pinned (OpenSpec.ofChange fdsEndsWrong)

/-- 'embrasurelaw21.FdsShared': WHATEVER THE INPUT: true; the input reads as it did. -/
def fdsSharedSpec : ChangeSpec := { name := "fdsShared", fn := fun _ => fun
  | [d1, d2, d3] => { results := [.lit (.bool true)], args := [d1, d2, d3] }
  | _ => none }
def fdsSharedRow : OpenClaim := { program := "ytedaffkdfniikaa", sum := "c8c8c7c5041dd9a9dffa434f4b4e5dd9f99016590bd8c871aaddddc9fbb821b2", func := "embrasure/embrasurelaw21.FdsShared", spec := "fdsShared", apart := false }
def FdsSharedSaid : Prop := fdsSharedRow.holds Try.pinned (OpenSpec.ofChange fdsSharedSpec)

/-- ITS FALSE NEIGHBOUR: 'it returns false'. Refute it at one input. -/
def fdsSharedWrong : ChangeSpec := { name := "fdsShared", fn := fun _ => fun
  | [d1, d2, d3] => { results := [.lit (.bool false)], args := [d1, d2, d3] }
  | _ => none }
def FdsSharedWrongFalsely : Prop := fdsSharedRow.holds Try.pinned (OpenSpec.ofChange fdsSharedWrong)

/-- 'embrasurelaw21.FdsLeast': WHATEVER THE INPUT: true; the input reads as it did. -/
def fdsLeastSpec : ChangeSpec := { name := "fdsLeast", fn := fun _ => fun
  | [d1, d2, d3] => { results := [.lit (.bool true)], args := [d1, d2, d3] }
  | _ => none }
def fdsLeastRow : OpenClaim := { program := "ytedaffkdfniikaa", sum := "c8c8c7c5041dd9a9dffa434f4b4e5dd9f99016590bd8c871aaddddc9fbb821b2", func := "embrasure/embrasurelaw21.FdsLeast", spec := "fdsLeast", apart := false }
def FdsLeastSaid : Prop := fdsLeastRow.holds Try.pinned (OpenSpec.ofChange fdsLeastSpec)

/-- ITS FALSE NEIGHBOUR: 'it returns false'. Refute it at one input. -/
def fdsLeastWrong : ChangeSpec := { name := "fdsLeast", fn := fun _ => fun
  | [d1, d2, d3] => { results := [.lit (.bool false)], args := [d1, d2, d3] }
  | _ => none }
def FdsLeastWrongFalsely : Prop := fdsLeastRow.holds Try.pinned (OpenSpec.ofChange fdsLeastWrong)

/-- 'embrasurelaw21.FdsPlays': WHATEVER THE INPUT: true; the input reads as it did. -/
def fdsPlaysSpec : ChangeSpec := { name := "fdsPlays", fn := fun _ => fun
  | [d] => { results := [.lit (.bool true)], args := [d] }
  | _ => none }
def fdsPlaysRow : OpenClaim := { program := "ytedaffkdfniikaa", sum := "c8c8c7c5041dd9a9dffa434f4b4e5dd9f99016590bd8c871aaddddc9fbb821b2", func := "embrasure/embrasurelaw21.FdsPlays", spec := "fdsPlays", apart := false }
def FdsPlaysSaid : Prop := fdsPlaysRow.holds Try.pinned (OpenSpec.ofChange fdsPlaysSpec)

/-- ITS FALSE NEIGHBOUR: 'it returns false'. Refute it at one input. -/
def fdsPlaysWrong : ChangeSpec := { name := "fdsPlays", fn := fun _ => fun
  | [d] => { results := [.lit (.bool false)], args := [d] }
  | _ => none }
def FdsPlaysWrongFalsely : Prop := fdsPlaysRow.holds Try.pinned (OpenSpec.ofChange fdsPlaysWrong)

/-- 'embrasurelaw21.FdsForks': WHATEVER THE INPUT: true; the input reads as it did. -/
def fdsForksSpec : ChangeSpec := { name := "fdsForks", fn := fun _ => fun
  | [d1, d2] => { results := [.lit (.bool true)], args := [d1, d2] }
  | _ => none }
def fdsForksRow : OpenClaim := { program := "ytedaffkdfniikaa", sum := "c8c8c7c5041dd9a9dffa434f4b4e5dd9f99016590bd8c871aaddddc9fbb821b2", func := "embrasure/embrasurelaw21.FdsForks", spec := "fdsForks", unfollowed := true, recurses := true, apart := false }
def FdsForksSaid : Prop := fdsForksRow.holds Try.pinned (OpenSpec.ofChange fdsForksSpec)

/-- ITS FALSE NEIGHBOUR: 'it returns false'. Refute it at one input. -/
def fdsForksWrong : ChangeSpec := { name := "fdsForks", fn := fun _ => fun
  | [d1, d2] => { results := [.lit (.bool false)], args := [d1, d2] }
  | _ => none }
def FdsForksWrongFalsely : Prop := fdsForksRow.holds Try.pinned (OpenSpec.ofChange fdsForksWrong)

/-- 'embrasurelaw21.FdsNone': WHATEVER THE INPUT: true; the input reads as it did. -/
def fdsNoneSpec : ChangeSpec := { name := "fdsNone", fn := fun _ => fun
  | [d] => { results := [.lit (.bool true)], args := [d] }
  | _ => none }
def fdsNoneRow : OpenClaim := { program := "ytedaffkdfniikaa", sum := "c8c8c7c5041dd9a9dffa434f4b4e5dd9f99016590bd8c871aaddddc9fbb821b2", func := "embrasure/embrasurelaw21.FdsNone", spec := "fdsNone", unfollowed := true, recurses := true, apart := false }
def FdsNoneSaid : Prop := fdsNoneRow.holds Try.pinned (OpenSpec.ofChange fdsNoneSpec)

/-- ITS FALSE NEIGHBOUR: 'it returns false'. Refute it at one input. -/
def fdsNoneWrong : ChangeSpec := { name := "fdsNone", fn := fun _ => fun
  | [d] => { results := [.lit (.bool false)], args := [d] }
  | _ => none }
def FdsNoneWrongFalsely : Prop := fdsNoneRow.holds Try.pinned (OpenSpec.ofChange fdsNoneWrong)

/- THE SECOND FORM. 'bulk': how many values and letters a reading holds, each counted each time it is reached (what is shared counts as often as it is met; a slice's spare places count too). A statement '..UptoSaid' is the law's where the arguments, and the package variables that the reading takes, are together of bulk at most 1048576: NARROWER than '..Said'. Prove '..Said' where nothing that the law and all that it calls make is longer than what came in: it says more and counts as full. Else prove '..UptoSaid'. A law counts once. -/
mutual
def uptoBulk {H : Type} : DataW H → Nat
  | .lit (.string bytes) => bytes.length + 1
  | .lit _ => 1
  | .nil => 1
  | .ptr d => uptoBulk d + 1
  | .slice elems spare => uptoBulkAll elems + uptoBulkAll spare + 1
  | .agg parts => uptoBulkAll parts + 1
  | .iface _ d => uptoBulk d + 1
  | .map entries => uptoBulkEntries entries + 1
  | .held _ => 1
def uptoBulkAll {H : Type} : List (DataW H) → Nat
  | [] => 0
  | d :: r => uptoBulk d + uptoBulkAll r
def uptoBulkEntries {H : Type} : List (Lit × DataW H) → Nat
  | [] => 0
  | x :: r => uptoBulkEntry x + uptoBulkEntries r
def uptoBulkEntry {H : Type} : Lit × DataW H → Nat
  | (.string bytes, d) => bytes.length + uptoBulk d + 1
  | (_, d) => uptoBulk d + 1
 end
def uptoSmall : (H : Type) → List (DataW H) → Bool := fun _ ds => decide (uptoBulkAll ds ≤ 1048576)
def OpenSpec.upto (s : _root_.Go.ChangeSpec) : _root_.Go.OpenSpec := { _root_.Go.OpenSpec.ofChange s with cond := some uptoSmall }

/-- 'embrasurelaw21.FdsEnds', WHERE WHAT IT READS IS OF BULK AT MOST 1048576: true; the input reads as it did. -/
def fdsEndsUptoRow : OpenClaim := { program := "ytedaffkdfniikaa", sum := "c8c8c7c5041dd9a9dffa434f4b4e5dd9f99016590bd8c871aaddddc9fbb821b2", func := "embrasure/embrasurelaw21.FdsEnds", spec := "fdsEnds", apart := false, narrowed := true }
def FdsEndsUptoSaid : Prop := fdsEndsUptoRow.holds Try.pinned (OpenSpec.upto fdsEndsSpec)

/-- 'embrasurelaw21.FdsShared', WHERE WHAT IT READS IS OF BULK AT MOST 1048576: true; the input reads as it did. -/
def fdsSharedUptoRow : OpenClaim := { program := "ytedaffkdfniikaa", sum := "c8c8c7c5041dd9a9dffa434f4b4e5dd9f99016590bd8c871aaddddc9fbb821b2", func := "embrasure/embrasurelaw21.FdsShared", spec := "fdsShared", apart := false, narrowed := true }
def FdsSharedUptoSaid : Prop := fdsSharedUptoRow.holds Try.pinned (OpenSpec.upto fdsSharedSpec)

/-- 'embrasurelaw21.FdsLeast', WHERE WHAT IT READS IS OF BULK AT MOST 1048576: true; the input reads as it did. -/
def fdsLeastUptoRow : OpenClaim := { program := "ytedaffkdfniikaa", sum := "c8c8c7c5041dd9a9dffa434f4b4e5dd9f99016590bd8c871aaddddc9fbb821b2", func := "embrasure/embrasurelaw21.FdsLeast", spec := "fdsLeast", apart := false, narrowed := true }
def FdsLeastUptoSaid : Prop := fdsLeastUptoRow.holds Try.pinned (OpenSpec.upto fdsLeastSpec)

/-- 'embrasurelaw21.FdsPlays', WHERE WHAT IT READS IS OF BULK AT MOST 1048576: true; the input reads as it did. -/
def fdsPlaysUptoRow : OpenClaim := { program := "ytedaffkdfniikaa", sum := "c8c8c7c5041dd9a9dffa434f4b4e5dd9f99016590bd8c871aaddddc9fbb821b2", func := "embrasure/embrasurelaw21.FdsPlays", spec := "fdsPlays", apart := false, narrowed := true }
def FdsPlaysUptoSaid : Prop := fdsPlaysUptoRow.holds Try.pinned (OpenSpec.upto fdsPlaysSpec)

/-- 'embrasurelaw21.FdsForks', WHERE WHAT IT READS IS OF BULK AT MOST 1048576: true; the input reads as it did. -/
def fdsForksUptoRow : OpenClaim := { program := "ytedaffkdfniikaa", sum := "c8c8c7c5041dd9a9dffa434f4b4e5dd9f99016590bd8c871aaddddc9fbb821b2", func := "embrasure/embrasurelaw21.FdsForks", spec := "fdsForks", unfollowed := true, recurses := true, apart := false, narrowed := true }
def FdsForksUptoSaid : Prop := fdsForksUptoRow.holds Try.pinned (OpenSpec.upto fdsForksSpec)

/-- 'embrasurelaw21.FdsNone', WHERE WHAT IT READS IS OF BULK AT MOST 1048576: true; the input reads as it did. -/
def fdsNoneUptoRow : OpenClaim := { program := "ytedaffkdfniikaa", sum := "c8c8c7c5041dd9a9dffa434f4b4e5dd9f99016590bd8c871aaddddc9fbb821b2", func := "embrasure/embrasurelaw21.FdsNone", spec := "fdsNone", unfollowed := true, recurses := true, apart := false, narrowed := true }
def FdsNoneUptoSaid : Prop := fdsNoneUptoRow.holds Try.pinned (OpenSpec.upto fdsNoneSpec)

end Rows
end Go.Proofs.Ytedaffkdfniikaa
