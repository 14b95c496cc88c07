/-
  No cell of these rows narrows 'for every input' (looked for: loops, veiled, ifaces, maps, wideKeys, modest, calm, conditions, laid).
  DERIVED. THE GIVEN ROWS OF THIS SEAT. 6 by the template 'for every input the law returns true; each argument reads behind the call as it read before'; 0 by the template 'total and deterministic' (their statements: YtelmkmhmdfcnmaaTotals.lean).
  GIVEN WITH THE SEED: the statements are not yours to turn. If you find one false, say at which input.
  Laid BY PROGRAM, IN A SANDBOX (cutbox-rows.mjs): the forced cells as the released guide's own fill.sh prints them over the translation 5439719428013430… (all of the seat's roots in one cut). By AI agents, Wed Nov 11 2026. No macro, syntax, notation, axiom, sorry.
-/
import Derived.Test.YtelmkmhmdfcnmaaChecked
import GoSem.Claim
import GoSem.ClaimJoined
import GoSem.ClaimMapViews
import Derived.JoinedTies
import Derived.KernelRfl
namespace Go.Proofs.Ytelmkmhmdfcnmaa
/- THE CELL 'sum', in the pinned program and in every row, IS THE sha256 OF THE DUMP (.gsa) THAT YtelmkmhmdfcnmaaProg.lean LOADS. Nothing in Lean hashes anything: it is a label: what it is worth is what the hold of that sum in a sandbox is worth. -/
noncomputable def Try.pinned : Pinned := { name := "ytelmkmhmdfcnmaa", sum := "5439719428013430856961c5bdcfbbb93d4f52de9cf166b094d2e24c64116172", checked := Try.checked }
namespace Rows
def none {H : Type} : Left H := { results := [], args := [] }

/-- 'embrasurelaw13.RegKeeps': WHATEVER THE INPUT: true; the input reads as it did. -/
def regKeepsSpec : ChangeSpec := { name := "regKeeps", fn := fun _ => fun
  | [d1, d2] => { results := [.lit (.bool true)], args := [d1, d2] }
  | _ => none }
def regKeepsRow : OpenClaim := { program := "ytelmkmhmdfcnmaa", sum := "5439719428013430856961c5bdcfbbb93d4f52de9cf166b094d2e24c64116172", func := "embrasure/embrasurelaw13.RegKeeps", spec := "regKeeps", apart := false }
def RegKeepsSaid : Prop := regKeepsRow.holds Try.pinned (OpenSpec.ofChange regKeepsSpec)

/-- ITS FALSE NEIGHBOUR: 'it returns false'. Refute it at one input. -/
def regKeepsWrong : ChangeSpec := { name := "regKeeps", fn := fun _ => fun
  | [d1, d2] => { results := [.lit (.bool false)], args := [d1, d2] }
  | _ => none }
def RegKeepsWrongFalsely : Prop := regKeepsRow.holds Try.pinned (OpenSpec.ofChange regKeepsWrong)

/-- 'embrasurelaw13.RegPlays': WHATEVER THE INPUT: true; the input reads as it did. -/
def regPlaysSpec : ChangeSpec := { name := "regPlays", fn := fun _ => fun
  | [d] => { results := [.lit (.bool true)], args := [d] }
  | _ => none }
def regPlaysRow : OpenClaim := { program := "ytelmkmhmdfcnmaa", sum := "5439719428013430856961c5bdcfbbb93d4f52de9cf166b094d2e24c64116172", func := "embrasure/embrasurelaw13.RegPlays", spec := "regPlays", recurses := true, apart := false }
def RegPlaysSaid : Prop := regPlaysRow.holds Try.pinned (OpenSpec.ofChange regPlaysSpec)

/-- ITS FALSE NEIGHBOUR: 'it returns false'. Refute it at one input. -/
def regPlaysWrong : ChangeSpec := { name := "regPlays", fn := fun _ => fun
  | [d] => { results := [.lit (.bool false)], args := [d] }
  | _ => none }
def RegPlaysWrongFalsely : Prop := regPlaysRow.holds Try.pinned (OpenSpec.ofChange regPlaysWrong)

/-- 'embrasurelaw13.RegOnce': WHATEVER THE INPUT: true; the input reads as it did. -/
def regOnceSpec : ChangeSpec := { name := "regOnce", fn := fun _ => fun
  | [d] => { results := [.lit (.bool true)], args := [d] }
  | _ => none }
def regOnceRow : OpenClaim := { program := "ytelmkmhmdfcnmaa", sum := "5439719428013430856961c5bdcfbbb93d4f52de9cf166b094d2e24c64116172", func := "embrasure/embrasurelaw13.RegOnce", spec := "regOnce", recurses := true, apart := false }
def RegOnceSaid : Prop := regOnceRow.holds Try.pinned (OpenSpec.ofChange regOnceSpec)

/-- ITS FALSE NEIGHBOUR: 'it returns false'. Refute it at one input. -/
def regOnceWrong : ChangeSpec := { name := "regOnce", fn := fun _ => fun
  | [d] => { results := [.lit (.bool false)], args := [d] }
  | _ => none }
def RegOnceWrongFalsely : Prop := regOnceRow.holds Try.pinned (OpenSpec.ofChange regOnceWrong)

/-- 'embrasurelaw13.RegMoves': WHATEVER THE INPUT: true; the input reads as it did. -/
def regMovesSpec : ChangeSpec := { name := "regMoves", fn := fun _ => fun
  | [d1, d2, d3] => { results := [.lit (.bool true)], args := [d1, d2, d3] }
  | _ => none }
def regMovesRow : OpenClaim := { program := "ytelmkmhmdfcnmaa", sum := "5439719428013430856961c5bdcfbbb93d4f52de9cf166b094d2e24c64116172", func := "embrasure/embrasurelaw13.RegMoves", spec := "regMoves", recurses := true, apart := false }
def RegMovesSaid : Prop := regMovesRow.holds Try.pinned (OpenSpec.ofChange regMovesSpec)

/-- ITS FALSE NEIGHBOUR: 'it returns false'. Refute it at one input. -/
def regMovesWrong : ChangeSpec := { name := "regMoves", fn := fun _ => fun
  | [d1, d2, d3] => { results := [.lit (.bool false)], args := [d1, d2, d3] }
  | _ => none }
def RegMovesWrongFalsely : Prop := regMovesRow.holds Try.pinned (OpenSpec.ofChange regMovesWrong)

/-- 'embrasurelaw13.RegForks': WHATEVER THE INPUT: true; the input reads as it did. -/
def regForksSpec : ChangeSpec := { name := "regForks", fn := fun _ => fun
  | [d1, d2] => { results := [.lit (.bool true)], args := [d1, d2] }
  | _ => none }
def regForksRow : OpenClaim := { program := "ytelmkmhmdfcnmaa", sum := "5439719428013430856961c5bdcfbbb93d4f52de9cf166b094d2e24c64116172", func := "embrasure/embrasurelaw13.RegForks", spec := "regForks", inPlace := ["maps.clone"], recurses := true, apart := false }
def RegForksSaid : Prop := regForksRow.holds Try.pinned (OpenSpec.ofChange regForksSpec)

/-- ITS FALSE NEIGHBOUR: 'it returns false'. Refute it at one input. -/
def regForksWrong : ChangeSpec := { name := "regForks", fn := fun _ => fun
  | [d1, d2] => { results := [.lit (.bool false)], args := [d1, d2] }
  | _ => none }
def RegForksWrongFalsely : Prop := regForksRow.holds Try.pinned (OpenSpec.ofChange regForksWrong)

/-- 'embrasurelaw13.RegNone': WHATEVER THE INPUT: true; the input reads as it did. -/
def regNoneSpec : ChangeSpec := { name := "regNone", fn := fun _ => fun
  | [d] => { results := [.lit (.bool true)], args := [d] }
  | _ => none }
def regNoneRow : OpenClaim := { program := "ytelmkmhmdfcnmaa", sum := "5439719428013430856961c5bdcfbbb93d4f52de9cf166b094d2e24c64116172", func := "embrasure/embrasurelaw13.RegNone", spec := "regNone", inPlace := ["maps.clone"], recurses := true, apart := false }
def RegNoneSaid : Prop := regNoneRow.holds Try.pinned (OpenSpec.ofChange regNoneSpec)

/-- ITS FALSE NEIGHBOUR: 'it returns false'. Refute it at one input. -/
def regNoneWrong : ChangeSpec := { name := "regNone", fn := fun _ => fun
  | [d] => { results := [.lit (.bool false)], args := [d] }
  | _ => none }
def RegNoneWrongFalsely : Prop := regNoneRow.holds Try.pinned (OpenSpec.ofChange regNoneWrong)

/- THE SECOND FORM. 'bulk': how many values and letters a reading holds, each counted each time it is reached (what is shared counts as often as it is met; a slice's spare places count too). A statement '..UptoSaid' is the law's where the arguments, and the package variables that the reading takes, are together of bulk at most 1048576: NARROWER than '..Said'. Prove '..Said' where nothing that the law and all that it calls make is longer than what came in: it says more and counts as full. Else prove '..UptoSaid'. A law counts once. -/
mutual
def uptoBulk {H : Type} : DataW H → Nat
  | .lit (.string bytes) => bytes.length + 1
  | .lit _ => 1
  | .nil => 1
  | .ptr d => uptoBulk d + 1
  | .slice elems spare => uptoBulkAll elems + uptoBulkAll spare + 1
  | .agg parts => uptoBulkAll parts + 1
  | .iface _ d => uptoBulk d + 1
  | .map entries => uptoBulkEntries entries + 1
  | .held _ => 1
def uptoBulkAll {H : Type} : List (DataW H) → Nat
  | [] => 0
  | d :: r => uptoBulk d + uptoBulkAll r
def uptoBulkEntries {H : Type} : List (Lit × DataW H) → Nat
  | [] => 0
  | x :: r => uptoBulkEntry x + uptoBulkEntries r
def uptoBulkEntry {H : Type} : Lit × DataW H → Nat
  | (.string bytes, d) => bytes.length + uptoBulk d + 1
  | (_, d) => uptoBulk d + 1
 end
def uptoSmall : (H : Type) → List (DataW H) → Bool := fun _ ds => decide (uptoBulkAll ds ≤ 1048576)
def OpenSpec.upto (s : _root_.Go.ChangeSpec) : _root_.Go.OpenSpec := { _root_.Go.OpenSpec.ofChange s with cond := some uptoSmall }

/-- 'embrasurelaw13.RegKeeps', WHERE WHAT IT READS IS OF BULK AT MOST 1048576: true; the input reads as it did. -/
def regKeepsUptoRow : OpenClaim := { program := "ytelmkmhmdfcnmaa", sum := "5439719428013430856961c5bdcfbbb93d4f52de9cf166b094d2e24c64116172", func := "embrasure/embrasurelaw13.RegKeeps", spec := "regKeeps", apart := false, narrowed := true }
def RegKeepsUptoSaid : Prop := regKeepsUptoRow.holds Try.pinned (OpenSpec.upto regKeepsSpec)

/-- 'embrasurelaw13.RegPlays', WHERE WHAT IT READS IS OF BULK AT MOST 1048576: true; the input reads as it did. -/
def regPlaysUptoRow : OpenClaim := { program := "ytelmkmhmdfcnmaa", sum := "5439719428013430856961c5bdcfbbb93d4f52de9cf166b094d2e24c64116172", func := "embrasure/embrasurelaw13.RegPlays", spec := "regPlays", recurses := true, apart := false, narrowed := true }
def RegPlaysUptoSaid : Prop := regPlaysUptoRow.holds Try.pinned (OpenSpec.upto regPlaysSpec)

/-- 'embrasurelaw13.RegOnce', WHERE WHAT IT READS IS OF BULK AT MOST 1048576: true; the input reads as it did. -/
def regOnceUptoRow : OpenClaim := { program := "ytelmkmhmdfcnmaa", sum := "5439719428013430856961c5bdcfbbb93d4f52de9cf166b094d2e24c64116172", func := "embrasure/embrasurelaw13.RegOnce", spec := "regOnce", recurses := true, apart := false, narrowed := true }
def RegOnceUptoSaid : Prop := regOnceUptoRow.holds Try.pinned (OpenSpec.upto regOnceSpec)

/-- 'embrasurelaw13.RegMoves', WHERE WHAT IT READS IS OF BULK AT MOST 1048576: true; the input reads as it did. -/
def regMovesUptoRow : OpenClaim := { program := "ytelmkmhmdfcnmaa", sum := "5439719428013430856961c5bdcfbbb93d4f52de9cf166b094d2e24c64116172", func := "embrasure/embrasurelaw13.RegMoves", spec := "regMoves", recurses := true, apart := false, narrowed := true }
def RegMovesUptoSaid : Prop := regMovesUptoRow.holds Try.pinned (OpenSpec.upto regMovesSpec)

/-- 'embrasurelaw13.RegForks', WHERE WHAT IT READS IS OF BULK AT MOST 1048576: true; the input reads as it did. -/
def regForksUptoRow : OpenClaim := { program := "ytelmkmhmdfcnmaa", sum := "5439719428013430856961c5bdcfbbb93d4f52de9cf166b094d2e24c64116172", func := "embrasure/embrasurelaw13.RegForks", spec := "regForks", inPlace := ["maps.clone"], recurses := true, apart := false, narrowed := true }
def RegForksUptoSaid : Prop := regForksUptoRow.holds Try.pinned (OpenSpec.upto regForksSpec)

/-- 'embrasurelaw13.RegNone', WHERE WHAT IT READS IS OF BULK AT MOST 1048576: true; the input reads as it did. -/
def regNoneUptoRow : OpenClaim := { program := "ytelmkmhmdfcnmaa", sum := "5439719428013430856961c5bdcfbbb93d4f52de9cf166b094d2e24c64116172", func := "embrasure/embrasurelaw13.RegNone", spec := "regNone", inPlace := ["maps.clone"], recurses := true, apart := false, narrowed := true }
def RegNoneUptoSaid : Prop := regNoneUptoRow.holds Try.pinned (OpenSpec.upto regNoneSpec)

end Rows
end Go.Proofs.Ytelmkmhmdfcnmaa
