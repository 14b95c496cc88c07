/-
  No cell of these rows narrows 'for every input' (looked for: loops, veiled, ifaces, maps, wideKeys, modest, calm, conditions, laid).
  DERIVED. THE GIVEN ROWS OF THIS SEAT. 7 by the template 'for every input the law returns true; each argument reads behind the call as it read before'; 0 by the template 'total and deterministic' (their statements: YtmfokjifloafhaaTotals.lean).
  GIVEN WITH THE SEED: the statements are not yours to turn. If you find one false, say at which input.
  Laid BY PROGRAM, IN A SANDBOX (cutbox-rows.mjs): the forced cells as the released guide's own fill.sh prints them over the translation 1762f2fa68e11a1f… (all of the seat's roots in one cut). By AI agents, Wed Nov 11 2026. No macro, syntax, notation, axiom, sorry.
-/
import Derived.Test.YtmfokjifloafhaaChecked
import GoSem.Claim
import GoSem.ClaimJoined
import GoSem.ClaimMapViews
import Derived.JoinedTies
import Derived.KernelRfl
namespace Go.Proofs.Ytmfokjifloafhaa
/- THE CELL 'sum', in the pinned program and in every row, IS THE sha256 OF THE DUMP (.gsa) THAT YtmfokjifloafhaaProg.lean LOADS. Nothing in Lean hashes anything: it is a label: what it is worth is what the hold of that sum in a sandbox is worth. -/
noncomputable def Try.pinned : Pinned := { name := "ytmfokjifloafhaa", sum := "1762f2fa68e11a1f73f09a31b20b374a981afee87e9eb4f8b4bca9d10d9b0f77", checked := Try.checked }
namespace Rows
def none {H : Type} : Left H := { results := [], args := [] }

/-- 'embrasurelaw06.MemFills': WHATEVER THE INPUT: true; the input reads as it did. -/
def memFillsSpec : ChangeSpec := { name := "memFills", fn := fun _ => fun
  | [d1, d2, d3] => { results := [.lit (.bool true)], args := [d1, d2, d3] }
  | _ => none }
def memFillsRow : OpenClaim := { program := "ytmfokjifloafhaa", sum := "1762f2fa68e11a1f73f09a31b20b374a981afee87e9eb4f8b4bca9d10d9b0f77", func := "embrasure/embrasurelaw06.MemFills", spec := "memFills", apart := false }
def MemFillsSaid : Prop := memFillsRow.holds Try.pinned (OpenSpec.ofChange memFillsSpec)

/-- ITS FALSE NEIGHBOUR: 'it returns false'. Refute it at one input. -/
def memFillsWrong : ChangeSpec := { name := "memFills", fn := fun _ => fun
  | [d1, d2, d3] => { results := [.lit (.bool false)], args := [d1, d2, d3] }
  | _ => none }
def MemFillsWrongFalsely : Prop := memFillsRow.holds Try.pinned (OpenSpec.ofChange memFillsWrong)

/-- 'embrasurelaw06.MemReads': WHATEVER THE INPUT: true; the input reads as it did. -/
def memReadsSpec : ChangeSpec := { name := "memReads", fn := fun _ => fun
  | [d1, d2, d3] => { results := [.lit (.bool true)], args := [d1, d2, d3] }
  | _ => none }
def memReadsRow : OpenClaim := { program := "ytmfokjifloafhaa", sum := "1762f2fa68e11a1f73f09a31b20b374a981afee87e9eb4f8b4bca9d10d9b0f77", func := "embrasure/embrasurelaw06.MemReads", spec := "memReads", apart := false }
def MemReadsSaid : Prop := memReadsRow.holds Try.pinned (OpenSpec.ofChange memReadsSpec)

/-- ITS FALSE NEIGHBOUR: 'it returns false'. Refute it at one input. -/
def memReadsWrong : ChangeSpec := { name := "memReads", fn := fun _ => fun
  | [d1, d2, d3] => { results := [.lit (.bool false)], args := [d1, d2, d3] }
  | _ => none }
def MemReadsWrongFalsely : Prop := memReadsRow.holds Try.pinned (OpenSpec.ofChange memReadsWrong)

/-- 'embrasurelaw06.MemWrites': WHATEVER THE INPUT: true; the input reads as it did. -/
def memWritesSpec : ChangeSpec := { name := "memWrites", fn := fun _ => fun
  | [d1, d2, d3] => { results := [.lit (.bool true)], args := [d1, d2, d3] }
  | _ => none }
def memWritesRow : OpenClaim := { program := "ytmfokjifloafhaa", sum := "1762f2fa68e11a1f73f09a31b20b374a981afee87e9eb4f8b4bca9d10d9b0f77", func := "embrasure/embrasurelaw06.MemWrites", spec := "memWrites", apart := false }
def MemWritesSaid : Prop := memWritesRow.holds Try.pinned (OpenSpec.ofChange memWritesSpec)

/-- ITS FALSE NEIGHBOUR: 'it returns false'. Refute it at one input. -/
def memWritesWrong : ChangeSpec := { name := "memWrites", fn := fun _ => fun
  | [d1, d2, d3] => { results := [.lit (.bool false)], args := [d1, d2, d3] }
  | _ => none }
def MemWritesWrongFalsely : Prop := memWritesRow.holds Try.pinned (OpenSpec.ofChange memWritesWrong)

/-- 'embrasurelaw06.MemPlays': WHATEVER THE INPUT: true; the input reads as it did. -/
def memPlaysSpec : ChangeSpec := { name := "memPlays", fn := fun _ => fun
  | [d1, d2] => { results := [.lit (.bool true)], args := [d1, d2] }
  | _ => none }
def memPlaysRow : OpenClaim := { program := "ytmfokjifloafhaa", sum := "1762f2fa68e11a1f73f09a31b20b374a981afee87e9eb4f8b4bca9d10d9b0f77", func := "embrasure/embrasurelaw06.MemPlays", spec := "memPlays", apart := false }
def MemPlaysSaid : Prop := memPlaysRow.holds Try.pinned (OpenSpec.ofChange memPlaysSpec)

/-- ITS FALSE NEIGHBOUR: 'it returns false'. Refute it at one input. -/
def memPlaysWrong : ChangeSpec := { name := "memPlays", fn := fun _ => fun
  | [d1, d2] => { results := [.lit (.bool false)], args := [d1, d2] }
  | _ => none }
def MemPlaysWrongFalsely : Prop := memPlaysRow.holds Try.pinned (OpenSpec.ofChange memPlaysWrong)

/-- 'embrasurelaw06.MemCopies': WHATEVER THE INPUT: true; the input reads as it did. -/
def memCopiesSpec : ChangeSpec := { name := "memCopies", fn := fun _ => fun
  | [d1, d2, d3] => { results := [.lit (.bool true)], args := [d1, d2, d3] }
  | _ => none }
def memCopiesRow : OpenClaim := { program := "ytmfokjifloafhaa", sum := "1762f2fa68e11a1f73f09a31b20b374a981afee87e9eb4f8b4bca9d10d9b0f77", func := "embrasure/embrasurelaw06.MemCopies", spec := "memCopies", apart := false }
def MemCopiesSaid : Prop := memCopiesRow.holds Try.pinned (OpenSpec.ofChange memCopiesSpec)

/-- ITS FALSE NEIGHBOUR: 'it returns false'. Refute it at one input. -/
def memCopiesWrong : ChangeSpec := { name := "memCopies", fn := fun _ => fun
  | [d1, d2, d3] => { results := [.lit (.bool false)], args := [d1, d2, d3] }
  | _ => none }
def MemCopiesWrongFalsely : Prop := memCopiesRow.holds Try.pinned (OpenSpec.ofChange memCopiesWrong)

/-- 'embrasurelaw06.MemForks': WHATEVER THE INPUT: true; the input reads as it did. -/
def memForksSpec : ChangeSpec := { name := "memForks", fn := fun _ => fun
  | [d1, d2, d3] => { results := [.lit (.bool true)], args := [d1, d2, d3] }
  | _ => none }
def memForksRow : OpenClaim := { program := "ytmfokjifloafhaa", sum := "1762f2fa68e11a1f73f09a31b20b374a981afee87e9eb4f8b4bca9d10d9b0f77", func := "embrasure/embrasurelaw06.MemForks", spec := "memForks", apart := false }
def MemForksSaid : Prop := memForksRow.holds Try.pinned (OpenSpec.ofChange memForksSpec)

/-- ITS FALSE NEIGHBOUR: 'it returns false'. Refute it at one input. -/
def memForksWrong : ChangeSpec := { name := "memForks", fn := fun _ => fun
  | [d1, d2, d3] => { results := [.lit (.bool false)], args := [d1, d2, d3] }
  | _ => none }
def MemForksWrongFalsely : Prop := memForksRow.holds Try.pinned (OpenSpec.ofChange memForksWrong)

/-- 'embrasurelaw06.MemNone': WHATEVER THE INPUT: true; the input reads as it did. -/
def memNoneSpec : ChangeSpec := { name := "memNone", fn := fun _ => fun
  | [d1, d2] => { results := [.lit (.bool true)], args := [d1, d2] }
  | _ => none }
def memNoneRow : OpenClaim := { program := "ytmfokjifloafhaa", sum := "1762f2fa68e11a1f73f09a31b20b374a981afee87e9eb4f8b4bca9d10d9b0f77", func := "embrasure/embrasurelaw06.MemNone", spec := "memNone", apart := false }
def MemNoneSaid : Prop := memNoneRow.holds Try.pinned (OpenSpec.ofChange memNoneSpec)

/-- ITS FALSE NEIGHBOUR: 'it returns false'. Refute it at one input. -/
def memNoneWrong : ChangeSpec := { name := "memNone", fn := fun _ => fun
  | [d1, d2] => { results := [.lit (.bool false)], args := [d1, d2] }
  | _ => none }
def MemNoneWrongFalsely : Prop := memNoneRow.holds Try.pinned (OpenSpec.ofChange memNoneWrong)

/- THE SECOND FORM. 'bulk': how many values and letters a reading holds, each counted each time it is reached (what is shared counts as often as it is met; a slice's spare places count too). A statement '..UptoSaid' is the law's where the arguments, and the package variables that the reading takes, are together of bulk at most 1048576: NARROWER than '..Said'. Prove '..Said' where nothing that the law and all that it calls make is longer than what came in: it says more and counts as full. Else prove '..UptoSaid'. A law counts once. -/
mutual
def uptoBulk {H : Type} : DataW H → Nat
  | .lit (.string bytes) => bytes.length + 1
  | .lit _ => 1
  | .nil => 1
  | .ptr d => uptoBulk d + 1
  | .slice elems spare => uptoBulkAll elems + uptoBulkAll spare + 1
  | .agg parts => uptoBulkAll parts + 1
  | .iface _ d => uptoBulk d + 1
  | .map entries => uptoBulkEntries entries + 1
  | .held _ => 1
def uptoBulkAll {H : Type} : List (DataW H) → Nat
  | [] => 0
  | d :: r => uptoBulk d + uptoBulkAll r
def uptoBulkEntries {H : Type} : List (Lit × DataW H) → Nat
  | [] => 0
  | x :: r => uptoBulkEntry x + uptoBulkEntries r
def uptoBulkEntry {H : Type} : Lit × DataW H → Nat
  | (.string bytes, d) => bytes.length + uptoBulk d + 1
  | (_, d) => uptoBulk d + 1
 end
def uptoSmall : (H : Type) → List (DataW H) → Bool := fun _ ds => decide (uptoBulkAll ds ≤ 1048576)
def OpenSpec.upto (s : _root_.Go.ChangeSpec) : _root_.Go.OpenSpec := { _root_.Go.OpenSpec.ofChange s with cond := some uptoSmall }

/-- 'embrasurelaw06.MemFills', WHERE WHAT IT READS IS OF BULK AT MOST 1048576: true; the input reads as it did. -/
def memFillsUptoRow : OpenClaim := { program := "ytmfokjifloafhaa", sum := "1762f2fa68e11a1f73f09a31b20b374a981afee87e9eb4f8b4bca9d10d9b0f77", func := "embrasure/embrasurelaw06.MemFills", spec := "memFills", apart := false, narrowed := true }
def MemFillsUptoSaid : Prop := memFillsUptoRow.holds Try.pinned (OpenSpec.upto memFillsSpec)

/-- 'embrasurelaw06.MemReads', WHERE WHAT IT READS IS OF BULK AT MOST 1048576: true; the input reads as it did. -/
def memReadsUptoRow : OpenClaim := { program := "ytmfokjifloafhaa", sum := "1762f2fa68e11a1f73f09a31b20b374a981afee87e9eb4f8b4bca9d10d9b0f77", func := "embrasure/embrasurelaw06.MemReads", spec := "memReads", apart := false, narrowed := true }
def MemReadsUptoSaid : Prop := memReadsUptoRow.holds Try.pinned (OpenSpec.upto memReadsSpec)

/-- 'embrasurelaw06.MemWrites', WHERE WHAT IT READS IS OF BULK AT MOST 1048576: true; the input reads as it did. -/
def memWritesUptoRow : OpenClaim := { program := "ytmfokjifloafhaa", sum := "1762f2fa68e11a1f73f09a31b20b374a981afee87e9eb4f8b4bca9d10d9b0f77", func := "embrasure/embrasurelaw06.MemWrites", spec := "memWrites", apart := false, narrowed := true }
def MemWritesUptoSaid : Prop := memWritesUptoRow.holds Try.pinned (OpenSpec.upto memWritesSpec)

/-- 'embrasurelaw06.MemPlays', WHERE WHAT IT READS IS OF BULK AT MOST 1048576: true; the input reads as it did. -/
def memPlaysUptoRow : OpenClaim := { program := "ytmfokjifloafhaa", sum := "1762f2fa68e11a1f73f09a31b20b374a981afee87e9eb4f8b4bca9d10d9b0f77", func := "embrasure/embrasurelaw06.MemPlays", spec := "memPlays", apart := false, narrowed := true }
def MemPlaysUptoSaid : Prop := memPlaysUptoRow.holds Try.pinned (OpenSpec.upto memPlaysSpec)

/-- 'embrasurelaw06.MemCopies', WHERE WHAT IT READS IS OF BULK AT MOST 1048576: true; the input reads as it did. -/
def memCopiesUptoRow : OpenClaim := { program := "ytmfokjifloafhaa", sum := "1762f2fa68e11a1f73f09a31b20b374a981afee87e9eb4f8b4bca9d10d9b0f77", func := "embrasure/embrasurelaw06.MemCopies", spec := "memCopies", apart := false, narrowed := true }
def MemCopiesUptoSaid : Prop := memCopiesUptoRow.holds Try.pinned (OpenSpec.upto memCopiesSpec)

/-- 'embrasurelaw06.MemForks', WHERE WHAT IT READS IS OF BULK AT MOST 1048576: true; the input reads as it did. -/
def memForksUptoRow : OpenClaim := { program := "ytmfokjifloafhaa", sum := "1762f2fa68e11a1f73f09a31b20b374a981afee87e9eb4f8b4bca9d10d9b0f77", func := "embrasure/embrasurelaw06.MemForks", spec := "memForks", apart := false, narrowed := true }
def MemForksUptoSaid : Prop := memForksUptoRow.holds Try.pinned (OpenSpec.upto memForksSpec)

/-- 'embrasurelaw06.MemNone', WHERE WHAT IT READS IS OF BULK AT MOST 1048576: true; the input reads as it did. -/
def memNoneUptoRow : OpenClaim := { program := "ytmfokjifloafhaa", sum := "1762f2fa68e11a1f73f09a31b20b374a981afee87e9eb4f8b4bca9d10d9b0f77", func := "embrasure/embrasurelaw06.MemNone", spec := "memNone", apart := false, narrowed := true }
def MemNoneUptoSaid : Prop := memNoneUptoRow.holds Try.pinned (OpenSpec.upto memNoneSpec)

end Rows
end Go.Proofs.Ytmfokjifloafhaa
