/-
  No cell of these rows narrows 'for every input' (looked for: loops, veiled, ifaces, maps, wideKeys, modest, calm, conditions, laid).
  DERIVED. THE GIVEN ROWS OF THIS SEAT. 7 by the template 'for every input the law returns true; each argument reads behind the call as it read before'; 0 by the template 'total and deterministic' (their statements: YtefjppebohnmjaaTotals.lean).
  GIVEN WITH THE SEED: the statements are not yours to turn. If you find one false, say at which input.
  Laid BY PROGRAM, IN A SANDBOX (cutbox-rows.mjs): the forced cells as the released guide's own fill.sh prints them over the translation 4351c8c726803137… (all of the seat's roots in one cut). By AI agents, Wed Nov 11 2026. No macro, syntax, notation, axiom, sorry.
-/
import Derived.Test.YtefjppebohnmjaaChecked
import GoSem.Claim
import GoSem.ClaimJoined
import GoSem.ClaimMapViews
import Derived.JoinedTies
import Derived.KernelRfl
namespace Go.Proofs.Ytefjppebohnmjaa
/- THE CELL 'sum', in the pinned program and in every row, IS THE sha256 OF THE DUMP (.gsa) THAT YtefjppebohnmjaaProg.lean LOADS. Nothing in Lean hashes anything: it is a label: what it is worth is what the hold of that sum in a sandbox is worth. -/
noncomputable def Try.pinned : Pinned := { name := "ytefjppebohnmjaa", sum := "4351c8c7268031375bf11215927f90e243ec3b742516faf19ace538f663083f7", checked := Try.checked }
namespace Rows
def none {H : Type} : Left H := { results := [], args := [] }

/-- 'embrasurelaw07.TlbTells': WHATEVER THE INPUT: true; the input reads as it did. -/
def tlbTellsSpec : ChangeSpec := { name := "tlbTells", fn := fun _ => fun
  | [d1, d2, d3] => { results := [.lit (.bool true)], args := [d1, d2, d3] }
  | _ => none }
def tlbTellsRow : OpenClaim := { program := "ytefjppebohnmjaa", sum := "4351c8c7268031375bf11215927f90e243ec3b742516faf19ace538f663083f7", func := "embrasure/embrasurelaw07.TlbTells", spec := "tlbTells", unfollowed := true, recurses := true, apart := false }
def TlbTellsSaid : Prop := tlbTellsRow.holds Try.pinned (OpenSpec.ofChange tlbTellsSpec)

/-- ITS FALSE NEIGHBOUR: 'it returns false'. Refute it at one input. -/
def tlbTellsWrong : ChangeSpec := { name := "tlbTells", fn := fun _ => fun
  | [d1, d2, d3] => { results := [.lit (.bool false)], args := [d1, d2, d3] }
  | _ => none }
def TlbTellsWrongFalsely : Prop := tlbTellsRow.holds Try.pinned (OpenSpec.ofChange tlbTellsWrong)

/-- 'embrasurelaw07.TlbPlays': WHATEVER THE INPUT: true; the input reads as it did. -/
def tlbPlaysSpec : ChangeSpec := { name := "tlbPlays", fn := fun _ => fun
  | [d] => { results := [.lit (.bool true)], args := [d] }
  | _ => none }
def tlbPlaysRow : OpenClaim := { program := "ytefjppebohnmjaa", sum := "4351c8c7268031375bf11215927f90e243ec3b742516faf19ace538f663083f7", func := "embrasure/embrasurelaw07.TlbPlays", spec := "tlbPlays", unfollowed := true, recurses := true, apart := false }
def TlbPlaysSaid : Prop := tlbPlaysRow.holds Try.pinned (OpenSpec.ofChange tlbPlaysSpec)

/-- ITS FALSE NEIGHBOUR: 'it returns false'. Refute it at one input. -/
def tlbPlaysWrong : ChangeSpec := { name := "tlbPlays", fn := fun _ => fun
  | [d] => { results := [.lit (.bool false)], args := [d] }
  | _ => none }
def TlbPlaysWrongFalsely : Prop := tlbPlaysRow.holds Try.pinned (OpenSpec.ofChange tlbPlaysWrong)

/-- 'embrasurelaw07.TlbFew': WHATEVER THE INPUT: true; the input reads as it did. -/
def tlbFewSpec : ChangeSpec := { name := "tlbFew", fn := fun _ => fun
  | [d] => { results := [.lit (.bool true)], args := [d] }
  | _ => none }
def tlbFewRow : OpenClaim := { program := "ytefjppebohnmjaa", sum := "4351c8c7268031375bf11215927f90e243ec3b742516faf19ace538f663083f7", func := "embrasure/embrasurelaw07.TlbFew", spec := "tlbFew", unfollowed := true, recurses := true, apart := false }
def TlbFewSaid : Prop := tlbFewRow.holds Try.pinned (OpenSpec.ofChange tlbFewSpec)

/-- ITS FALSE NEIGHBOUR: 'it returns false'. Refute it at one input. -/
def tlbFewWrong : ChangeSpec := { name := "tlbFew", fn := fun _ => fun
  | [d] => { results := [.lit (.bool false)], args := [d] }
  | _ => none }
def TlbFewWrongFalsely : Prop := tlbFewRow.holds Try.pinned (OpenSpec.ofChange tlbFewWrong)

/-- 'embrasurelaw07.TlbGone': WHATEVER THE INPUT: true; the input reads as it did. -/
def tlbGoneSpec : ChangeSpec := { name := "tlbGone", fn := fun _ => fun
  | [d1, d2, d3] => { results := [.lit (.bool true)], args := [d1, d2, d3] }
  | _ => none }
def tlbGoneRow : OpenClaim := { program := "ytefjppebohnmjaa", sum := "4351c8c7268031375bf11215927f90e243ec3b742516faf19ace538f663083f7", func := "embrasure/embrasurelaw07.TlbGone", spec := "tlbGone", unfollowed := true, recurses := true, apart := false }
def TlbGoneSaid : Prop := tlbGoneRow.holds Try.pinned (OpenSpec.ofChange tlbGoneSpec)

/-- ITS FALSE NEIGHBOUR: 'it returns false'. Refute it at one input. -/
def tlbGoneWrong : ChangeSpec := { name := "tlbGone", fn := fun _ => fun
  | [d1, d2, d3] => { results := [.lit (.bool false)], args := [d1, d2, d3] }
  | _ => none }
def TlbGoneWrongFalsely : Prop := tlbGoneRow.holds Try.pinned (OpenSpec.ofChange tlbGoneWrong)

/-- 'embrasurelaw07.TlbInserts': WHATEVER THE INPUT: true; the input reads as it did. -/
def tlbInsertsSpec : ChangeSpec := { name := "tlbInserts", fn := fun _ => fun
  | [d1, d2] => { results := [.lit (.bool true)], args := [d1, d2] }
  | _ => none }
def tlbInsertsRow : OpenClaim := { program := "ytefjppebohnmjaa", sum := "4351c8c7268031375bf11215927f90e243ec3b742516faf19ace538f663083f7", func := "embrasure/embrasurelaw07.TlbInserts", spec := "tlbInserts", unfollowed := true, recurses := true, apart := false }
def TlbInsertsSaid : Prop := tlbInsertsRow.holds Try.pinned (OpenSpec.ofChange tlbInsertsSpec)

/-- ITS FALSE NEIGHBOUR: 'it returns false'. Refute it at one input. -/
def tlbInsertsWrong : ChangeSpec := { name := "tlbInserts", fn := fun _ => fun
  | [d1, d2] => { results := [.lit (.bool false)], args := [d1, d2] }
  | _ => none }
def TlbInsertsWrongFalsely : Prop := tlbInsertsRow.holds Try.pinned (OpenSpec.ofChange tlbInsertsWrong)

/-- 'embrasurelaw07.TlbForks': WHATEVER THE INPUT: true; the input reads as it did. -/
def tlbForksSpec : ChangeSpec := { name := "tlbForks", fn := fun _ => fun
  | [d1, d2] => { results := [.lit (.bool true)], args := [d1, d2] }
  | _ => none }
def tlbForksRow : OpenClaim := { program := "ytefjppebohnmjaa", sum := "4351c8c7268031375bf11215927f90e243ec3b742516faf19ace538f663083f7", func := "embrasure/embrasurelaw07.TlbForks", spec := "tlbForks", unfollowed := true, recurses := true, apart := false }
def TlbForksSaid : Prop := tlbForksRow.holds Try.pinned (OpenSpec.ofChange tlbForksSpec)

/-- ITS FALSE NEIGHBOUR: 'it returns false'. Refute it at one input. -/
def tlbForksWrong : ChangeSpec := { name := "tlbForks", fn := fun _ => fun
  | [d1, d2] => { results := [.lit (.bool false)], args := [d1, d2] }
  | _ => none }
def TlbForksWrongFalsely : Prop := tlbForksRow.holds Try.pinned (OpenSpec.ofChange tlbForksWrong)

/-- 'embrasurelaw07.TlbNone': WHATEVER THE INPUT: true; the input reads as it did. -/
def tlbNoneSpec : ChangeSpec := { name := "tlbNone", fn := fun _ => fun
  | [d1, d2] => { results := [.lit (.bool true)], args := [d1, d2] }
  | _ => none }
def tlbNoneRow : OpenClaim := { program := "ytefjppebohnmjaa", sum := "4351c8c7268031375bf11215927f90e243ec3b742516faf19ace538f663083f7", func := "embrasure/embrasurelaw07.TlbNone", spec := "tlbNone", unfollowed := true, recurses := true, apart := false }
def TlbNoneSaid : Prop := tlbNoneRow.holds Try.pinned (OpenSpec.ofChange tlbNoneSpec)

/-- ITS FALSE NEIGHBOUR: 'it returns false'. Refute it at one input. -/
def tlbNoneWrong : ChangeSpec := { name := "tlbNone", fn := fun _ => fun
  | [d1, d2] => { results := [.lit (.bool false)], args := [d1, d2] }
  | _ => none }
def TlbNoneWrongFalsely : Prop := tlbNoneRow.holds Try.pinned (OpenSpec.ofChange tlbNoneWrong)

/- THE SECOND FORM. 'bulk': how many values and letters a reading holds, each counted each time it is reached (what is shared counts as often as it is met; a slice's spare places count too). A statement '..UptoSaid' is the law's where the arguments, and the package variables that the reading takes, are together of bulk at most 1048576: NARROWER than '..Said'. Prove '..Said' where nothing that the law and all that it calls make is longer than what came in: it says more and counts as full. Else prove '..UptoSaid'. A law counts once. -/
mutual
def uptoBulk {H : Type} : DataW H → Nat
  | .lit (.string bytes) => bytes.length + 1
  | .lit _ => 1
  | .nil => 1
  | .ptr d => uptoBulk d + 1
  | .slice elems spare => uptoBulkAll elems + uptoBulkAll spare + 1
  | .agg parts => uptoBulkAll parts + 1
  | .iface _ d => uptoBulk d + 1
  | .map entries => uptoBulkEntries entries + 1
  | .held _ => 1
def uptoBulkAll {H : Type} : List (DataW H) → Nat
  | [] => 0
  | d :: r => uptoBulk d + uptoBulkAll r
def uptoBulkEntries {H : Type} : List (Lit × DataW H) → Nat
  | [] => 0
  | x :: r => uptoBulkEntry x + uptoBulkEntries r
def uptoBulkEntry {H : Type} : Lit × DataW H → Nat
  | (.string bytes, d) => bytes.length + uptoBulk d + 1
  | (_, d) => uptoBulk d + 1
 end
def uptoSmall : (H : Type) → List (DataW H) → Bool := fun _ ds => decide (uptoBulkAll ds ≤ 1048576)
def OpenSpec.upto (s : _root_.Go.ChangeSpec) : _root_.Go.OpenSpec := { _root_.Go.OpenSpec.ofChange s with cond := some uptoSmall }

/-- 'embrasurelaw07.TlbTells', WHERE WHAT IT READS IS OF BULK AT MOST 1048576: true; the input reads as it did. -/
def tlbTellsUptoRow : OpenClaim := { program := "ytefjppebohnmjaa", sum := "4351c8c7268031375bf11215927f90e243ec3b742516faf19ace538f663083f7", func := "embrasure/embrasurelaw07.TlbTells", spec := "tlbTells", unfollowed := true, recurses := true, apart := false, narrowed := true }
def TlbTellsUptoSaid : Prop := tlbTellsUptoRow.holds Try.pinned (OpenSpec.upto tlbTellsSpec)

/-- 'embrasurelaw07.TlbPlays', WHERE WHAT IT READS IS OF BULK AT MOST 1048576: true; the input reads as it did. -/
def tlbPlaysUptoRow : OpenClaim := { program := "ytefjppebohnmjaa", sum := "4351c8c7268031375bf11215927f90e243ec3b742516faf19ace538f663083f7", func := "embrasure/embrasurelaw07.TlbPlays", spec := "tlbPlays", unfollowed := true, recurses := true, apart := false, narrowed := true }
def TlbPlaysUptoSaid : Prop := tlbPlaysUptoRow.holds Try.pinned (OpenSpec.upto tlbPlaysSpec)

/-- 'embrasurelaw07.TlbFew', WHERE WHAT IT READS IS OF BULK AT MOST 1048576: true; the input reads as it did. -/
def tlbFewUptoRow : OpenClaim := { program := "ytefjppebohnmjaa", sum := "4351c8c7268031375bf11215927f90e243ec3b742516faf19ace538f663083f7", func := "embrasure/embrasurelaw07.TlbFew", spec := "tlbFew", unfollowed := true, recurses := true, apart := false, narrowed := true }
def TlbFewUptoSaid : Prop := tlbFewUptoRow.holds Try.pinned (OpenSpec.upto tlbFewSpec)

/-- 'embrasurelaw07.TlbGone', WHERE WHAT IT READS IS OF BULK AT MOST 1048576: true; the input reads as it did. -/
def tlbGoneUptoRow : OpenClaim := { program := "ytefjppebohnmjaa", sum := "4351c8c7268031375bf11215927f90e243ec3b742516faf19ace538f663083f7", func := "embrasure/embrasurelaw07.TlbGone", spec := "tlbGone", unfollowed := true, recurses := true, apart := false, narrowed := true }
def TlbGoneUptoSaid : Prop := tlbGoneUptoRow.holds Try.pinned (OpenSpec.upto tlbGoneSpec)

/-- 'embrasurelaw07.TlbInserts', WHERE WHAT IT READS IS OF BULK AT MOST 1048576: true; the input reads as it did. -/
def tlbInsertsUptoRow : OpenClaim := { program := "ytefjppebohnmjaa", sum := "4351c8c7268031375bf11215927f90e243ec3b742516faf19ace538f663083f7", func := "embrasure/embrasurelaw07.TlbInserts", spec := "tlbInserts", unfollowed := true, recurses := true, apart := false, narrowed := true }
def TlbInsertsUptoSaid : Prop := tlbInsertsUptoRow.holds Try.pinned (OpenSpec.upto tlbInsertsSpec)

/-- 'embrasurelaw07.TlbForks', WHERE WHAT IT READS IS OF BULK AT MOST 1048576: true; the input reads as it did. -/
def tlbForksUptoRow : OpenClaim := { program := "ytefjppebohnmjaa", sum := "4351c8c7268031375bf11215927f90e243ec3b742516faf19ace538f663083f7", func := "embrasure/embrasurelaw07.TlbForks", spec := "tlbForks", unfollowed := true, recurses := true, apart := false, narrowed := true }
def TlbForksUptoSaid : Prop := tlbForksUptoRow.holds Try.pinned (OpenSpec.upto tlbForksSpec)

/-- 'embrasurelaw07.TlbNone', WHERE WHAT IT READS IS OF BULK AT MOST 1048576: true; the input reads as it did. -/
def tlbNoneUptoRow : OpenClaim := { program := "ytefjppebohnmjaa", sum := "4351c8c7268031375bf11215927f90e243ec3b742516faf19ace538f663083f7", func := "embrasure/embrasurelaw07.TlbNone", spec := "tlbNone", unfollowed := true, recurses := true, apart := false, narrowed := true }
def TlbNoneUptoSaid : Prop := tlbNoneUptoRow.holds Try.pinned (OpenSpec.upto tlbNoneSpec)

end Rows
end Go.Proofs.Ytefjppebohnmjaa
