/-
  No cell of these rows narrows 'for every input' (looked for: loops, veiled, ifaces, maps, wideKeys, modest, calm, conditions, laid).
  DERIVED. THE GIVEN ROWS OF THIS SEAT. 6 by the template 'for every input the law returns true; each argument reads behind the call as it read before'; 0 by the template 'total and deterministic' (their statements: YtdcecihojidiaaaTotals.lean).
  GIVEN WITH THE SEED: the statements are not yours to turn. If you find one false, say at which input.
  Laid BY PROGRAM, IN A SANDBOX (cutbox-rows.mjs): the forced cells as the released guide's own fill.sh prints them over the translation 5c3961fac8dc933b… (all of the seat's roots in one cut). By AI agents, Wed Nov 11 2026. No macro, syntax, notation, axiom, sorry.
-/
import Derived.Test.YtdcecihojidiaaaChecked
import GoSem.Claim
import GoSem.ClaimJoined
import GoSem.ClaimMapViews
import Derived.JoinedTies
import Derived.KernelRfl
namespace Go.Proofs.Ytdcecihojidiaaa
/- THE CELL 'sum', in the pinned program and in every row, IS THE sha256 OF THE DUMP (.gsa) THAT YtdcecihojidiaaaProg.lean LOADS. Nothing in Lean hashes anything: it is a label: what it is worth is what the hold of that sum in a sandbox is worth. -/
noncomputable def Try.pinned : Pinned := { name := "ytdcecihojidiaaa", sum := "5c3961fac8dc933bdf4c8ed486826c5832f2cf79838f530b131d102d5b33bcd4", checked := Try.checked }
namespace Rows
def none {H : Type} : Left H := { results := [], args := [] }

/-- 'embrasurelaw20.PipeOrder': WHATEVER THE INPUT: true; the input reads as it did. -/
def pipeOrderSpec : ChangeSpec := { name := "pipeOrder", fn := fun _ => fun
  | [d1, d2] => { results := [.lit (.bool true)], args := [d1, d2] }
  | _ => none }
def pipeOrderRow : OpenClaim := { program := "ytdcecihojidiaaa", sum := "5c3961fac8dc933bdf4c8ed486826c5832f2cf79838f530b131d102d5b33bcd4", func := "embrasure/embrasurelaw20.PipeOrder", spec := "pipeOrder", unfollowed := true, recurses := true, apart := false }
def PipeOrderSaid : Prop := pipeOrderRow.holds Try.pinned (OpenSpec.ofChange pipeOrderSpec)

/-- ITS FALSE NEIGHBOUR: 'it returns false'. Refute it at one input. -/
def pipeOrderWrong : ChangeSpec := { name := "pipeOrder", fn := fun _ => fun
  | [d1, d2] => { results := [.lit (.bool false)], args := [d1, d2] }
  | _ => none }
def PipeOrderWrongFalsely : Prop := pipeOrderRow.holds Try.pinned (OpenSpec.ofChange pipeOrderWrong)

/-- 'embrasurelaw20.PipePlays': WHATEVER THE INPUT: true; the input reads as it did. -/
def pipePlaysSpec : ChangeSpec := { name := "pipePlays", fn := fun _ => fun
  | [d] => { results := [.lit (.bool true)], args := [d] }
  | _ => none }
def pipePlaysRow : OpenClaim := { program := "ytdcecihojidiaaa", sum := "5c3961fac8dc933bdf4c8ed486826c5832f2cf79838f530b131d102d5b33bcd4", func := "embrasure/embrasurelaw20.PipePlays", spec := "pipePlays", unfollowed := true, recurses := true, apart := false }
def PipePlaysSaid : Prop := pipePlaysRow.holds Try.pinned (OpenSpec.ofChange pipePlaysSpec)

/-- ITS FALSE NEIGHBOUR: 'it returns false'. Refute it at one input. -/
def pipePlaysWrong : ChangeSpec := { name := "pipePlays", fn := fun _ => fun
  | [d] => { results := [.lit (.bool false)], args := [d] }
  | _ => none }
def PipePlaysWrongFalsely : Prop := pipePlaysRow.holds Try.pinned (OpenSpec.ofChange pipePlaysWrong)

/-- 'embrasurelaw20.PipeAtomic': WHATEVER THE INPUT: true; the input reads as it did. -/
def pipeAtomicSpec : ChangeSpec := { name := "pipeAtomic", fn := fun _ => fun
  | [d1, d2] => { results := [.lit (.bool true)], args := [d1, d2] }
  | _ => none }
def pipeAtomicRow : OpenClaim := { program := "ytdcecihojidiaaa", sum := "5c3961fac8dc933bdf4c8ed486826c5832f2cf79838f530b131d102d5b33bcd4", func := "embrasure/embrasurelaw20.PipeAtomic", spec := "pipeAtomic", unfollowed := true, recurses := true, apart := false }
def PipeAtomicSaid : Prop := pipeAtomicRow.holds Try.pinned (OpenSpec.ofChange pipeAtomicSpec)

/-- ITS FALSE NEIGHBOUR: 'it returns false'. Refute it at one input. -/
def pipeAtomicWrong : ChangeSpec := { name := "pipeAtomic", fn := fun _ => fun
  | [d1, d2] => { results := [.lit (.bool false)], args := [d1, d2] }
  | _ => none }
def PipeAtomicWrongFalsely : Prop := pipeAtomicRow.holds Try.pinned (OpenSpec.ofChange pipeAtomicWrong)

/-- 'embrasurelaw20.PipeEnds': WHATEVER THE INPUT: true; the input reads as it did. -/
def pipeEndsSpec : ChangeSpec := { name := "pipeEnds", fn := fun _ => fun
  | [d] => { results := [.lit (.bool true)], args := [d] }
  | _ => none }
def pipeEndsRow : OpenClaim := { program := "ytdcecihojidiaaa", sum := "5c3961fac8dc933bdf4c8ed486826c5832f2cf79838f530b131d102d5b33bcd4", func := "embrasure/embrasurelaw20.PipeEnds", spec := "pipeEnds", unfollowed := true, recurses := true, apart := false }
def PipeEndsSaid : Prop := pipeEndsRow.holds Try.pinned (OpenSpec.ofChange pipeEndsSpec)

/-- ITS FALSE NEIGHBOUR: 'it returns false'. Refute it at one input. -/
def pipeEndsWrong : ChangeSpec := { name := "pipeEnds", fn := fun _ => fun
  | [d] => { results := [.lit (.bool false)], args := [d] }
  | _ => none }
def PipeEndsWrongFalsely : Prop := pipeEndsRow.holds Try.pinned (OpenSpec.ofChange pipeEndsWrong)

/-- 'embrasurelaw20.PipeForks': WHATEVER THE INPUT: true; the input reads as it did. -/
def pipeForksSpec : ChangeSpec := { name := "pipeForks", fn := fun _ => fun
  | [d1, d2] => { results := [.lit (.bool true)], args := [d1, d2] }
  | _ => none }
def pipeForksRow : OpenClaim := { program := "ytdcecihojidiaaa", sum := "5c3961fac8dc933bdf4c8ed486826c5832f2cf79838f530b131d102d5b33bcd4", func := "embrasure/embrasurelaw20.PipeForks", spec := "pipeForks", unfollowed := true, recurses := true, apart := false }
def PipeForksSaid : Prop := pipeForksRow.holds Try.pinned (OpenSpec.ofChange pipeForksSpec)

/-- ITS FALSE NEIGHBOUR: 'it returns false'. Refute it at one input. -/
def pipeForksWrong : ChangeSpec := { name := "pipeForks", fn := fun _ => fun
  | [d1, d2] => { results := [.lit (.bool false)], args := [d1, d2] }
  | _ => none }
def PipeForksWrongFalsely : Prop := pipeForksRow.holds Try.pinned (OpenSpec.ofChange pipeForksWrong)

/-- 'embrasurelaw20.PipeNone': WHATEVER THE INPUT: true; the input reads as it did. -/
def pipeNoneSpec : ChangeSpec := { name := "pipeNone", fn := fun _ => fun
  | [d] => { results := [.lit (.bool true)], args := [d] }
  | _ => none }
def pipeNoneRow : OpenClaim := { program := "ytdcecihojidiaaa", sum := "5c3961fac8dc933bdf4c8ed486826c5832f2cf79838f530b131d102d5b33bcd4", func := "embrasure/embrasurelaw20.PipeNone", spec := "pipeNone", unfollowed := true, recurses := true, apart := false }
def PipeNoneSaid : Prop := pipeNoneRow.holds Try.pinned (OpenSpec.ofChange pipeNoneSpec)

/-- ITS FALSE NEIGHBOUR: 'it returns false'. Refute it at one input. -/
def pipeNoneWrong : ChangeSpec := { name := "pipeNone", fn := fun _ => fun
  | [d] => { results := [.lit (.bool false)], args := [d] }
  | _ => none }
def PipeNoneWrongFalsely : Prop := pipeNoneRow.holds Try.pinned (OpenSpec.ofChange pipeNoneWrong)

/- THE SECOND FORM. 'bulk': how many values and letters a reading holds, each counted each time it is reached (what is shared counts as often as it is met; a slice's spare places count too). A statement '..UptoSaid' is the law's where the arguments, and the package variables that the reading takes, are together of bulk at most 1048576: NARROWER than '..Said'. Prove '..Said' where nothing that the law and all that it calls make is longer than what came in: it says more and counts as full. Else prove '..UptoSaid'. A law counts once. -/
mutual
def uptoBulk {H : Type} : DataW H → Nat
  | .lit (.string bytes) => bytes.length + 1
  | .lit _ => 1
  | .nil => 1
  | .ptr d => uptoBulk d + 1
  | .slice elems spare => uptoBulkAll elems + uptoBulkAll spare + 1
  | .agg parts => uptoBulkAll parts + 1
  | .iface _ d => uptoBulk d + 1
  | .map entries => uptoBulkEntries entries + 1
  | .held _ => 1
def uptoBulkAll {H : Type} : List (DataW H) → Nat
  | [] => 0
  | d :: r => uptoBulk d + uptoBulkAll r
def uptoBulkEntries {H : Type} : List (Lit × DataW H) → Nat
  | [] => 0
  | x :: r => uptoBulkEntry x + uptoBulkEntries r
def uptoBulkEntry {H : Type} : Lit × DataW H → Nat
  | (.string bytes, d) => bytes.length + uptoBulk d + 1
  | (_, d) => uptoBulk d + 1
 end
def uptoSmall : (H : Type) → List (DataW H) → Bool := fun _ ds => decide (uptoBulkAll ds ≤ 1048576)
def OpenSpec.upto (s : _root_.Go.ChangeSpec) : _root_.Go.OpenSpec := { _root_.Go.OpenSpec.ofChange s with cond := some uptoSmall }

/-- 'embrasurelaw20.PipeOrder', WHERE WHAT IT READS IS OF BULK AT MOST 1048576: true; the input reads as it did. -/
def pipeOrderUptoRow : OpenClaim := { program := "ytdcecihojidiaaa", sum := "5c3961fac8dc933bdf4c8ed486826c5832f2cf79838f530b131d102d5b33bcd4", func := "embrasure/embrasurelaw20.PipeOrder", spec := "pipeOrder", unfollowed := true, recurses := true, apart := false, narrowed := true }
def PipeOrderUptoSaid : Prop := pipeOrderUptoRow.holds Try.pinned (OpenSpec.upto pipeOrderSpec)

/-- 'embrasurelaw20.PipePlays', WHERE WHAT IT READS IS OF BULK AT MOST 1048576: true; the input reads as it did. -/
def pipePlaysUptoRow : OpenClaim := { program := "ytdcecihojidiaaa", sum := "5c3961fac8dc933bdf4c8ed486826c5832f2cf79838f530b131d102d5b33bcd4", func := "embrasure/embrasurelaw20.PipePlays", spec := "pipePlays", unfollowed := true, recurses := true, apart := false, narrowed := true }
def PipePlaysUptoSaid : Prop := pipePlaysUptoRow.holds Try.pinned (OpenSpec.upto pipePlaysSpec)

/-- 'embrasurelaw20.PipeAtomic', WHERE WHAT IT READS IS OF BULK AT MOST 1048576: true; the input reads as it did. -/
def pipeAtomicUptoRow : OpenClaim := { program := "ytdcecihojidiaaa", sum := "5c3961fac8dc933bdf4c8ed486826c5832f2cf79838f530b131d102d5b33bcd4", func := "embrasure/embrasurelaw20.PipeAtomic", spec := "pipeAtomic", unfollowed := true, recurses := true, apart := false, narrowed := true }
def PipeAtomicUptoSaid : Prop := pipeAtomicUptoRow.holds Try.pinned (OpenSpec.upto pipeAtomicSpec)

/-- 'embrasurelaw20.PipeEnds', WHERE WHAT IT READS IS OF BULK AT MOST 1048576: true; the input reads as it did. -/
def pipeEndsUptoRow : OpenClaim := { program := "ytdcecihojidiaaa", sum := "5c3961fac8dc933bdf4c8ed486826c5832f2cf79838f530b131d102d5b33bcd4", func := "embrasure/embrasurelaw20.PipeEnds", spec := "pipeEnds", unfollowed := true, recurses := true, apart := false, narrowed := true }
def PipeEndsUptoSaid : Prop := pipeEndsUptoRow.holds Try.pinned (OpenSpec.upto pipeEndsSpec)

/-- 'embrasurelaw20.PipeForks', WHERE WHAT IT READS IS OF BULK AT MOST 1048576: true; the input reads as it did. -/
def pipeForksUptoRow : OpenClaim := { program := "ytdcecihojidiaaa", sum := "5c3961fac8dc933bdf4c8ed486826c5832f2cf79838f530b131d102d5b33bcd4", func := "embrasure/embrasurelaw20.PipeForks", spec := "pipeForks", unfollowed := true, recurses := true, apart := false, narrowed := true }
def PipeForksUptoSaid : Prop := pipeForksUptoRow.holds Try.pinned (OpenSpec.upto pipeForksSpec)

/-- 'embrasurelaw20.PipeNone', WHERE WHAT IT READS IS OF BULK AT MOST 1048576: true; the input reads as it did. -/
def pipeNoneUptoRow : OpenClaim := { program := "ytdcecihojidiaaa", sum := "5c3961fac8dc933bdf4c8ed486826c5832f2cf79838f530b131d102d5b33bcd4", func := "embrasure/embrasurelaw20.PipeNone", spec := "pipeNone", unfollowed := true, recurses := true, apart := false, narrowed := true }
def PipeNoneUptoSaid : Prop := pipeNoneUptoRow.holds Try.pinned (OpenSpec.upto pipeNoneSpec)

end Rows
end Go.Proofs.Ytdcecihojidiaaa
