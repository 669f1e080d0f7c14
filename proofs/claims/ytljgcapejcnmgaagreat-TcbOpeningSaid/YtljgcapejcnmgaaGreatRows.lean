/-
  No cell of these rows narrows 'for every input' (looked for: loops, veiled, ifaces, maps, wideKeys, modest, calm, conditions, laid).
  DERIVED. THE GIVEN ROWS OF THIS SEAT. 8 by the template 'for every input the law returns true; each argument reads behind the call as it read before'; 0 by the template 'total and deterministic' (their statements: YtljgcapejcnmgaaGreatTotals.lean).
  GIVEN WITH THE SEED: the statements are not yours to turn. If you find one false, say at which input.
  Laid BY PROGRAM, IN A SANDBOX (cutbox-rows.mjs): the forced cells as the released guide's own fill.sh prints them over the translation c39d2fdfb89eb729… (all of the seat's roots in one cut). By AI agents, Wed Nov 11 2026. No macro, syntax, notation, axiom, sorry.
-/
import Derived.Test.YtljgcapejcnmgaaGreatChecked
import GoSem.Claim
import GoSem.ClaimJoined
import GoSem.ClaimMapViews
import Derived.JoinedTies
import Derived.KernelRfl
namespace Go.Proofs.YtljgcapejcnmgaaGreat
/- THE CELL 'sum', in the pinned program and in every row, IS THE sha256 OF THE DUMP (.gsa) THAT YtljgcapejcnmgaaGreatProg.lean LOADS. Nothing in Lean hashes anything: it is a label: what it is worth is what the hold of that sum in a sandbox is worth. -/
noncomputable def Tryz.pinned : Pinned := { name := "ytljgcapejcnmgaagreat", sum := "c39d2fdfb89eb7290b19e7dec49ac49399b49986907bf7136295e3b3939fad96", checked := Tryz.checked }
namespace Rows
def none {H : Type} : Left H := { results := [], args := [] }

/-- 'towropelaw22.TcbOpening': WHATEVER THE INPUT: true; the input reads as it did. -/
def tcbOpeningSpec : ChangeSpec := { name := "tcbOpening", fn := fun _ => fun
  | [d1, d2, d3] => { results := [.lit (.bool true)], args := [d1, d2, d3] }
  | _ => none }
def tcbOpeningRow : OpenClaim := { program := "ytljgcapejcnmgaagreat", sum := "c39d2fdfb89eb7290b19e7dec49ac49399b49986907bf7136295e3b3939fad96", func := "towrope/towropelaw22.TcbOpening", spec := "tcbOpening", unfollowed := true, recurses := true, apart := false }
def TcbOpeningSaid : Prop := tcbOpeningRow.holds Tryz.pinned (OpenSpec.ofChange tcbOpeningSpec)

/-- ITS FALSE NEIGHBOUR: 'it returns false'. Refute it at one input. -/
def tcbOpeningWrong : ChangeSpec := { name := "tcbOpening", fn := fun _ => fun
  | [d1, d2, d3] => { results := [.lit (.bool false)], args := [d1, d2, d3] }
  | _ => none }
def TcbOpeningWrongFalsely : Prop := tcbOpeningRow.holds Tryz.pinned (OpenSpec.ofChange tcbOpeningWrong)

/-- 'towropelaw22.TcbStrays': WHATEVER THE INPUT: true; the input reads as it did. -/
def tcbStraysSpec : ChangeSpec := { name := "tcbStrays", fn := fun _ => fun
  | [d1, d2] => { results := [.lit (.bool true)], args := [d1, d2] }
  | _ => none }
def tcbStraysRow : OpenClaim := { program := "ytljgcapejcnmgaagreat", sum := "c39d2fdfb89eb7290b19e7dec49ac49399b49986907bf7136295e3b3939fad96", func := "towrope/towropelaw22.TcbStrays", spec := "tcbStrays", unfollowed := true, recurses := true, apart := false }
def TcbStraysSaid : Prop := tcbStraysRow.holds Tryz.pinned (OpenSpec.ofChange tcbStraysSpec)

/-- ITS FALSE NEIGHBOUR: 'it returns false'. Refute it at one input. -/
def tcbStraysWrong : ChangeSpec := { name := "tcbStrays", fn := fun _ => fun
  | [d1, d2] => { results := [.lit (.bool false)], args := [d1, d2] }
  | _ => none }
def TcbStraysWrongFalsely : Prop := tcbStraysRow.holds Tryz.pinned (OpenSpec.ofChange tcbStraysWrong)

/-- 'towropelaw22.TcbStreams': WHATEVER THE INPUT: true; the input reads as it did. -/
def tcbStreamsSpec : ChangeSpec := { name := "tcbStreams", fn := fun _ => fun
  | [d1, d2] => { results := [.lit (.bool true)], args := [d1, d2] }
  | _ => none }
def tcbStreamsRow : OpenClaim := { program := "ytljgcapejcnmgaagreat", sum := "c39d2fdfb89eb7290b19e7dec49ac49399b49986907bf7136295e3b3939fad96", func := "towrope/towropelaw22.TcbStreams", spec := "tcbStreams", unfollowed := true, recurses := true, apart := false }
def TcbStreamsSaid : Prop := tcbStreamsRow.holds Tryz.pinned (OpenSpec.ofChange tcbStreamsSpec)

/-- ITS FALSE NEIGHBOUR: 'it returns false'. Refute it at one input. -/
def tcbStreamsWrong : ChangeSpec := { name := "tcbStreams", fn := fun _ => fun
  | [d1, d2] => { results := [.lit (.bool false)], args := [d1, d2] }
  | _ => none }
def TcbStreamsWrongFalsely : Prop := tcbStreamsRow.holds Tryz.pinned (OpenSpec.ofChange tcbStreamsWrong)

/-- 'towropelaw22.TcbJoined': WHATEVER THE INPUT: true; the input reads as it did. -/
def tcbJoinedSpec : ChangeSpec := { name := "tcbJoined", fn := fun _ => fun
  | [d1, d2, d3] => { results := [.lit (.bool true)], args := [d1, d2, d3] }
  | _ => none }
def tcbJoinedRow : OpenClaim := { program := "ytljgcapejcnmgaagreat", sum := "c39d2fdfb89eb7290b19e7dec49ac49399b49986907bf7136295e3b3939fad96", func := "towrope/towropelaw22.TcbJoined", spec := "tcbJoined", unfollowed := true, recurses := true, apart := false }
def TcbJoinedSaid : Prop := tcbJoinedRow.holds Tryz.pinned (OpenSpec.ofChange tcbJoinedSpec)

/-- ITS FALSE NEIGHBOUR: 'it returns false'. Refute it at one input. -/
def tcbJoinedWrong : ChangeSpec := { name := "tcbJoined", fn := fun _ => fun
  | [d1, d2, d3] => { results := [.lit (.bool false)], args := [d1, d2, d3] }
  | _ => none }
def TcbJoinedWrongFalsely : Prop := tcbJoinedRow.holds Tryz.pinned (OpenSpec.ofChange tcbJoinedWrong)

/-- 'towropelaw22.TcbLinger': WHATEVER THE INPUT: true; the input reads as it did. -/
def tcbLingerSpec : ChangeSpec := { name := "tcbLinger", fn := fun _ => fun
  | [d] => { results := [.lit (.bool true)], args := [d] }
  | _ => none }
def tcbLingerRow : OpenClaim := { program := "ytljgcapejcnmgaagreat", sum := "c39d2fdfb89eb7290b19e7dec49ac49399b49986907bf7136295e3b3939fad96", func := "towrope/towropelaw22.TcbLinger", spec := "tcbLinger", unfollowed := true, recurses := true, apart := false }
def TcbLingerSaid : Prop := tcbLingerRow.holds Tryz.pinned (OpenSpec.ofChange tcbLingerSpec)

/-- ITS FALSE NEIGHBOUR: 'it returns false'. Refute it at one input. -/
def tcbLingerWrong : ChangeSpec := { name := "tcbLinger", fn := fun _ => fun
  | [d] => { results := [.lit (.bool false)], args := [d] }
  | _ => none }
def TcbLingerWrongFalsely : Prop := tcbLingerRow.holds Tryz.pinned (OpenSpec.ofChange tcbLingerWrong)

/-- 'towropelaw22.TcbComes': WHATEVER THE INPUT: true; the input reads as it did. -/
def tcbComesSpec : ChangeSpec := { name := "tcbComes", fn := fun _ => fun
  | [d1, d2] => { results := [.lit (.bool true)], args := [d1, d2] }
  | _ => none }
def tcbComesRow : OpenClaim := { program := "ytljgcapejcnmgaagreat", sum := "c39d2fdfb89eb7290b19e7dec49ac49399b49986907bf7136295e3b3939fad96", func := "towrope/towropelaw22.TcbComes", spec := "tcbComes", unfollowed := true, recurses := true, apart := false }
def TcbComesSaid : Prop := tcbComesRow.holds Tryz.pinned (OpenSpec.ofChange tcbComesSpec)

/-- ITS FALSE NEIGHBOUR: 'it returns false'. Refute it at one input. -/
def tcbComesWrong : ChangeSpec := { name := "tcbComes", fn := fun _ => fun
  | [d1, d2] => { results := [.lit (.bool false)], args := [d1, d2] }
  | _ => none }
def TcbComesWrongFalsely : Prop := tcbComesRow.holds Tryz.pinned (OpenSpec.ofChange tcbComesWrong)

/-- 'towropelaw22.TcbHalf': WHATEVER THE INPUT: true; the input reads as it did. -/
def tcbHalfSpec : ChangeSpec := { name := "tcbHalf", fn := fun _ => fun
  | [d1, d2] => { results := [.lit (.bool true)], args := [d1, d2] }
  | _ => none }
def tcbHalfRow : OpenClaim := { program := "ytljgcapejcnmgaagreat", sum := "c39d2fdfb89eb7290b19e7dec49ac49399b49986907bf7136295e3b3939fad96", func := "towrope/towropelaw22.TcbHalf", spec := "tcbHalf", unfollowed := true, recurses := true, apart := false }
def TcbHalfSaid : Prop := tcbHalfRow.holds Tryz.pinned (OpenSpec.ofChange tcbHalfSpec)

/-- ITS FALSE NEIGHBOUR: 'it returns false'. Refute it at one input. -/
def tcbHalfWrong : ChangeSpec := { name := "tcbHalf", fn := fun _ => fun
  | [d1, d2] => { results := [.lit (.bool false)], args := [d1, d2] }
  | _ => none }
def TcbHalfWrongFalsely : Prop := tcbHalfRow.holds Tryz.pinned (OpenSpec.ofChange tcbHalfWrong)

/-- 'towropelaw22.TcbBoth': WHATEVER THE INPUT: true; the input reads as it did. -/
def tcbBothSpec : ChangeSpec := { name := "tcbBoth", fn := fun _ => fun
  | [d1, d2] => { results := [.lit (.bool true)], args := [d1, d2] }
  | _ => none }
def tcbBothRow : OpenClaim := { program := "ytljgcapejcnmgaagreat", sum := "c39d2fdfb89eb7290b19e7dec49ac49399b49986907bf7136295e3b3939fad96", func := "towrope/towropelaw22.TcbBoth", spec := "tcbBoth", unfollowed := true, recurses := true, apart := false }
def TcbBothSaid : Prop := tcbBothRow.holds Tryz.pinned (OpenSpec.ofChange tcbBothSpec)

/-- ITS FALSE NEIGHBOUR: 'it returns false'. Refute it at one input. -/
def tcbBothWrong : ChangeSpec := { name := "tcbBoth", fn := fun _ => fun
  | [d1, d2] => { results := [.lit (.bool false)], args := [d1, d2] }
  | _ => none }
def TcbBothWrongFalsely : Prop := tcbBothRow.holds Tryz.pinned (OpenSpec.ofChange tcbBothWrong)

/- THE SECOND FORM. 'bulk': how many values and letters a reading holds, each counted each time it is reached (what is shared counts as often as it is met; a slice's spare places count too). A statement '..UptoSaid' is the law's where the arguments, and the package variables that the reading takes, are together of bulk at most 1048576: NARROWER than '..Said'. Prove '..Said' where nothing that the law and all that it calls make is longer than what came in: it says more and counts as full. Else prove '..UptoSaid'. A law counts once. -/
mutual
def uptoBulk {H : Type} : DataW H → Nat
  | .lit (.string bytes) => bytes.length + 1
  | .lit _ => 1
  | .nil => 1
  | .ptr d => uptoBulk d + 1
  | .slice elems spare => uptoBulkAll elems + uptoBulkAll spare + 1
  | .agg parts => uptoBulkAll parts + 1
  | .iface _ d => uptoBulk d + 1
  | .map entries => uptoBulkEntries entries + 1
  | .held _ => 1
def uptoBulkAll {H : Type} : List (DataW H) → Nat
  | [] => 0
  | d :: r => uptoBulk d + uptoBulkAll r
def uptoBulkEntries {H : Type} : List (Lit × DataW H) → Nat
  | [] => 0
  | x :: r => uptoBulkEntry x + uptoBulkEntries r
def uptoBulkEntry {H : Type} : Lit × DataW H → Nat
  | (.string bytes, d) => bytes.length + uptoBulk d + 1
  | (_, d) => uptoBulk d + 1
 end
def uptoSmall : (H : Type) → List (DataW H) → Bool := fun _ ds => decide (uptoBulkAll ds ≤ 1048576)
def OpenSpec.upto (s : _root_.Go.ChangeSpec) : _root_.Go.OpenSpec := { _root_.Go.OpenSpec.ofChange s with cond := some uptoSmall }

/-- 'towropelaw22.TcbOpening', WHERE WHAT IT READS IS OF BULK AT MOST 1048576: true; the input reads as it did. -/
def tcbOpeningUptoRow : OpenClaim := { program := "ytljgcapejcnmgaagreat", sum := "c39d2fdfb89eb7290b19e7dec49ac49399b49986907bf7136295e3b3939fad96", func := "towrope/towropelaw22.TcbOpening", spec := "tcbOpening", unfollowed := true, recurses := true, apart := false, narrowed := true }
def TcbOpeningUptoSaid : Prop := tcbOpeningUptoRow.holds Tryz.pinned (OpenSpec.upto tcbOpeningSpec)

/-- 'towropelaw22.TcbStrays', WHERE WHAT IT READS IS OF BULK AT MOST 1048576: true; the input reads as it did. -/
def tcbStraysUptoRow : OpenClaim := { program := "ytljgcapejcnmgaagreat", sum := "c39d2fdfb89eb7290b19e7dec49ac49399b49986907bf7136295e3b3939fad96", func := "towrope/towropelaw22.TcbStrays", spec := "tcbStrays", unfollowed := true, recurses := true, apart := false, narrowed := true }
def TcbStraysUptoSaid : Prop := tcbStraysUptoRow.holds Tryz.pinned (OpenSpec.upto tcbStraysSpec)

/-- 'towropelaw22.TcbStreams', WHERE WHAT IT READS IS OF BULK AT MOST 1048576: true; the input reads as it did. -/
def tcbStreamsUptoRow : OpenClaim := { program := "ytljgcapejcnmgaagreat", sum := "c39d2fdfb89eb7290b19e7dec49ac49399b49986907bf7136295e3b3939fad96", func := "towrope/towropelaw22.TcbStreams", spec := "tcbStreams", unfollowed := true, recurses := true, apart := false, narrowed := true }
def TcbStreamsUptoSaid : Prop := tcbStreamsUptoRow.holds Tryz.pinned (OpenSpec.upto tcbStreamsSpec)

/-- 'towropelaw22.TcbJoined', WHERE WHAT IT READS IS OF BULK AT MOST 1048576: true; the input reads as it did. -/
def tcbJoinedUptoRow : OpenClaim := { program := "ytljgcapejcnmgaagreat", sum := "c39d2fdfb89eb7290b19e7dec49ac49399b49986907bf7136295e3b3939fad96", func := "towrope/towropelaw22.TcbJoined", spec := "tcbJoined", unfollowed := true, recurses := true, apart := false, narrowed := true }
def TcbJoinedUptoSaid : Prop := tcbJoinedUptoRow.holds Tryz.pinned (OpenSpec.upto tcbJoinedSpec)

/-- 'towropelaw22.TcbLinger', WHERE WHAT IT READS IS OF BULK AT MOST 1048576: true; the input reads as it did. -/
def tcbLingerUptoRow : OpenClaim := { program := "ytljgcapejcnmgaagreat", sum := "c39d2fdfb89eb7290b19e7dec49ac49399b49986907bf7136295e3b3939fad96", func := "towrope/towropelaw22.TcbLinger", spec := "tcbLinger", unfollowed := true, recurses := true, apart := false, narrowed := true }
def TcbLingerUptoSaid : Prop := tcbLingerUptoRow.holds Tryz.pinned (OpenSpec.upto tcbLingerSpec)

/-- 'towropelaw22.TcbComes', WHERE WHAT IT READS IS OF BULK AT MOST 1048576: true; the input reads as it did. -/
def tcbComesUptoRow : OpenClaim := { program := "ytljgcapejcnmgaagreat", sum := "c39d2fdfb89eb7290b19e7dec49ac49399b49986907bf7136295e3b3939fad96", func := "towrope/towropelaw22.TcbComes", spec := "tcbComes", unfollowed := true, recurses := true, apart := false, narrowed := true }
def TcbComesUptoSaid : Prop := tcbComesUptoRow.holds Tryz.pinned (OpenSpec.upto tcbComesSpec)

/-- 'towropelaw22.TcbHalf', WHERE WHAT IT READS IS OF BULK AT MOST 1048576: true; the input reads as it did. -/
def tcbHalfUptoRow : OpenClaim := { program := "ytljgcapejcnmgaagreat", sum := "c39d2fdfb89eb7290b19e7dec49ac49399b49986907bf7136295e3b3939fad96", func := "towrope/towropelaw22.TcbHalf", spec := "tcbHalf", unfollowed := true, recurses := true, apart := false, narrowed := true }
def TcbHalfUptoSaid : Prop := tcbHalfUptoRow.holds Tryz.pinned (OpenSpec.upto tcbHalfSpec)

/-- 'towropelaw22.TcbBoth', WHERE WHAT IT READS IS OF BULK AT MOST 1048576: true; the input reads as it did. -/
def tcbBothUptoRow : OpenClaim := { program := "ytljgcapejcnmgaagreat", sum := "c39d2fdfb89eb7290b19e7dec49ac49399b49986907bf7136295e3b3939fad96", func := "towrope/towropelaw22.TcbBoth", spec := "tcbBoth", unfollowed := true, recurses := true, apart := false, narrowed := true }
def TcbBothUptoSaid : Prop := tcbBothUptoRow.holds Tryz.pinned (OpenSpec.upto tcbBothSpec)

end Rows
end Go.Proofs.YtljgcapejcnmgaaGreat
