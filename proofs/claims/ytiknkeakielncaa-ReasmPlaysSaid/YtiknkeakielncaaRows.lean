/-
  No cell of these rows narrows 'for every input' (looked for: loops, veiled, ifaces, maps, wideKeys, modest, calm, conditions, laid).
  DERIVED. THE GIVEN ROWS OF THIS SEAT. 12 by the template 'for every input the law returns true; each argument reads behind the call as it read before'; 0 by the template 'total and deterministic' (their statements: YtiknkeakielncaaTotals.lean).
  GIVEN WITH THE SEED: the statements are not yours to turn. If you find one false, say at which input.
  Laid BY PROGRAM, IN A SANDBOX (cutbox-rows.mjs): the forced cells as the released guide's own fill.sh prints them over the translation 72f921a390d54bb7… (all of the seat's roots in one cut). By AI agents, Wed Nov 11 2026. No macro, syntax, notation, axiom, sorry.
-/
import Derived.Test.YtiknkeakielncaaChecked
import GoSem.Claim
import GoSem.ClaimJoined
import GoSem.ClaimMapViews
import Derived.JoinedTies
import Derived.KernelRfl
namespace Go.Proofs.Ytiknkeakielncaa
/- THE CELL 'sum', in the pinned program and in every row, IS THE sha256 OF THE DUMP (.gsa) THAT YtiknkeakielncaaProg.lean LOADS. Nothing in Lean hashes anything: it is a label: what it is worth is what the hold of that sum in a sandbox is worth. -/
noncomputable def Try.pinned : Pinned := { name := "ytiknkeakielncaa", sum := "72f921a390d54bb7f8a60885d53e112af8ff4d082919fc799ff14218f898da8a", checked := Try.checked }
namespace Rows
def none {H : Type} : Left H := { results := [], args := [] }

/-- 'towropelaw13.WheelOnce': WHATEVER THE INPUT: true; the input reads as it did. -/
def wheelOnceSpec : ChangeSpec := { name := "wheelOnce", fn := fun _ => fun
  | [d1, d2] => { results := [.lit (.bool true)], args := [d1, d2] }
  | _ => none }
def wheelOnceRow : OpenClaim := { program := "ytiknkeakielncaa", sum := "72f921a390d54bb7f8a60885d53e112af8ff4d082919fc799ff14218f898da8a", func := "towrope/towropelaw13.WheelOnce", spec := "wheelOnce", unfollowed := true, recurses := true, plainKeys := false, apart := false }
def WheelOnceSaid : Prop := wheelOnceRow.holds Try.pinned (OpenSpec.ofChange wheelOnceSpec)

/-- ITS FALSE NEIGHBOUR: 'it returns false'. Refute it at one input. -/
def wheelOnceWrong : ChangeSpec := { name := "wheelOnce", fn := fun _ => fun
  | [d1, d2] => { results := [.lit (.bool false)], args := [d1, d2] }
  | _ => none }
def WheelOnceWrongFalsely : Prop := wheelOnceRow.holds Try.pinned (OpenSpec.ofChange wheelOnceWrong)

/-- 'towropelaw12.ReasmWhole': WHATEVER THE INPUT: true; the input reads as it did. -/
def reasmWholeSpec : ChangeSpec := { name := "reasmWhole", fn := fun _ => fun
  | [d1, d2, d3] => { results := [.lit (.bool true)], args := [d1, d2, d3] }
  | _ => none }
def reasmWholeRow : OpenClaim := { program := "ytiknkeakielncaa", sum := "72f921a390d54bb7f8a60885d53e112af8ff4d082919fc799ff14218f898da8a", func := "towrope/towropelaw12.ReasmWhole", spec := "reasmWhole", unfollowed := true, recurses := true, plainKeys := false, apart := false }
def ReasmWholeSaid : Prop := reasmWholeRow.holds Try.pinned (OpenSpec.ofChange reasmWholeSpec)

/-- ITS FALSE NEIGHBOUR: 'it returns false'. Refute it at one input. -/
def reasmWholeWrong : ChangeSpec := { name := "reasmWhole", fn := fun _ => fun
  | [d1, d2, d3] => { results := [.lit (.bool false)], args := [d1, d2, d3] }
  | _ => none }
def ReasmWholeWrongFalsely : Prop := reasmWholeRow.holds Try.pinned (OpenSpec.ofChange reasmWholeWrong)

/-- 'towropelaw12.ReasmTwice': WHATEVER THE INPUT: true; the input reads as it did. -/
def reasmTwiceSpec : ChangeSpec := { name := "reasmTwice", fn := fun _ => fun
  | [d1, d2, d3, d4] => { results := [.lit (.bool true)], args := [d1, d2, d3, d4] }
  | _ => none }
def reasmTwiceRow : OpenClaim := { program := "ytiknkeakielncaa", sum := "72f921a390d54bb7f8a60885d53e112af8ff4d082919fc799ff14218f898da8a", func := "towrope/towropelaw12.ReasmTwice", spec := "reasmTwice", unfollowed := true, recurses := true, plainKeys := false, apart := false }
def ReasmTwiceSaid : Prop := reasmTwiceRow.holds Try.pinned (OpenSpec.ofChange reasmTwiceSpec)

/-- ITS FALSE NEIGHBOUR: 'it returns false'. Refute it at one input. -/
def reasmTwiceWrong : ChangeSpec := { name := "reasmTwice", fn := fun _ => fun
  | [d1, d2, d3, d4] => { results := [.lit (.bool false)], args := [d1, d2, d3, d4] }
  | _ => none }
def ReasmTwiceWrongFalsely : Prop := reasmTwiceRow.holds Try.pinned (OpenSpec.ofChange reasmTwiceWrong)

/-- 'towropelaw13.WheelSteps': WHATEVER THE INPUT: true; the input reads as it did. -/
def wheelStepsSpec : ChangeSpec := { name := "wheelSteps", fn := fun _ => fun
  | [d1, d2] => { results := [.lit (.bool true)], args := [d1, d2] }
  | _ => none }
def wheelStepsRow : OpenClaim := { program := "ytiknkeakielncaa", sum := "72f921a390d54bb7f8a60885d53e112af8ff4d082919fc799ff14218f898da8a", func := "towrope/towropelaw13.WheelSteps", spec := "wheelSteps", unfollowed := true, recurses := true, plainKeys := false, apart := false }
def WheelStepsSaid : Prop := wheelStepsRow.holds Try.pinned (OpenSpec.ofChange wheelStepsSpec)

/-- ITS FALSE NEIGHBOUR: 'it returns false'. Refute it at one input. -/
def wheelStepsWrong : ChangeSpec := { name := "wheelSteps", fn := fun _ => fun
  | [d1, d2] => { results := [.lit (.bool false)], args := [d1, d2] }
  | _ => none }
def WheelStepsWrongFalsely : Prop := wheelStepsRow.holds Try.pinned (OpenSpec.ofChange wheelStepsWrong)

/-- 'towropelaw13.WheelFull': WHATEVER THE INPUT: true; the input reads as it did. -/
def wheelFullSpec : ChangeSpec := { name := "wheelFull", fn := fun _ => fun
  | [d1, d2] => { results := [.lit (.bool true)], args := [d1, d2] }
  | _ => none }
def wheelFullRow : OpenClaim := { program := "ytiknkeakielncaa", sum := "72f921a390d54bb7f8a60885d53e112af8ff4d082919fc799ff14218f898da8a", func := "towrope/towropelaw13.WheelFull", spec := "wheelFull", unfollowed := true, recurses := true, plainKeys := false, apart := false }
def WheelFullSaid : Prop := wheelFullRow.holds Try.pinned (OpenSpec.ofChange wheelFullSpec)

/-- ITS FALSE NEIGHBOUR: 'it returns false'. Refute it at one input. -/
def wheelFullWrong : ChangeSpec := { name := "wheelFull", fn := fun _ => fun
  | [d1, d2] => { results := [.lit (.bool false)], args := [d1, d2] }
  | _ => none }
def WheelFullWrongFalsely : Prop := wheelFullRow.holds Try.pinned (OpenSpec.ofChange wheelFullWrong)

/-- 'towropelaw14.AgendaOnce': WHATEVER THE INPUT: true; the input reads as it did. -/
def agendaOnceSpec : ChangeSpec := { name := "agendaOnce", fn := fun _ => fun
  | [d1, d2] => { results := [.lit (.bool true)], args := [d1, d2] }
  | _ => none }
def agendaOnceRow : OpenClaim := { program := "ytiknkeakielncaa", sum := "72f921a390d54bb7f8a60885d53e112af8ff4d082919fc799ff14218f898da8a", func := "towrope/towropelaw14.AgendaOnce", spec := "agendaOnce", unfollowed := true, recurses := true, plainKeys := false, apart := false }
def AgendaOnceSaid : Prop := agendaOnceRow.holds Try.pinned (OpenSpec.ofChange agendaOnceSpec)

/-- ITS FALSE NEIGHBOUR: 'it returns false'. Refute it at one input. -/
def agendaOnceWrong : ChangeSpec := { name := "agendaOnce", fn := fun _ => fun
  | [d1, d2] => { results := [.lit (.bool false)], args := [d1, d2] }
  | _ => none }
def AgendaOnceWrongFalsely : Prop := agendaOnceRow.holds Try.pinned (OpenSpec.ofChange agendaOnceWrong)

/-- 'towropelaw13.WheelPlays': WHATEVER THE INPUT: true; the input reads as it did. -/
def wheelPlaysSpec : ChangeSpec := { name := "wheelPlays", fn := fun _ => fun
  | [d1, d2] => { results := [.lit (.bool true)], args := [d1, d2] }
  | _ => none }
def wheelPlaysRow : OpenClaim := { program := "ytiknkeakielncaa", sum := "72f921a390d54bb7f8a60885d53e112af8ff4d082919fc799ff14218f898da8a", func := "towrope/towropelaw13.WheelPlays", spec := "wheelPlays", unfollowed := true, recurses := true, plainKeys := false, apart := false }
def WheelPlaysSaid : Prop := wheelPlaysRow.holds Try.pinned (OpenSpec.ofChange wheelPlaysSpec)

/-- ITS FALSE NEIGHBOUR: 'it returns false'. Refute it at one input. -/
def wheelPlaysWrong : ChangeSpec := { name := "wheelPlays", fn := fun _ => fun
  | [d1, d2] => { results := [.lit (.bool false)], args := [d1, d2] }
  | _ => none }
def WheelPlaysWrongFalsely : Prop := wheelPlaysRow.holds Try.pinned (OpenSpec.ofChange wheelPlaysWrong)

/-- 'towropelaw13.WheelNils': WHATEVER THE INPUT: true; the input reads as it did. -/
def wheelNilsSpec : ChangeSpec := { name := "wheelNils", fn := fun _ => fun
  | [d] => { results := [.lit (.bool true)], args := [d] }
  | _ => none }
def wheelNilsRow : OpenClaim := { program := "ytiknkeakielncaa", sum := "72f921a390d54bb7f8a60885d53e112af8ff4d082919fc799ff14218f898da8a", func := "towrope/towropelaw13.WheelNils", spec := "wheelNils", unfollowed := true, recurses := true, plainKeys := false, apart := false }
def WheelNilsSaid : Prop := wheelNilsRow.holds Try.pinned (OpenSpec.ofChange wheelNilsSpec)

/-- ITS FALSE NEIGHBOUR: 'it returns false'. Refute it at one input. -/
def wheelNilsWrong : ChangeSpec := { name := "wheelNils", fn := fun _ => fun
  | [d] => { results := [.lit (.bool false)], args := [d] }
  | _ => none }
def WheelNilsWrongFalsely : Prop := wheelNilsRow.holds Try.pinned (OpenSpec.ofChange wheelNilsWrong)

/-- 'towropelaw12.ReasmPlays': WHATEVER THE INPUT: true; the input reads as it did. -/
def reasmPlaysSpec : ChangeSpec := { name := "reasmPlays", fn := fun _ => fun
  | [d1, d2, d3] => { results := [.lit (.bool true)], args := [d1, d2, d3] }
  | _ => none }
def reasmPlaysRow : OpenClaim := { program := "ytiknkeakielncaa", sum := "72f921a390d54bb7f8a60885d53e112af8ff4d082919fc799ff14218f898da8a", func := "towrope/towropelaw12.ReasmPlays", spec := "reasmPlays", unfollowed := true, recurses := true, plainKeys := false, apart := false }
def ReasmPlaysSaid : Prop := reasmPlaysRow.holds Try.pinned (OpenSpec.ofChange reasmPlaysSpec)

/-- ITS FALSE NEIGHBOUR: 'it returns false'. Refute it at one input. -/
def reasmPlaysWrong : ChangeSpec := { name := "reasmPlays", fn := fun _ => fun
  | [d1, d2, d3] => { results := [.lit (.bool false)], args := [d1, d2, d3] }
  | _ => none }
def ReasmPlaysWrongFalsely : Prop := reasmPlaysRow.holds Try.pinned (OpenSpec.ofChange reasmPlaysWrong)

/-- 'towropelaw12.ReasmNils': WHATEVER THE INPUT: true; the input reads as it did. -/
def reasmNilsSpec : ChangeSpec := { name := "reasmNils", fn := fun _ => fun
  | [d1, d2] => { results := [.lit (.bool true)], args := [d1, d2] }
  | _ => none }
def reasmNilsRow : OpenClaim := { program := "ytiknkeakielncaa", sum := "72f921a390d54bb7f8a60885d53e112af8ff4d082919fc799ff14218f898da8a", func := "towrope/towropelaw12.ReasmNils", spec := "reasmNils", unfollowed := true, recurses := true, plainKeys := false, apart := false }
def ReasmNilsSaid : Prop := reasmNilsRow.holds Try.pinned (OpenSpec.ofChange reasmNilsSpec)

/-- ITS FALSE NEIGHBOUR: 'it returns false'. Refute it at one input. -/
def reasmNilsWrong : ChangeSpec := { name := "reasmNils", fn := fun _ => fun
  | [d1, d2] => { results := [.lit (.bool false)], args := [d1, d2] }
  | _ => none }
def ReasmNilsWrongFalsely : Prop := reasmNilsRow.holds Try.pinned (OpenSpec.ofChange reasmNilsWrong)

/-- 'towropelaw14.AgendaPlays': WHATEVER THE INPUT: true; the input reads as it did. -/
def agendaPlaysSpec : ChangeSpec := { name := "agendaPlays", fn := fun _ => fun
  | [d1, d2] => { results := [.lit (.bool true)], args := [d1, d2] }
  | _ => none }
def agendaPlaysRow : OpenClaim := { program := "ytiknkeakielncaa", sum := "72f921a390d54bb7f8a60885d53e112af8ff4d082919fc799ff14218f898da8a", func := "towrope/towropelaw14.AgendaPlays", spec := "agendaPlays", unfollowed := true, recurses := true, plainKeys := false, apart := false }
def AgendaPlaysSaid : Prop := agendaPlaysRow.holds Try.pinned (OpenSpec.ofChange agendaPlaysSpec)

/-- ITS FALSE NEIGHBOUR: 'it returns false'. Refute it at one input. -/
def agendaPlaysWrong : ChangeSpec := { name := "agendaPlays", fn := fun _ => fun
  | [d1, d2] => { results := [.lit (.bool false)], args := [d1, d2] }
  | _ => none }
def AgendaPlaysWrongFalsely : Prop := agendaPlaysRow.holds Try.pinned (OpenSpec.ofChange agendaPlaysWrong)

/-- 'towropelaw14.AgendaNils': WHATEVER THE INPUT: true; the input reads as it did. -/
def agendaNilsSpec : ChangeSpec := { name := "agendaNils", fn := fun _ => fun
  | [d] => { results := [.lit (.bool true)], args := [d] }
  | _ => none }
def agendaNilsRow : OpenClaim := { program := "ytiknkeakielncaa", sum := "72f921a390d54bb7f8a60885d53e112af8ff4d082919fc799ff14218f898da8a", func := "towrope/towropelaw14.AgendaNils", spec := "agendaNils", unfollowed := true, recurses := true, plainKeys := false, apart := false }
def AgendaNilsSaid : Prop := agendaNilsRow.holds Try.pinned (OpenSpec.ofChange agendaNilsSpec)

/-- ITS FALSE NEIGHBOUR: 'it returns false'. Refute it at one input. -/
def agendaNilsWrong : ChangeSpec := { name := "agendaNils", fn := fun _ => fun
  | [d] => { results := [.lit (.bool false)], args := [d] }
  | _ => none }
def AgendaNilsWrongFalsely : Prop := agendaNilsRow.holds Try.pinned (OpenSpec.ofChange agendaNilsWrong)

/- THE SECOND FORM. 'bulk': how many values and letters a reading holds, each counted each time it is reached (what is shared counts as often as it is met; a slice's spare places count too). A statement '..UptoSaid' is the law's where the arguments, and the package variables that the reading takes, are together of bulk at most 1048576: NARROWER than '..Said'. Prove '..Said' where nothing that the law and all that it calls make is longer than what came in: it says more and counts as full. Else prove '..UptoSaid'. A law counts once. -/
mutual
def uptoBulk {H : Type} : DataW H → Nat
  | .lit (.string bytes) => bytes.length + 1
  | .lit _ => 1
  | .nil => 1
  | .ptr d => uptoBulk d + 1
  | .slice elems spare => uptoBulkAll elems + uptoBulkAll spare + 1
  | .agg parts => uptoBulkAll parts + 1
  | .iface _ d => uptoBulk d + 1
  | .map entries => uptoBulkEntries entries + 1
  | .held _ => 1
def uptoBulkAll {H : Type} : List (DataW H) → Nat
  | [] => 0
  | d :: r => uptoBulk d + uptoBulkAll r
def uptoBulkEntries {H : Type} : List (Lit × DataW H) → Nat
  | [] => 0
  | x :: r => uptoBulkEntry x + uptoBulkEntries r
def uptoBulkEntry {H : Type} : Lit × DataW H → Nat
  | (.string bytes, d) => bytes.length + uptoBulk d + 1
  | (_, d) => uptoBulk d + 1
 end
def uptoSmall : (H : Type) → List (DataW H) → Bool := fun _ ds => decide (uptoBulkAll ds ≤ 1048576)
def OpenSpec.upto (s : _root_.Go.ChangeSpec) : _root_.Go.OpenSpec := { _root_.Go.OpenSpec.ofChange s with cond := some uptoSmall }

/-- 'towropelaw13.WheelOnce', WHERE WHAT IT READS IS OF BULK AT MOST 1048576: true; the input reads as it did. -/
def wheelOnceUptoRow : OpenClaim := { program := "ytiknkeakielncaa", sum := "72f921a390d54bb7f8a60885d53e112af8ff4d082919fc799ff14218f898da8a", func := "towrope/towropelaw13.WheelOnce", spec := "wheelOnce", unfollowed := true, recurses := true, plainKeys := false, apart := false, narrowed := true }
def WheelOnceUptoSaid : Prop := wheelOnceUptoRow.holds Try.pinned (OpenSpec.upto wheelOnceSpec)

/-- 'towropelaw12.ReasmWhole', WHERE WHAT IT READS IS OF BULK AT MOST 1048576: true; the input reads as it did. -/
def reasmWholeUptoRow : OpenClaim := { program := "ytiknkeakielncaa", sum := "72f921a390d54bb7f8a60885d53e112af8ff4d082919fc799ff14218f898da8a", func := "towrope/towropelaw12.ReasmWhole", spec := "reasmWhole", unfollowed := true, recurses := true, plainKeys := false, apart := false, narrowed := true }
def ReasmWholeUptoSaid : Prop := reasmWholeUptoRow.holds Try.pinned (OpenSpec.upto reasmWholeSpec)

/-- 'towropelaw12.ReasmTwice', WHERE WHAT IT READS IS OF BULK AT MOST 1048576: true; the input reads as it did. -/
def reasmTwiceUptoRow : OpenClaim := { program := "ytiknkeakielncaa", sum := "72f921a390d54bb7f8a60885d53e112af8ff4d082919fc799ff14218f898da8a", func := "towrope/towropelaw12.ReasmTwice", spec := "reasmTwice", unfollowed := true, recurses := true, plainKeys := false, apart := false, narrowed := true }
def ReasmTwiceUptoSaid : Prop := reasmTwiceUptoRow.holds Try.pinned (OpenSpec.upto reasmTwiceSpec)

/-- 'towropelaw13.WheelSteps', WHERE WHAT IT READS IS OF BULK AT MOST 1048576: true; the input reads as it did. -/
def wheelStepsUptoRow : OpenClaim := { program := "ytiknkeakielncaa", sum := "72f921a390d54bb7f8a60885d53e112af8ff4d082919fc799ff14218f898da8a", func := "towrope/towropelaw13.WheelSteps", spec := "wheelSteps", unfollowed := true, recurses := true, plainKeys := false, apart := false, narrowed := true }
def WheelStepsUptoSaid : Prop := wheelStepsUptoRow.holds Try.pinned (OpenSpec.upto wheelStepsSpec)

/-- 'towropelaw13.WheelFull', WHERE WHAT IT READS IS OF BULK AT MOST 1048576: true; the input reads as it did. -/
def wheelFullUptoRow : OpenClaim := { program := "ytiknkeakielncaa", sum := "72f921a390d54bb7f8a60885d53e112af8ff4d082919fc799ff14218f898da8a", func := "towrope/towropelaw13.WheelFull", spec := "wheelFull", unfollowed := true, recurses := true, plainKeys := false, apart := false, narrowed := true }
def WheelFullUptoSaid : Prop := wheelFullUptoRow.holds Try.pinned (OpenSpec.upto wheelFullSpec)

/-- 'towropelaw14.AgendaOnce', WHERE WHAT IT READS IS OF BULK AT MOST 1048576: true; the input reads as it did. -/
def agendaOnceUptoRow : OpenClaim := { program := "ytiknkeakielncaa", sum := "72f921a390d54bb7f8a60885d53e112af8ff4d082919fc799ff14218f898da8a", func := "towrope/towropelaw14.AgendaOnce", spec := "agendaOnce", unfollowed := true, recurses := true, plainKeys := false, apart := false, narrowed := true }
def AgendaOnceUptoSaid : Prop := agendaOnceUptoRow.holds Try.pinned (OpenSpec.upto agendaOnceSpec)

/-- 'towropelaw13.WheelPlays', WHERE WHAT IT READS IS OF BULK AT MOST 1048576: true; the input reads as it did. -/
def wheelPlaysUptoRow : OpenClaim := { program := "ytiknkeakielncaa", sum := "72f921a390d54bb7f8a60885d53e112af8ff4d082919fc799ff14218f898da8a", func := "towrope/towropelaw13.WheelPlays", spec := "wheelPlays", unfollowed := true, recurses := true, plainKeys := false, apart := false, narrowed := true }
def WheelPlaysUptoSaid : Prop := wheelPlaysUptoRow.holds Try.pinned (OpenSpec.upto wheelPlaysSpec)

/-- 'towropelaw13.WheelNils', WHERE WHAT IT READS IS OF BULK AT MOST 1048576: true; the input reads as it did. -/
def wheelNilsUptoRow : OpenClaim := { program := "ytiknkeakielncaa", sum := "72f921a390d54bb7f8a60885d53e112af8ff4d082919fc799ff14218f898da8a", func := "towrope/towropelaw13.WheelNils", spec := "wheelNils", unfollowed := true, recurses := true, plainKeys := false, apart := false, narrowed := true }
def WheelNilsUptoSaid : Prop := wheelNilsUptoRow.holds Try.pinned (OpenSpec.upto wheelNilsSpec)

/-- 'towropelaw12.ReasmPlays', WHERE WHAT IT READS IS OF BULK AT MOST 1048576: true; the input reads as it did. -/
def reasmPlaysUptoRow : OpenClaim := { program := "ytiknkeakielncaa", sum := "72f921a390d54bb7f8a60885d53e112af8ff4d082919fc799ff14218f898da8a", func := "towrope/towropelaw12.ReasmPlays", spec := "reasmPlays", unfollowed := true, recurses := true, plainKeys := false, apart := false, narrowed := true }
def ReasmPlaysUptoSaid : Prop := reasmPlaysUptoRow.holds Try.pinned (OpenSpec.upto reasmPlaysSpec)

/-- 'towropelaw12.ReasmNils', WHERE WHAT IT READS IS OF BULK AT MOST 1048576: true; the input reads as it did. -/
def reasmNilsUptoRow : OpenClaim := { program := "ytiknkeakielncaa", sum := "72f921a390d54bb7f8a60885d53e112af8ff4d082919fc799ff14218f898da8a", func := "towrope/towropelaw12.ReasmNils", spec := "reasmNils", unfollowed := true, recurses := true, plainKeys := false, apart := false, narrowed := true }
def ReasmNilsUptoSaid : Prop := reasmNilsUptoRow.holds Try.pinned (OpenSpec.upto reasmNilsSpec)

/-- 'towropelaw14.AgendaPlays', WHERE WHAT IT READS IS OF BULK AT MOST 1048576: true; the input reads as it did. -/
def agendaPlaysUptoRow : OpenClaim := { program := "ytiknkeakielncaa", sum := "72f921a390d54bb7f8a60885d53e112af8ff4d082919fc799ff14218f898da8a", func := "towrope/towropelaw14.AgendaPlays", spec := "agendaPlays", unfollowed := true, recurses := true, plainKeys := false, apart := false, narrowed := true }
def AgendaPlaysUptoSaid : Prop := agendaPlaysUptoRow.holds Try.pinned (OpenSpec.upto agendaPlaysSpec)

/-- 'towropelaw14.AgendaNils', WHERE WHAT IT READS IS OF BULK AT MOST 1048576: true; the input reads as it did. -/
def agendaNilsUptoRow : OpenClaim := { program := "ytiknkeakielncaa", sum := "72f921a390d54bb7f8a60885d53e112af8ff4d082919fc799ff14218f898da8a", func := "towrope/towropelaw14.AgendaNils", spec := "agendaNils", unfollowed := true, recurses := true, plainKeys := false, apart := false, narrowed := true }
def AgendaNilsUptoSaid : Prop := agendaNilsUptoRow.holds Try.pinned (OpenSpec.upto agendaNilsSpec)

end Rows
end Go.Proofs.Ytiknkeakielncaa
