/-
  No cell of these rows narrows 'for every input' (looked for: loops, veiled, ifaces, maps, wideKeys, modest, calm, conditions, laid).
  DERIVED. THE GIVEN ROWS OF THIS SEAT. 7 by the template 'for every input the law returns true; each argument reads behind the call as it read before'; 0 by the template 'total and deterministic' (their statements: YtjppphldiaonkaaTotals.lean).
  GIVEN WITH THE SEED: the statements are not yours to turn. If you find one false, say at which input.
  Laid BY PROGRAM, IN A SANDBOX (cutbox-rows.mjs): the forced cells as the released guide's own fill.sh prints them over the translation 98ea49f4bdd105f8… (all of the seat's roots in one cut). By AI agents, Wed Nov 11 2026. No macro, syntax, notation, axiom, sorry.
-/
import Derived.Test.YtjppphldiaonkaaChecked
import GoSem.Claim
import GoSem.ClaimJoined
import GoSem.ClaimMapViews
import Derived.JoinedTies
import Derived.KernelRfl
namespace Go.Proofs.Ytjppphldiaonkaa
/- THE CELL 'sum', in the pinned program and in every row, IS THE sha256 OF THE DUMP (.gsa) THAT YtjppphldiaonkaaProg.lean LOADS. Nothing in Lean hashes anything: it is a label: what it is worth is what the hold of that sum in a sandbox is worth. -/
noncomputable def Try.pinned : Pinned := { name := "ytjppphldiaonkaa", sum := "98ea49f4bdd105f87a56f81621f1fd2e2712b546a06e0081a1e03890422293e4", checked := Try.checked }
namespace Rows
def none {H : Type} : Left H := { results := [], args := [] }

/-- 'towropelaw10.RouteWider': WHATEVER THE INPUT: true; the input reads as it did. -/
def routeWiderSpec : ChangeSpec := { name := "routeWider", fn := fun _ => fun
  | [d1, d2, d3] => { results := [.lit (.bool true)], args := [d1, d2, d3] }
  | _ => none }
def routeWiderRow : OpenClaim := { program := "ytjppphldiaonkaa", sum := "98ea49f4bdd105f87a56f81621f1fd2e2712b546a06e0081a1e03890422293e4", func := "towrope/towropelaw10.RouteWider", spec := "routeWider", inPlace := ["slices.overlaps[towrope/route.way]"], unfollowed := true, recurses := true, apart := false }
def RouteWiderSaid : Prop := routeWiderRow.holds Try.pinned (OpenSpec.ofChange routeWiderSpec)

/-- ITS FALSE NEIGHBOUR: 'it returns false'. Refute it at one input. -/
def routeWiderWrong : ChangeSpec := { name := "routeWider", fn := fun _ => fun
  | [d1, d2, d3] => { results := [.lit (.bool false)], args := [d1, d2, d3] }
  | _ => none }
def RouteWiderWrongFalsely : Prop := routeWiderRow.holds Try.pinned (OpenSpec.ofChange routeWiderWrong)

/-- 'towropelaw10.RoutePlays': WHATEVER THE INPUT: true; the input reads as it did. -/
def routePlaysSpec : ChangeSpec := { name := "routePlays", fn := fun _ => fun
  | [d1, d2] => { results := [.lit (.bool true)], args := [d1, d2] }
  | _ => none }
def routePlaysRow : OpenClaim := { program := "ytjppphldiaonkaa", sum := "98ea49f4bdd105f87a56f81621f1fd2e2712b546a06e0081a1e03890422293e4", func := "towrope/towropelaw10.RoutePlays", spec := "routePlays", inPlace := ["slices.overlaps[towrope/route.way]"], unfollowed := true, recurses := true, apart := false }
def RoutePlaysSaid : Prop := routePlaysRow.holds Try.pinned (OpenSpec.ofChange routePlaysSpec)

/-- ITS FALSE NEIGHBOUR: 'it returns false'. Refute it at one input. -/
def routePlaysWrong : ChangeSpec := { name := "routePlays", fn := fun _ => fun
  | [d1, d2] => { results := [.lit (.bool false)], args := [d1, d2] }
  | _ => none }
def RoutePlaysWrongFalsely : Prop := routePlaysRow.holds Try.pinned (OpenSpec.ofChange routePlaysWrong)

/-- 'towropelaw10.RouteBack': WHATEVER THE INPUT: true; the input reads as it did. -/
def routeBackSpec : ChangeSpec := { name := "routeBack", fn := fun _ => fun
  | [d1, d2] => { results := [.lit (.bool true)], args := [d1, d2] }
  | _ => none }
def routeBackRow : OpenClaim := { program := "ytjppphldiaonkaa", sum := "98ea49f4bdd105f87a56f81621f1fd2e2712b546a06e0081a1e03890422293e4", func := "towrope/towropelaw10.RouteBack", spec := "routeBack", inPlace := ["slices.overlaps[towrope/route.way]"], unfollowed := true, recurses := true, apart := false }
def RouteBackSaid : Prop := routeBackRow.holds Try.pinned (OpenSpec.ofChange routeBackSpec)

/-- ITS FALSE NEIGHBOUR: 'it returns false'. Refute it at one input. -/
def routeBackWrong : ChangeSpec := { name := "routeBack", fn := fun _ => fun
  | [d1, d2] => { results := [.lit (.bool false)], args := [d1, d2] }
  | _ => none }
def RouteBackWrongFalsely : Prop := routeBackRow.holds Try.pinned (OpenSpec.ofChange routeBackWrong)

/-- 'towropelaw10.RouteNils': WHATEVER THE INPUT: true; the input reads as it did. -/
def routeNilsSpec : ChangeSpec := { name := "routeNils", fn := fun _ => fun
  | [d1, d2] => { results := [.lit (.bool true)], args := [d1, d2] }
  | _ => none }
def routeNilsRow : OpenClaim := { program := "ytjppphldiaonkaa", sum := "98ea49f4bdd105f87a56f81621f1fd2e2712b546a06e0081a1e03890422293e4", func := "towrope/towropelaw10.RouteNils", spec := "routeNils", inPlace := ["slices.overlaps[towrope/route.way]"], unfollowed := true, recurses := true, apart := false }
def RouteNilsSaid : Prop := routeNilsRow.holds Try.pinned (OpenSpec.ofChange routeNilsSpec)

/-- ITS FALSE NEIGHBOUR: 'it returns false'. Refute it at one input. -/
def routeNilsWrong : ChangeSpec := { name := "routeNils", fn := fun _ => fun
  | [d1, d2] => { results := [.lit (.bool false)], args := [d1, d2] }
  | _ => none }
def RouteNilsWrongFalsely : Prop := routeNilsRow.holds Try.pinned (OpenSpec.ofChange routeNilsWrong)

/-- 'towropelaw14.AgendaOnce': WHATEVER THE INPUT: true; the input reads as it did. -/
def agendaOnceSpec : ChangeSpec := { name := "agendaOnce", fn := fun _ => fun
  | [d1, d2] => { results := [.lit (.bool true)], args := [d1, d2] }
  | _ => none }
def agendaOnceRow : OpenClaim := { program := "ytjppphldiaonkaa", sum := "98ea49f4bdd105f87a56f81621f1fd2e2712b546a06e0081a1e03890422293e4", func := "towrope/towropelaw14.AgendaOnce", spec := "agendaOnce", unfollowed := true, recurses := true, apart := false }
def AgendaOnceSaid : Prop := agendaOnceRow.holds Try.pinned (OpenSpec.ofChange agendaOnceSpec)

/-- ITS FALSE NEIGHBOUR: 'it returns false'. Refute it at one input. -/
def agendaOnceWrong : ChangeSpec := { name := "agendaOnce", fn := fun _ => fun
  | [d1, d2] => { results := [.lit (.bool false)], args := [d1, d2] }
  | _ => none }
def AgendaOnceWrongFalsely : Prop := agendaOnceRow.holds Try.pinned (OpenSpec.ofChange agendaOnceWrong)

/-- 'towropelaw14.AgendaPlays': WHATEVER THE INPUT: true; the input reads as it did. -/
def agendaPlaysSpec : ChangeSpec := { name := "agendaPlays", fn := fun _ => fun
  | [d1, d2] => { results := [.lit (.bool true)], args := [d1, d2] }
  | _ => none }
def agendaPlaysRow : OpenClaim := { program := "ytjppphldiaonkaa", sum := "98ea49f4bdd105f87a56f81621f1fd2e2712b546a06e0081a1e03890422293e4", func := "towrope/towropelaw14.AgendaPlays", spec := "agendaPlays", unfollowed := true, recurses := true, apart := false }
def AgendaPlaysSaid : Prop := agendaPlaysRow.holds Try.pinned (OpenSpec.ofChange agendaPlaysSpec)

/-- ITS FALSE NEIGHBOUR: 'it returns false'. Refute it at one input. -/
def agendaPlaysWrong : ChangeSpec := { name := "agendaPlays", fn := fun _ => fun
  | [d1, d2] => { results := [.lit (.bool false)], args := [d1, d2] }
  | _ => none }
def AgendaPlaysWrongFalsely : Prop := agendaPlaysRow.holds Try.pinned (OpenSpec.ofChange agendaPlaysWrong)

/-- 'towropelaw14.AgendaNils': WHATEVER THE INPUT: true; the input reads as it did. -/
def agendaNilsSpec : ChangeSpec := { name := "agendaNils", fn := fun _ => fun
  | [d] => { results := [.lit (.bool true)], args := [d] }
  | _ => none }
def agendaNilsRow : OpenClaim := { program := "ytjppphldiaonkaa", sum := "98ea49f4bdd105f87a56f81621f1fd2e2712b546a06e0081a1e03890422293e4", func := "towrope/towropelaw14.AgendaNils", spec := "agendaNils", unfollowed := true, recurses := true, apart := false }
def AgendaNilsSaid : Prop := agendaNilsRow.holds Try.pinned (OpenSpec.ofChange agendaNilsSpec)

/-- ITS FALSE NEIGHBOUR: 'it returns false'. Refute it at one input. -/
def agendaNilsWrong : ChangeSpec := { name := "agendaNils", fn := fun _ => fun
  | [d] => { results := [.lit (.bool false)], args := [d] }
  | _ => none }
def AgendaNilsWrongFalsely : Prop := agendaNilsRow.holds Try.pinned (OpenSpec.ofChange agendaNilsWrong)

/- THE SECOND FORM. 'bulk': how many values and letters a reading holds, each counted each time it is reached (what is shared counts as often as it is met; a slice's spare places count too). A statement '..UptoSaid' is the law's where the arguments, and the package variables that the reading takes, are together of bulk at most 1048576: NARROWER than '..Said'. Prove '..Said' where nothing that the law and all that it calls make is longer than what came in: it says more and counts as full. Else prove '..UptoSaid'. A law counts once. -/
mutual
def uptoBulk {H : Type} : DataW H → Nat
  | .lit (.string bytes) => bytes.length + 1
  | .lit _ => 1
  | .nil => 1
  | .ptr d => uptoBulk d + 1
  | .slice elems spare => uptoBulkAll elems + uptoBulkAll spare + 1
  | .agg parts => uptoBulkAll parts + 1
  | .iface _ d => uptoBulk d + 1
  | .map entries => uptoBulkEntries entries + 1
  | .held _ => 1
def uptoBulkAll {H : Type} : List (DataW H) → Nat
  | [] => 0
  | d :: r => uptoBulk d + uptoBulkAll r
def uptoBulkEntries {H : Type} : List (Lit × DataW H) → Nat
  | [] => 0
  | x :: r => uptoBulkEntry x + uptoBulkEntries r
def uptoBulkEntry {H : Type} : Lit × DataW H → Nat
  | (.string bytes, d) => bytes.length + uptoBulk d + 1
  | (_, d) => uptoBulk d + 1
 end
def uptoSmall : (H : Type) → List (DataW H) → Bool := fun _ ds => decide (uptoBulkAll ds ≤ 1048576)
def OpenSpec.upto (s : _root_.Go.ChangeSpec) : _root_.Go.OpenSpec := { _root_.Go.OpenSpec.ofChange s with cond := some uptoSmall }

/-- 'towropelaw10.RouteWider', WHERE WHAT IT READS IS OF BULK AT MOST 1048576: true; the input reads as it did. -/
def routeWiderUptoRow : OpenClaim := { program := "ytjppphldiaonkaa", sum := "98ea49f4bdd105f87a56f81621f1fd2e2712b546a06e0081a1e03890422293e4", func := "towrope/towropelaw10.RouteWider", spec := "routeWider", inPlace := ["slices.overlaps[towrope/route.way]"], unfollowed := true, recurses := true, apart := false, narrowed := true }
def RouteWiderUptoSaid : Prop := routeWiderUptoRow.holds Try.pinned (OpenSpec.upto routeWiderSpec)

/-- 'towropelaw10.RoutePlays', WHERE WHAT IT READS IS OF BULK AT MOST 1048576: true; the input reads as it did. -/
def routePlaysUptoRow : OpenClaim := { program := "ytjppphldiaonkaa", sum := "98ea49f4bdd105f87a56f81621f1fd2e2712b546a06e0081a1e03890422293e4", func := "towrope/towropelaw10.RoutePlays", spec := "routePlays", inPlace := ["slices.overlaps[towrope/route.way]"], unfollowed := true, recurses := true, apart := false, narrowed := true }
def RoutePlaysUptoSaid : Prop := routePlaysUptoRow.holds Try.pinned (OpenSpec.upto routePlaysSpec)

/-- 'towropelaw10.RouteBack', WHERE WHAT IT READS IS OF BULK AT MOST 1048576: true; the input reads as it did. -/
def routeBackUptoRow : OpenClaim := { program := "ytjppphldiaonkaa", sum := "98ea49f4bdd105f87a56f81621f1fd2e2712b546a06e0081a1e03890422293e4", func := "towrope/towropelaw10.RouteBack", spec := "routeBack", inPlace := ["slices.overlaps[towrope/route.way]"], unfollowed := true, recurses := true, apart := false, narrowed := true }
def RouteBackUptoSaid : Prop := routeBackUptoRow.holds Try.pinned (OpenSpec.upto routeBackSpec)

/-- 'towropelaw10.RouteNils', WHERE WHAT IT READS IS OF BULK AT MOST 1048576: true; the input reads as it did. -/
def routeNilsUptoRow : OpenClaim := { program := "ytjppphldiaonkaa", sum := "98ea49f4bdd105f87a56f81621f1fd2e2712b546a06e0081a1e03890422293e4", func := "towrope/towropelaw10.RouteNils", spec := "routeNils", inPlace := ["slices.overlaps[towrope/route.way]"], unfollowed := true, recurses := true, apart := false, narrowed := true }
def RouteNilsUptoSaid : Prop := routeNilsUptoRow.holds Try.pinned (OpenSpec.upto routeNilsSpec)

/-- 'towropelaw14.AgendaOnce', WHERE WHAT IT READS IS OF BULK AT MOST 1048576: true; the input reads as it did. -/
def agendaOnceUptoRow : OpenClaim := { program := "ytjppphldiaonkaa", sum := "98ea49f4bdd105f87a56f81621f1fd2e2712b546a06e0081a1e03890422293e4", func := "towrope/towropelaw14.AgendaOnce", spec := "agendaOnce", unfollowed := true, recurses := true, apart := false, narrowed := true }
def AgendaOnceUptoSaid : Prop := agendaOnceUptoRow.holds Try.pinned (OpenSpec.upto agendaOnceSpec)

/-- 'towropelaw14.AgendaPlays', WHERE WHAT IT READS IS OF BULK AT MOST 1048576: true; the input reads as it did. -/
def agendaPlaysUptoRow : OpenClaim := { program := "ytjppphldiaonkaa", sum := "98ea49f4bdd105f87a56f81621f1fd2e2712b546a06e0081a1e03890422293e4", func := "towrope/towropelaw14.AgendaPlays", spec := "agendaPlays", unfollowed := true, recurses := true, apart := false, narrowed := true }
def AgendaPlaysUptoSaid : Prop := agendaPlaysUptoRow.holds Try.pinned (OpenSpec.upto agendaPlaysSpec)

/-- 'towropelaw14.AgendaNils', WHERE WHAT IT READS IS OF BULK AT MOST 1048576: true; the input reads as it did. -/
def agendaNilsUptoRow : OpenClaim := { program := "ytjppphldiaonkaa", sum := "98ea49f4bdd105f87a56f81621f1fd2e2712b546a06e0081a1e03890422293e4", func := "towrope/towropelaw14.AgendaNils", spec := "agendaNils", unfollowed := true, recurses := true, apart := false, narrowed := true }
def AgendaNilsUptoSaid : Prop := agendaNilsUptoRow.holds Try.pinned (OpenSpec.upto agendaNilsSpec)

end Rows
end Go.Proofs.Ytjppphldiaonkaa
