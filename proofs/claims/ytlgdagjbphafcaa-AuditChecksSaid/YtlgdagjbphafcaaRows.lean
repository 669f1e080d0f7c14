/-
  No cell of these rows narrows 'for every input' (looked for: loops, veiled, ifaces, maps, wideKeys, modest, calm, conditions, laid).
  DERIVED. THE GIVEN ROWS OF THIS SEAT. 12 by the template 'for every input the law returns true; each argument reads behind the call as it read before'; 0 by the template 'total and deterministic' (their statements: YtlgdagjbphafcaaTotals.lean).
  GIVEN WITH THE SEED: the statements are not yours to turn. If you find one false, say at which input.
  Laid BY PROGRAM, IN A SANDBOX (cutbox-rows.mjs): the forced cells as the released guide's own fill.sh prints them over the translation ead5098625011eaf… (all of the seat's roots in one cut). By AI agents, Wed Nov 11 2026. No macro, syntax, notation, axiom, sorry.
-/
import Derived.Test.YtlgdagjbphafcaaChecked
import GoSem.Claim
import GoSem.ClaimJoined
import GoSem.ClaimMapViews
import Derived.JoinedTies
import Derived.KernelRfl
namespace Go.Proofs.Ytlgdagjbphafcaa
/- THE CELL 'sum', in the pinned program and in every row, IS THE sha256 OF THE DUMP (.gsa) THAT YtlgdagjbphafcaaProg.lean LOADS. Nothing in Lean hashes anything: it is a label: what it is worth is what the hold of that sum in a sandbox is worth. -/
noncomputable def Try.pinned : Pinned := { name := "ytlgdagjbphafcaa", sum := "ead5098625011eaf707121d13f3b8a5b9d004e69ea36bfcb31372206ae61a3b6", checked := Try.checked }
namespace Rows
def none {H : Type} : Left H := { results := [], args := [] }

/-- 'towropelaw19.UdpOrder': WHATEVER THE INPUT: true; the input reads as it did. -/
def udpOrderSpec : ChangeSpec := { name := "udpOrder", fn := fun _ => fun
  | [d1, d2, d3] => { results := [.lit (.bool true)], args := [d1, d2, d3] }
  | _ => none }
def udpOrderRow : OpenClaim := { program := "ytlgdagjbphafcaa", sum := "ead5098625011eaf707121d13f3b8a5b9d004e69ea36bfcb31372206ae61a3b6", func := "towrope/towropelaw19.UdpOrder", spec := "udpOrder", plainKeys := false, apart := false }
def UdpOrderSaid : Prop := udpOrderRow.holds Try.pinned (OpenSpec.ofChange udpOrderSpec)

/-- ITS FALSE NEIGHBOUR: 'it returns false'. Refute it at one input. -/
def udpOrderWrong : ChangeSpec := { name := "udpOrder", fn := fun _ => fun
  | [d1, d2, d3] => { results := [.lit (.bool false)], args := [d1, d2, d3] }
  | _ => none }
def UdpOrderWrongFalsely : Prop := udpOrderRow.holds Try.pinned (OpenSpec.ofChange udpOrderWrong)

/-- 'towropelaw21.CongPlays': WHATEVER THE INPUT: true; the input reads as it did. -/
def congPlaysSpec : ChangeSpec := { name := "congPlays", fn := fun _ => fun
  | [d1, d2] => { results := [.lit (.bool true)], args := [d1, d2] }
  | _ => none }
def congPlaysRow : OpenClaim := { program := "ytlgdagjbphafcaa", sum := "ead5098625011eaf707121d13f3b8a5b9d004e69ea36bfcb31372206ae61a3b6", func := "towrope/towropelaw21.CongPlays", spec := "congPlays", plainKeys := false, apart := false }
def CongPlaysSaid : Prop := congPlaysRow.holds Try.pinned (OpenSpec.ofChange congPlaysSpec)

/-- ITS FALSE NEIGHBOUR: 'it returns false'. Refute it at one input. -/
def congPlaysWrong : ChangeSpec := { name := "congPlays", fn := fun _ => fun
  | [d1, d2] => { results := [.lit (.bool false)], args := [d1, d2] }
  | _ => none }
def CongPlaysWrongFalsely : Prop := congPlaysRow.holds Try.pinned (OpenSpec.ofChange congPlaysWrong)

/-- 'towropelaw21.CongGrows': WHATEVER THE INPUT: true; the input reads as it did. -/
def congGrowsSpec : ChangeSpec := { name := "congGrows", fn := fun _ => fun
  | [d1, d2, d3] => { results := [.lit (.bool true)], args := [d1, d2, d3] }
  | _ => none }
def congGrowsRow : OpenClaim := { program := "ytlgdagjbphafcaa", sum := "ead5098625011eaf707121d13f3b8a5b9d004e69ea36bfcb31372206ae61a3b6", func := "towrope/towropelaw21.CongGrows", spec := "congGrows", plainKeys := false, apart := false }
def CongGrowsSaid : Prop := congGrowsRow.holds Try.pinned (OpenSpec.ofChange congGrowsSpec)

/-- ITS FALSE NEIGHBOUR: 'it returns false'. Refute it at one input. -/
def congGrowsWrong : ChangeSpec := { name := "congGrows", fn := fun _ => fun
  | [d1, d2, d3] => { results := [.lit (.bool false)], args := [d1, d2, d3] }
  | _ => none }
def CongGrowsWrongFalsely : Prop := congGrowsRow.holds Try.pinned (OpenSpec.ofChange congGrowsWrong)

/-- 'towropelaw33.AuditChecks': WHATEVER THE INPUT: true; the input reads as it did. -/
def auditChecksSpec : ChangeSpec := { name := "auditChecks", fn := fun _ => fun
  | [d] => { results := [.lit (.bool true)], args := [d] }
  | _ => none }
def auditChecksRow : OpenClaim := { program := "ytlgdagjbphafcaa", sum := "ead5098625011eaf707121d13f3b8a5b9d004e69ea36bfcb31372206ae61a3b6", func := "towrope/towropelaw33.AuditChecks", spec := "auditChecks", plainKeys := false, apart := false }
def AuditChecksSaid : Prop := auditChecksRow.holds Try.pinned (OpenSpec.ofChange auditChecksSpec)

/-- ITS FALSE NEIGHBOUR: 'it returns false'. Refute it at one input. -/
def auditChecksWrong : ChangeSpec := { name := "auditChecks", fn := fun _ => fun
  | [d] => { results := [.lit (.bool false)], args := [d] }
  | _ => none }
def AuditChecksWrongFalsely : Prop := auditChecksRow.holds Try.pinned (OpenSpec.ofChange auditChecksWrong)

/-- 'towropelaw28.ChainHard': WHATEVER THE INPUT: true; the input reads as it did. -/
def chainHardSpec : ChangeSpec := { name := "chainHard", fn := fun _ => fun
  | [d1, d2] => { results := [.lit (.bool true)], args := [d1, d2] }
  | _ => none }
def chainHardRow : OpenClaim := { program := "ytlgdagjbphafcaa", sum := "ead5098625011eaf707121d13f3b8a5b9d004e69ea36bfcb31372206ae61a3b6", func := "towrope/towropelaw28.ChainHard", spec := "chainHard", unfollowed := true, recurses := true, plainKeys := false, apart := false }
def ChainHardSaid : Prop := chainHardRow.holds Try.pinned (OpenSpec.ofChange chainHardSpec)

/-- ITS FALSE NEIGHBOUR: 'it returns false'. Refute it at one input. -/
def chainHardWrong : ChangeSpec := { name := "chainHard", fn := fun _ => fun
  | [d1, d2] => { results := [.lit (.bool false)], args := [d1, d2] }
  | _ => none }
def ChainHardWrongFalsely : Prop := chainHardRow.holds Try.pinned (OpenSpec.ofChange chainHardWrong)

/-- 'towropelaw28.ChainOnce': WHATEVER THE INPUT: true; the input reads as it did. -/
def chainOnceSpec : ChangeSpec := { name := "chainOnce", fn := fun _ => fun
  | [d1, d2, d3] => { results := [.lit (.bool true)], args := [d1, d2, d3] }
  | _ => none }
def chainOnceRow : OpenClaim := { program := "ytlgdagjbphafcaa", sum := "ead5098625011eaf707121d13f3b8a5b9d004e69ea36bfcb31372206ae61a3b6", func := "towrope/towropelaw28.ChainOnce", spec := "chainOnce", unfollowed := true, recurses := true, plainKeys := false, apart := false }
def ChainOnceSaid : Prop := chainOnceRow.holds Try.pinned (OpenSpec.ofChange chainOnceSpec)

/-- ITS FALSE NEIGHBOUR: 'it returns false'. Refute it at one input. -/
def chainOnceWrong : ChangeSpec := { name := "chainOnce", fn := fun _ => fun
  | [d1, d2, d3] => { results := [.lit (.bool false)], args := [d1, d2, d3] }
  | _ => none }
def ChainOnceWrongFalsely : Prop := chainOnceRow.holds Try.pinned (OpenSpec.ofChange chainOnceWrong)

/-- 'towropelaw19.UdpPlays': WHATEVER THE INPUT: true; the input reads as it did. -/
def udpPlaysSpec : ChangeSpec := { name := "udpPlays", fn := fun _ => fun
  | [d1, d2, d3] => { results := [.lit (.bool true)], args := [d1, d2, d3] }
  | _ => none }
def udpPlaysRow : OpenClaim := { program := "ytlgdagjbphafcaa", sum := "ead5098625011eaf707121d13f3b8a5b9d004e69ea36bfcb31372206ae61a3b6", func := "towrope/towropelaw19.UdpPlays", spec := "udpPlays", unfollowed := true, recurses := true, plainKeys := false, apart := false }
def UdpPlaysSaid : Prop := udpPlaysRow.holds Try.pinned (OpenSpec.ofChange udpPlaysSpec)

/-- ITS FALSE NEIGHBOUR: 'it returns false'. Refute it at one input. -/
def udpPlaysWrong : ChangeSpec := { name := "udpPlays", fn := fun _ => fun
  | [d1, d2, d3] => { results := [.lit (.bool false)], args := [d1, d2, d3] }
  | _ => none }
def UdpPlaysWrongFalsely : Prop := udpPlaysRow.holds Try.pinned (OpenSpec.ofChange udpPlaysWrong)

/-- 'towropelaw19.UdpNils': WHATEVER THE INPUT: true; the input reads as it did. -/
def udpNilsSpec : ChangeSpec := { name := "udpNils", fn := fun _ => fun
  | [d] => { results := [.lit (.bool true)], args := [d] }
  | _ => none }
def udpNilsRow : OpenClaim := { program := "ytlgdagjbphafcaa", sum := "ead5098625011eaf707121d13f3b8a5b9d004e69ea36bfcb31372206ae61a3b6", func := "towrope/towropelaw19.UdpNils", spec := "udpNils", unfollowed := true, recurses := true, plainKeys := false, apart := false }
def UdpNilsSaid : Prop := udpNilsRow.holds Try.pinned (OpenSpec.ofChange udpNilsSpec)

/-- ITS FALSE NEIGHBOUR: 'it returns false'. Refute it at one input. -/
def udpNilsWrong : ChangeSpec := { name := "udpNils", fn := fun _ => fun
  | [d] => { results := [.lit (.bool false)], args := [d] }
  | _ => none }
def UdpNilsWrongFalsely : Prop := udpNilsRow.holds Try.pinned (OpenSpec.ofChange udpNilsWrong)

/-- 'towropelaw32.ScriptDecodes': WHATEVER THE INPUT: true; the input reads as it did. -/
def scriptDecodesSpec : ChangeSpec := { name := "scriptDecodes", fn := fun _ => fun
  | [d] => { results := [.lit (.bool true)], args := [d] }
  | _ => none }
def scriptDecodesRow : OpenClaim := { program := "ytlgdagjbphafcaa", sum := "ead5098625011eaf707121d13f3b8a5b9d004e69ea36bfcb31372206ae61a3b6", func := "towrope/towropelaw32.ScriptDecodes", spec := "scriptDecodes", unfollowed := true, recurses := true, plainKeys := false, apart := false }
def ScriptDecodesSaid : Prop := scriptDecodesRow.holds Try.pinned (OpenSpec.ofChange scriptDecodesSpec)

/-- ITS FALSE NEIGHBOUR: 'it returns false'. Refute it at one input. -/
def scriptDecodesWrong : ChangeSpec := { name := "scriptDecodes", fn := fun _ => fun
  | [d] => { results := [.lit (.bool false)], args := [d] }
  | _ => none }
def ScriptDecodesWrongFalsely : Prop := scriptDecodesRow.holds Try.pinned (OpenSpec.ofChange scriptDecodesWrong)

/-- 'towropelaw32.ScriptRight': WHATEVER THE INPUT: true; the input reads as it did. -/
def scriptRightSpec : ChangeSpec := { name := "scriptRight", fn := fun _ => fun
  | [d] => { results := [.lit (.bool true)], args := [d] }
  | _ => none }
def scriptRightRow : OpenClaim := { program := "ytlgdagjbphafcaa", sum := "ead5098625011eaf707121d13f3b8a5b9d004e69ea36bfcb31372206ae61a3b6", func := "towrope/towropelaw32.ScriptRight", spec := "scriptRight", unfollowed := true, recurses := true, plainKeys := false, apart := false }
def ScriptRightSaid : Prop := scriptRightRow.holds Try.pinned (OpenSpec.ofChange scriptRightSpec)

/-- ITS FALSE NEIGHBOUR: 'it returns false'. Refute it at one input. -/
def scriptRightWrong : ChangeSpec := { name := "scriptRight", fn := fun _ => fun
  | [d] => { results := [.lit (.bool false)], args := [d] }
  | _ => none }
def ScriptRightWrongFalsely : Prop := scriptRightRow.holds Try.pinned (OpenSpec.ofChange scriptRightWrong)

/-- 'towropelaw28.ChainPlays': WHATEVER THE INPUT: true; the input reads as it did. -/
def chainPlaysSpec : ChangeSpec := { name := "chainPlays", fn := fun _ => fun
  | [d] => { results := [.lit (.bool true)], args := [d] }
  | _ => none }
def chainPlaysRow : OpenClaim := { program := "ytlgdagjbphafcaa", sum := "ead5098625011eaf707121d13f3b8a5b9d004e69ea36bfcb31372206ae61a3b6", func := "towrope/towropelaw28.ChainPlays", spec := "chainPlays", unfollowed := true, recurses := true, plainKeys := false, apart := false }
def ChainPlaysSaid : Prop := chainPlaysRow.holds Try.pinned (OpenSpec.ofChange chainPlaysSpec)

/-- ITS FALSE NEIGHBOUR: 'it returns false'. Refute it at one input. -/
def chainPlaysWrong : ChangeSpec := { name := "chainPlays", fn := fun _ => fun
  | [d] => { results := [.lit (.bool false)], args := [d] }
  | _ => none }
def ChainPlaysWrongFalsely : Prop := chainPlaysRow.holds Try.pinned (OpenSpec.ofChange chainPlaysWrong)

/-- 'towropelaw28.ChainNils': WHATEVER THE INPUT: true; the input reads as it did. -/
def chainNilsSpec : ChangeSpec := { name := "chainNils", fn := fun _ => fun
  | [d] => { results := [.lit (.bool true)], args := [d] }
  | _ => none }
def chainNilsRow : OpenClaim := { program := "ytlgdagjbphafcaa", sum := "ead5098625011eaf707121d13f3b8a5b9d004e69ea36bfcb31372206ae61a3b6", func := "towrope/towropelaw28.ChainNils", spec := "chainNils", unfollowed := true, recurses := true, plainKeys := false, apart := false }
def ChainNilsSaid : Prop := chainNilsRow.holds Try.pinned (OpenSpec.ofChange chainNilsSpec)

/-- ITS FALSE NEIGHBOUR: 'it returns false'. Refute it at one input. -/
def chainNilsWrong : ChangeSpec := { name := "chainNils", fn := fun _ => fun
  | [d] => { results := [.lit (.bool false)], args := [d] }
  | _ => none }
def ChainNilsWrongFalsely : Prop := chainNilsRow.holds Try.pinned (OpenSpec.ofChange chainNilsWrong)

/- THE SECOND FORM. 'bulk': how many values and letters a reading holds, each counted each time it is reached (what is shared counts as often as it is met; a slice's spare places count too). A statement '..UptoSaid' is the law's where the arguments, and the package variables that the reading takes, are together of bulk at most 1048576: NARROWER than '..Said'. Prove '..Said' where nothing that the law and all that it calls make is longer than what came in: it says more and counts as full. Else prove '..UptoSaid'. A law counts once. -/
mutual
def uptoBulk {H : Type} : DataW H → Nat
  | .lit (.string bytes) => bytes.length + 1
  | .lit _ => 1
  | .nil => 1
  | .ptr d => uptoBulk d + 1
  | .slice elems spare => uptoBulkAll elems + uptoBulkAll spare + 1
  | .agg parts => uptoBulkAll parts + 1
  | .iface _ d => uptoBulk d + 1
  | .map entries => uptoBulkEntries entries + 1
  | .held _ => 1
def uptoBulkAll {H : Type} : List (DataW H) → Nat
  | [] => 0
  | d :: r => uptoBulk d + uptoBulkAll r
def uptoBulkEntries {H : Type} : List (Lit × DataW H) → Nat
  | [] => 0
  | x :: r => uptoBulkEntry x + uptoBulkEntries r
def uptoBulkEntry {H : Type} : Lit × DataW H → Nat
  | (.string bytes, d) => bytes.length + uptoBulk d + 1
  | (_, d) => uptoBulk d + 1
 end
def uptoSmall : (H : Type) → List (DataW H) → Bool := fun _ ds => decide (uptoBulkAll ds ≤ 1048576)
def OpenSpec.upto (s : _root_.Go.ChangeSpec) : _root_.Go.OpenSpec := { _root_.Go.OpenSpec.ofChange s with cond := some uptoSmall }

/-- 'towropelaw19.UdpOrder', WHERE WHAT IT READS IS OF BULK AT MOST 1048576: true; the input reads as it did. -/
def udpOrderUptoRow : OpenClaim := { program := "ytlgdagjbphafcaa", sum := "ead5098625011eaf707121d13f3b8a5b9d004e69ea36bfcb31372206ae61a3b6", func := "towrope/towropelaw19.UdpOrder", spec := "udpOrder", plainKeys := false, apart := false, narrowed := true }
def UdpOrderUptoSaid : Prop := udpOrderUptoRow.holds Try.pinned (OpenSpec.upto udpOrderSpec)

/-- 'towropelaw21.CongPlays', WHERE WHAT IT READS IS OF BULK AT MOST 1048576: true; the input reads as it did. -/
def congPlaysUptoRow : OpenClaim := { program := "ytlgdagjbphafcaa", sum := "ead5098625011eaf707121d13f3b8a5b9d004e69ea36bfcb31372206ae61a3b6", func := "towrope/towropelaw21.CongPlays", spec := "congPlays", plainKeys := false, apart := false, narrowed := true }
def CongPlaysUptoSaid : Prop := congPlaysUptoRow.holds Try.pinned (OpenSpec.upto congPlaysSpec)

/-- 'towropelaw21.CongGrows', WHERE WHAT IT READS IS OF BULK AT MOST 1048576: true; the input reads as it did. -/
def congGrowsUptoRow : OpenClaim := { program := "ytlgdagjbphafcaa", sum := "ead5098625011eaf707121d13f3b8a5b9d004e69ea36bfcb31372206ae61a3b6", func := "towrope/towropelaw21.CongGrows", spec := "congGrows", plainKeys := false, apart := false, narrowed := true }
def CongGrowsUptoSaid : Prop := congGrowsUptoRow.holds Try.pinned (OpenSpec.upto congGrowsSpec)

/-- 'towropelaw33.AuditChecks', WHERE WHAT IT READS IS OF BULK AT MOST 1048576: true; the input reads as it did. -/
def auditChecksUptoRow : OpenClaim := { program := "ytlgdagjbphafcaa", sum := "ead5098625011eaf707121d13f3b8a5b9d004e69ea36bfcb31372206ae61a3b6", func := "towrope/towropelaw33.AuditChecks", spec := "auditChecks", plainKeys := false, apart := false, narrowed := true }
def AuditChecksUptoSaid : Prop := auditChecksUptoRow.holds Try.pinned (OpenSpec.upto auditChecksSpec)

/-- 'towropelaw28.ChainHard', WHERE WHAT IT READS IS OF BULK AT MOST 1048576: true; the input reads as it did. -/
def chainHardUptoRow : OpenClaim := { program := "ytlgdagjbphafcaa", sum := "ead5098625011eaf707121d13f3b8a5b9d004e69ea36bfcb31372206ae61a3b6", func := "towrope/towropelaw28.ChainHard", spec := "chainHard", unfollowed := true, recurses := true, plainKeys := false, apart := false, narrowed := true }
def ChainHardUptoSaid : Prop := chainHardUptoRow.holds Try.pinned (OpenSpec.upto chainHardSpec)

/-- 'towropelaw28.ChainOnce', WHERE WHAT IT READS IS OF BULK AT MOST 1048576: true; the input reads as it did. -/
def chainOnceUptoRow : OpenClaim := { program := "ytlgdagjbphafcaa", sum := "ead5098625011eaf707121d13f3b8a5b9d004e69ea36bfcb31372206ae61a3b6", func := "towrope/towropelaw28.ChainOnce", spec := "chainOnce", unfollowed := true, recurses := true, plainKeys := false, apart := false, narrowed := true }
def ChainOnceUptoSaid : Prop := chainOnceUptoRow.holds Try.pinned (OpenSpec.upto chainOnceSpec)

/-- 'towropelaw19.UdpPlays', WHERE WHAT IT READS IS OF BULK AT MOST 1048576: true; the input reads as it did. -/
def udpPlaysUptoRow : OpenClaim := { program := "ytlgdagjbphafcaa", sum := "ead5098625011eaf707121d13f3b8a5b9d004e69ea36bfcb31372206ae61a3b6", func := "towrope/towropelaw19.UdpPlays", spec := "udpPlays", unfollowed := true, recurses := true, plainKeys := false, apart := false, narrowed := true }
def UdpPlaysUptoSaid : Prop := udpPlaysUptoRow.holds Try.pinned (OpenSpec.upto udpPlaysSpec)

/-- 'towropelaw19.UdpNils', WHERE WHAT IT READS IS OF BULK AT MOST 1048576: true; the input reads as it did. -/
def udpNilsUptoRow : OpenClaim := { program := "ytlgdagjbphafcaa", sum := "ead5098625011eaf707121d13f3b8a5b9d004e69ea36bfcb31372206ae61a3b6", func := "towrope/towropelaw19.UdpNils", spec := "udpNils", unfollowed := true, recurses := true, plainKeys := false, apart := false, narrowed := true }
def UdpNilsUptoSaid : Prop := udpNilsUptoRow.holds Try.pinned (OpenSpec.upto udpNilsSpec)

/-- 'towropelaw32.ScriptDecodes', WHERE WHAT IT READS IS OF BULK AT MOST 1048576: true; the input reads as it did. -/
def scriptDecodesUptoRow : OpenClaim := { program := "ytlgdagjbphafcaa", sum := "ead5098625011eaf707121d13f3b8a5b9d004e69ea36bfcb31372206ae61a3b6", func := "towrope/towropelaw32.ScriptDecodes", spec := "scriptDecodes", unfollowed := true, recurses := true, plainKeys := false, apart := false, narrowed := true }
def ScriptDecodesUptoSaid : Prop := scriptDecodesUptoRow.holds Try.pinned (OpenSpec.upto scriptDecodesSpec)

/-- 'towropelaw32.ScriptRight', WHERE WHAT IT READS IS OF BULK AT MOST 1048576: true; the input reads as it did. -/
def scriptRightUptoRow : OpenClaim := { program := "ytlgdagjbphafcaa", sum := "ead5098625011eaf707121d13f3b8a5b9d004e69ea36bfcb31372206ae61a3b6", func := "towrope/towropelaw32.ScriptRight", spec := "scriptRight", unfollowed := true, recurses := true, plainKeys := false, apart := false, narrowed := true }
def ScriptRightUptoSaid : Prop := scriptRightUptoRow.holds Try.pinned (OpenSpec.upto scriptRightSpec)

/-- 'towropelaw28.ChainPlays', WHERE WHAT IT READS IS OF BULK AT MOST 1048576: true; the input reads as it did. -/
def chainPlaysUptoRow : OpenClaim := { program := "ytlgdagjbphafcaa", sum := "ead5098625011eaf707121d13f3b8a5b9d004e69ea36bfcb31372206ae61a3b6", func := "towrope/towropelaw28.ChainPlays", spec := "chainPlays", unfollowed := true, recurses := true, plainKeys := false, apart := false, narrowed := true }
def ChainPlaysUptoSaid : Prop := chainPlaysUptoRow.holds Try.pinned (OpenSpec.upto chainPlaysSpec)

/-- 'towropelaw28.ChainNils', WHERE WHAT IT READS IS OF BULK AT MOST 1048576: true; the input reads as it did. -/
def chainNilsUptoRow : OpenClaim := { program := "ytlgdagjbphafcaa", sum := "ead5098625011eaf707121d13f3b8a5b9d004e69ea36bfcb31372206ae61a3b6", func := "towrope/towropelaw28.ChainNils", spec := "chainNils", unfollowed := true, recurses := true, plainKeys := false, apart := false, narrowed := true }
def ChainNilsUptoSaid : Prop := chainNilsUptoRow.holds Try.pinned (OpenSpec.upto chainNilsSpec)

end Rows
end Go.Proofs.Ytlgdagjbphafcaa
