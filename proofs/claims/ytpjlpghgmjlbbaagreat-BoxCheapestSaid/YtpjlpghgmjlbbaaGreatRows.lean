/-
  No cell of these rows narrows 'for every input' (looked for: loops, veiled, ifaces, maps, wideKeys, modest, calm, conditions, laid).
  DERIVED. THE GIVEN ROWS OF THIS SEAT. 10 by the template 'for every input the law returns true; each argument reads behind the call as it read before'; 0 by the template 'total and deterministic' (their statements: YtpjlpghgmjlbbaaGreatTotals.lean).
  GIVEN WITH THE SEED: the statements are not yours to turn. If you find one false, say at which input.
  Laid BY PROGRAM, IN A SANDBOX (cutbox-rows.mjs): the forced cells as the released guide's own fill.sh prints them over the translation bd9c5f57a9a00262… (all of the seat's roots in one cut). By AI agents, Wed Nov 11 2026. No macro, syntax, notation, axiom, sorry.
-/
import Derived.Test.YtpjlpghgmjlbbaaGreatChecked
import GoSem.Claim
import GoSem.ClaimJoined
import GoSem.ClaimMapViews
import Derived.JoinedTies
import Derived.KernelRfl
namespace Go.Proofs.YtpjlpghgmjlbbaaGreat
/- THE CELL 'sum', in the pinned program and in every row, IS THE sha256 OF THE DUMP (.gsa) THAT YtpjlpghgmjlbbaaGreatProg.lean LOADS. Nothing in Lean hashes anything: it is a label: what it is worth is what the hold of that sum in a sandbox is worth. -/
noncomputable def Tryz.pinned : Pinned := { name := "ytpjlpghgmjlbbaagreat", sum := "bd9c5f57a9a00262cab30571097328cd74819b6204eae8096f9e92faad381e6e", checked := Tryz.checked }
namespace Rows
def none {H : Type} : Left H := { results := [], args := [] }

/-- 'studworklaw08.BoxSums': WHATEVER THE INPUT: true; the input reads as it did. -/
def boxSumsSpec : ChangeSpec := { name := "boxSums", fn := fun _ => fun
  | [d1, d2] => { results := [.lit (.bool true)], args := [d1, d2] }
  | _ => none }
def boxSumsRow : OpenClaim := { program := "ytpjlpghgmjlbbaagreat", sum := "bd9c5f57a9a00262cab30571097328cd74819b6204eae8096f9e92faad381e6e", func := "studwork/studworklaw08.BoxSums", spec := "boxSums", unfollowed := true, recurses := true, plainKeys := false, apart := false }
def BoxSumsSaid : Prop := boxSumsRow.holds Tryz.pinned (OpenSpec.ofChange boxSumsSpec)

/-- ITS FALSE NEIGHBOUR: 'it returns false'. Refute it at one input. -/
def boxSumsWrong : ChangeSpec := { name := "boxSums", fn := fun _ => fun
  | [d1, d2] => { results := [.lit (.bool false)], args := [d1, d2] }
  | _ => none }
def BoxSumsWrongFalsely : Prop := boxSumsRow.holds Tryz.pinned (OpenSpec.ofChange boxSumsWrong)

/-- 'studworklaw08.BoxShort': WHATEVER THE INPUT: true; the input reads as it did. -/
def boxShortSpec : ChangeSpec := { name := "boxShort", fn := fun _ => fun
  | [d1, d2, d3] => { results := [.lit (.bool true)], args := [d1, d2, d3] }
  | _ => none }
def boxShortRow : OpenClaim := { program := "ytpjlpghgmjlbbaagreat", sum := "bd9c5f57a9a00262cab30571097328cd74819b6204eae8096f9e92faad381e6e", func := "studwork/studworklaw08.BoxShort", spec := "boxShort", unfollowed := true, recurses := true, plainKeys := false, apart := false }
def BoxShortSaid : Prop := boxShortRow.holds Tryz.pinned (OpenSpec.ofChange boxShortSpec)

/-- ITS FALSE NEIGHBOUR: 'it returns false'. Refute it at one input. -/
def boxShortWrong : ChangeSpec := { name := "boxShort", fn := fun _ => fun
  | [d1, d2, d3] => { results := [.lit (.bool false)], args := [d1, d2, d3] }
  | _ => none }
def BoxShortWrongFalsely : Prop := boxShortRow.holds Tryz.pinned (OpenSpec.ofChange boxShortWrong)

/-- 'studworklaw08.BoxCheapest': WHATEVER THE INPUT: true; the input reads as it did. -/
def boxCheapestSpec : ChangeSpec := { name := "boxCheapest", fn := fun _ => fun
  | [d1, d2, d3, d4, d5] => { results := [.lit (.bool true)], args := [d1, d2, d3, d4, d5] }
  | _ => none }
def boxCheapestRow : OpenClaim := { program := "ytpjlpghgmjlbbaagreat", sum := "bd9c5f57a9a00262cab30571097328cd74819b6204eae8096f9e92faad381e6e", func := "studwork/studworklaw08.BoxCheapest", spec := "boxCheapest", unfollowed := true, recurses := true, plainKeys := false, apart := false }
def BoxCheapestSaid : Prop := boxCheapestRow.holds Tryz.pinned (OpenSpec.ofChange boxCheapestSpec)

/-- ITS FALSE NEIGHBOUR: 'it returns false'. Refute it at one input. -/
def boxCheapestWrong : ChangeSpec := { name := "boxCheapest", fn := fun _ => fun
  | [d1, d2, d3, d4, d5] => { results := [.lit (.bool false)], args := [d1, d2, d3, d4, d5] }
  | _ => none }
def BoxCheapestWrongFalsely : Prop := boxCheapestRow.holds Tryz.pinned (OpenSpec.ofChange boxCheapestWrong)

/-- 'studworklaw08.BoxChosen': WHATEVER THE INPUT: true; the input reads as it did. -/
def boxChosenSpec : ChangeSpec := { name := "boxChosen", fn := fun _ => fun
  | [d1, d2, d3, d4] => { results := [.lit (.bool true)], args := [d1, d2, d3, d4] }
  | _ => none }
def boxChosenRow : OpenClaim := { program := "ytpjlpghgmjlbbaagreat", sum := "bd9c5f57a9a00262cab30571097328cd74819b6204eae8096f9e92faad381e6e", func := "studwork/studworklaw08.BoxChosen", spec := "boxChosen", unfollowed := true, recurses := true, plainKeys := false, apart := false }
def BoxChosenSaid : Prop := boxChosenRow.holds Tryz.pinned (OpenSpec.ofChange boxChosenSpec)

/-- ITS FALSE NEIGHBOUR: 'it returns false'. Refute it at one input. -/
def boxChosenWrong : ChangeSpec := { name := "boxChosen", fn := fun _ => fun
  | [d1, d2, d3, d4] => { results := [.lit (.bool false)], args := [d1, d2, d3, d4] }
  | _ => none }
def BoxChosenWrongFalsely : Prop := boxChosenRow.holds Tryz.pinned (OpenSpec.ofChange boxChosenWrong)

/-- 'studworklaw08.BoxProved': WHATEVER THE INPUT: true; the input reads as it did. -/
def boxProvedSpec : ChangeSpec := { name := "boxProved", fn := fun _ => fun
  | [d1, d2, d3, d4] => { results := [.lit (.bool true)], args := [d1, d2, d3, d4] }
  | _ => none }
def boxProvedRow : OpenClaim := { program := "ytpjlpghgmjlbbaagreat", sum := "bd9c5f57a9a00262cab30571097328cd74819b6204eae8096f9e92faad381e6e", func := "studwork/studworklaw08.BoxProved", spec := "boxProved", unfollowed := true, recurses := true, plainKeys := false, apart := false }
def BoxProvedSaid : Prop := boxProvedRow.holds Tryz.pinned (OpenSpec.ofChange boxProvedSpec)

/-- ITS FALSE NEIGHBOUR: 'it returns false'. Refute it at one input. -/
def boxProvedWrong : ChangeSpec := { name := "boxProved", fn := fun _ => fun
  | [d1, d2, d3, d4] => { results := [.lit (.bool false)], args := [d1, d2, d3, d4] }
  | _ => none }
def BoxProvedWrongFalsely : Prop := boxProvedRow.holds Tryz.pinned (OpenSpec.ofChange boxProvedWrong)

/-- 'studworklaw08.BoxShared': WHATEVER THE INPUT: true; the input reads as it did. -/
def boxSharedSpec : ChangeSpec := { name := "boxShared", fn := fun _ => fun
  | [d1, d2, d3, d4] => { results := [.lit (.bool true)], args := [d1, d2, d3, d4] }
  | _ => none }
def boxSharedRow : OpenClaim := { program := "ytpjlpghgmjlbbaagreat", sum := "bd9c5f57a9a00262cab30571097328cd74819b6204eae8096f9e92faad381e6e", func := "studwork/studworklaw08.BoxShared", spec := "boxShared", unfollowed := true, recurses := true, plainKeys := false, apart := false }
def BoxSharedSaid : Prop := boxSharedRow.holds Tryz.pinned (OpenSpec.ofChange boxSharedSpec)

/-- ITS FALSE NEIGHBOUR: 'it returns false'. Refute it at one input. -/
def boxSharedWrong : ChangeSpec := { name := "boxShared", fn := fun _ => fun
  | [d1, d2, d3, d4] => { results := [.lit (.bool false)], args := [d1, d2, d3, d4] }
  | _ => none }
def BoxSharedWrongFalsely : Prop := boxSharedRow.holds Tryz.pinned (OpenSpec.ofChange boxSharedWrong)

/-- 'studworklaw08.BoxCore': WHATEVER THE INPUT: true; the input reads as it did. -/
def boxCoreSpec : ChangeSpec := { name := "boxCore", fn := fun _ => fun
  | [d1, d2] => { results := [.lit (.bool true)], args := [d1, d2] }
  | _ => none }
def boxCoreRow : OpenClaim := { program := "ytpjlpghgmjlbbaagreat", sum := "bd9c5f57a9a00262cab30571097328cd74819b6204eae8096f9e92faad381e6e", func := "studwork/studworklaw08.BoxCore", spec := "boxCore", unfollowed := true, recurses := true, plainKeys := false, apart := false }
def BoxCoreSaid : Prop := boxCoreRow.holds Tryz.pinned (OpenSpec.ofChange boxCoreSpec)

/-- ITS FALSE NEIGHBOUR: 'it returns false'. Refute it at one input. -/
def boxCoreWrong : ChangeSpec := { name := "boxCore", fn := fun _ => fun
  | [d1, d2] => { results := [.lit (.bool false)], args := [d1, d2] }
  | _ => none }
def BoxCoreWrongFalsely : Prop := boxCoreRow.holds Tryz.pinned (OpenSpec.ofChange boxCoreWrong)

/-- 'studworklaw08.BoxGroups': WHATEVER THE INPUT: true; the input reads as it did. -/
def boxGroupsSpec : ChangeSpec := { name := "boxGroups", fn := fun _ => fun
  | [d1, d2, d3, d4] => { results := [.lit (.bool true)], args := [d1, d2, d3, d4] }
  | _ => none }
def boxGroupsRow : OpenClaim := { program := "ytpjlpghgmjlbbaagreat", sum := "bd9c5f57a9a00262cab30571097328cd74819b6204eae8096f9e92faad381e6e", func := "studwork/studworklaw08.BoxGroups", spec := "boxGroups", unfollowed := true, recurses := true, plainKeys := false, apart := false }
def BoxGroupsSaid : Prop := boxGroupsRow.holds Tryz.pinned (OpenSpec.ofChange boxGroupsSpec)

/-- ITS FALSE NEIGHBOUR: 'it returns false'. Refute it at one input. -/
def boxGroupsWrong : ChangeSpec := { name := "boxGroups", fn := fun _ => fun
  | [d1, d2, d3, d4] => { results := [.lit (.bool false)], args := [d1, d2, d3, d4] }
  | _ => none }
def BoxGroupsWrongFalsely : Prop := boxGroupsRow.holds Tryz.pinned (OpenSpec.ofChange boxGroupsWrong)

/-- 'studworklaw08.BoxUsed': WHATEVER THE INPUT: true; the input reads as it did. -/
def boxUsedSpec : ChangeSpec := { name := "boxUsed", fn := fun _ => fun
  | [d1, d2, d3, d4, d5] => { results := [.lit (.bool true)], args := [d1, d2, d3, d4, d5] }
  | _ => none }
def boxUsedRow : OpenClaim := { program := "ytpjlpghgmjlbbaagreat", sum := "bd9c5f57a9a00262cab30571097328cd74819b6204eae8096f9e92faad381e6e", func := "studwork/studworklaw08.BoxUsed", spec := "boxUsed", unfollowed := true, recurses := true, plainKeys := false, apart := false }
def BoxUsedSaid : Prop := boxUsedRow.holds Tryz.pinned (OpenSpec.ofChange boxUsedSpec)

/-- ITS FALSE NEIGHBOUR: 'it returns false'. Refute it at one input. -/
def boxUsedWrong : ChangeSpec := { name := "boxUsed", fn := fun _ => fun
  | [d1, d2, d3, d4, d5] => { results := [.lit (.bool false)], args := [d1, d2, d3, d4, d5] }
  | _ => none }
def BoxUsedWrongFalsely : Prop := boxUsedRow.holds Tryz.pinned (OpenSpec.ofChange boxUsedWrong)

/-- 'studworklaw08.BoxExamples': WHATEVER THE INPUT: true; the input reads as it did. -/
def boxExamplesSpec : ChangeSpec := { name := "boxExamples", fn := fun _ => fun
  | [] => { results := [.lit (.bool true)], args := [] }
  | _ => none }
def boxExamplesRow : OpenClaim := { program := "ytpjlpghgmjlbbaagreat", sum := "bd9c5f57a9a00262cab30571097328cd74819b6204eae8096f9e92faad381e6e", func := "studwork/studworklaw08.BoxExamples", spec := "boxExamples", unfollowed := true, recurses := true, plainKeys := false, apart := false }
def BoxExamplesSaid : Prop := boxExamplesRow.holds Tryz.pinned (OpenSpec.ofChange boxExamplesSpec)

/-- ITS FALSE NEIGHBOUR: 'it returns false'. Refute it at one input. -/
def boxExamplesWrong : ChangeSpec := { name := "boxExamples", fn := fun _ => fun
  | [] => { results := [.lit (.bool false)], args := [] }
  | _ => none }
def BoxExamplesWrongFalsely : Prop := boxExamplesRow.holds Tryz.pinned (OpenSpec.ofChange boxExamplesWrong)

/- THE SECOND FORM. 'bulk': how many values and letters a reading holds, each counted each time it is reached (what is shared counts as often as it is met; a slice's spare places count too). A statement '..UptoSaid' is the law's where the arguments, and the package variables that the reading takes, are together of bulk at most 1048576: NARROWER than '..Said'. Prove '..Said' where nothing that the law and all that it calls make is longer than what came in: it says more and counts as full. Else prove '..UptoSaid'. A law counts once. -/
mutual
def uptoBulk {H : Type} : DataW H → Nat
  | .lit (.string bytes) => bytes.length + 1
  | .lit _ => 1
  | .nil => 1
  | .ptr d => uptoBulk d + 1
  | .slice elems spare => uptoBulkAll elems + uptoBulkAll spare + 1
  | .agg parts => uptoBulkAll parts + 1
  | .iface _ d => uptoBulk d + 1
  | .map entries => uptoBulkEntries entries + 1
  | .held _ => 1
def uptoBulkAll {H : Type} : List (DataW H) → Nat
  | [] => 0
  | d :: r => uptoBulk d + uptoBulkAll r
def uptoBulkEntries {H : Type} : List (Lit × DataW H) → Nat
  | [] => 0
  | x :: r => uptoBulkEntry x + uptoBulkEntries r
def uptoBulkEntry {H : Type} : Lit × DataW H → Nat
  | (.string bytes, d) => bytes.length + uptoBulk d + 1
  | (_, d) => uptoBulk d + 1
 end
def uptoSmall : (H : Type) → List (DataW H) → Bool := fun _ ds => decide (uptoBulkAll ds ≤ 1048576)
def OpenSpec.upto (s : _root_.Go.ChangeSpec) : _root_.Go.OpenSpec := { _root_.Go.OpenSpec.ofChange s with cond := some uptoSmall }

/-- 'studworklaw08.BoxSums', WHERE WHAT IT READS IS OF BULK AT MOST 1048576: true; the input reads as it did. -/
def boxSumsUptoRow : OpenClaim := { program := "ytpjlpghgmjlbbaagreat", sum := "bd9c5f57a9a00262cab30571097328cd74819b6204eae8096f9e92faad381e6e", func := "studwork/studworklaw08.BoxSums", spec := "boxSums", unfollowed := true, recurses := true, plainKeys := false, apart := false, narrowed := true }
def BoxSumsUptoSaid : Prop := boxSumsUptoRow.holds Tryz.pinned (OpenSpec.upto boxSumsSpec)

/-- 'studworklaw08.BoxShort', WHERE WHAT IT READS IS OF BULK AT MOST 1048576: true; the input reads as it did. -/
def boxShortUptoRow : OpenClaim := { program := "ytpjlpghgmjlbbaagreat", sum := "bd9c5f57a9a00262cab30571097328cd74819b6204eae8096f9e92faad381e6e", func := "studwork/studworklaw08.BoxShort", spec := "boxShort", unfollowed := true, recurses := true, plainKeys := false, apart := false, narrowed := true }
def BoxShortUptoSaid : Prop := boxShortUptoRow.holds Tryz.pinned (OpenSpec.upto boxShortSpec)

/-- 'studworklaw08.BoxCheapest', WHERE WHAT IT READS IS OF BULK AT MOST 1048576: true; the input reads as it did. -/
def boxCheapestUptoRow : OpenClaim := { program := "ytpjlpghgmjlbbaagreat", sum := "bd9c5f57a9a00262cab30571097328cd74819b6204eae8096f9e92faad381e6e", func := "studwork/studworklaw08.BoxCheapest", spec := "boxCheapest", unfollowed := true, recurses := true, plainKeys := false, apart := false, narrowed := true }
def BoxCheapestUptoSaid : Prop := boxCheapestUptoRow.holds Tryz.pinned (OpenSpec.upto boxCheapestSpec)

/-- 'studworklaw08.BoxChosen', WHERE WHAT IT READS IS OF BULK AT MOST 1048576: true; the input reads as it did. -/
def boxChosenUptoRow : OpenClaim := { program := "ytpjlpghgmjlbbaagreat", sum := "bd9c5f57a9a00262cab30571097328cd74819b6204eae8096f9e92faad381e6e", func := "studwork/studworklaw08.BoxChosen", spec := "boxChosen", unfollowed := true, recurses := true, plainKeys := false, apart := false, narrowed := true }
def BoxChosenUptoSaid : Prop := boxChosenUptoRow.holds Tryz.pinned (OpenSpec.upto boxChosenSpec)

/-- 'studworklaw08.BoxProved', WHERE WHAT IT READS IS OF BULK AT MOST 1048576: true; the input reads as it did. -/
def boxProvedUptoRow : OpenClaim := { program := "ytpjlpghgmjlbbaagreat", sum := "bd9c5f57a9a00262cab30571097328cd74819b6204eae8096f9e92faad381e6e", func := "studwork/studworklaw08.BoxProved", spec := "boxProved", unfollowed := true, recurses := true, plainKeys := false, apart := false, narrowed := true }
def BoxProvedUptoSaid : Prop := boxProvedUptoRow.holds Tryz.pinned (OpenSpec.upto boxProvedSpec)

/-- 'studworklaw08.BoxShared', WHERE WHAT IT READS IS OF BULK AT MOST 1048576: true; the input reads as it did. -/
def boxSharedUptoRow : OpenClaim := { program := "ytpjlpghgmjlbbaagreat", sum := "bd9c5f57a9a00262cab30571097328cd74819b6204eae8096f9e92faad381e6e", func := "studwork/studworklaw08.BoxShared", spec := "boxShared", unfollowed := true, recurses := true, plainKeys := false, apart := false, narrowed := true }
def BoxSharedUptoSaid : Prop := boxSharedUptoRow.holds Tryz.pinned (OpenSpec.upto boxSharedSpec)

/-- 'studworklaw08.BoxCore', WHERE WHAT IT READS IS OF BULK AT MOST 1048576: true; the input reads as it did. -/
def boxCoreUptoRow : OpenClaim := { program := "ytpjlpghgmjlbbaagreat", sum := "bd9c5f57a9a00262cab30571097328cd74819b6204eae8096f9e92faad381e6e", func := "studwork/studworklaw08.BoxCore", spec := "boxCore", unfollowed := true, recurses := true, plainKeys := false, apart := false, narrowed := true }
def BoxCoreUptoSaid : Prop := boxCoreUptoRow.holds Tryz.pinned (OpenSpec.upto boxCoreSpec)

/-- 'studworklaw08.BoxGroups', WHERE WHAT IT READS IS OF BULK AT MOST 1048576: true; the input reads as it did. -/
def boxGroupsUptoRow : OpenClaim := { program := "ytpjlpghgmjlbbaagreat", sum := "bd9c5f57a9a00262cab30571097328cd74819b6204eae8096f9e92faad381e6e", func := "studwork/studworklaw08.BoxGroups", spec := "boxGroups", unfollowed := true, recurses := true, plainKeys := false, apart := false, narrowed := true }
def BoxGroupsUptoSaid : Prop := boxGroupsUptoRow.holds Tryz.pinned (OpenSpec.upto boxGroupsSpec)

/-- 'studworklaw08.BoxUsed', WHERE WHAT IT READS IS OF BULK AT MOST 1048576: true; the input reads as it did. -/
def boxUsedUptoRow : OpenClaim := { program := "ytpjlpghgmjlbbaagreat", sum := "bd9c5f57a9a00262cab30571097328cd74819b6204eae8096f9e92faad381e6e", func := "studwork/studworklaw08.BoxUsed", spec := "boxUsed", unfollowed := true, recurses := true, plainKeys := false, apart := false, narrowed := true }
def BoxUsedUptoSaid : Prop := boxUsedUptoRow.holds Tryz.pinned (OpenSpec.upto boxUsedSpec)

/-- 'studworklaw08.BoxExamples', WHERE WHAT IT READS IS OF BULK AT MOST 1048576: true; the input reads as it did. -/
def boxExamplesUptoRow : OpenClaim := { program := "ytpjlpghgmjlbbaagreat", sum := "bd9c5f57a9a00262cab30571097328cd74819b6204eae8096f9e92faad381e6e", func := "studwork/studworklaw08.BoxExamples", spec := "boxExamples", unfollowed := true, recurses := true, plainKeys := false, apart := false, narrowed := true }
def BoxExamplesUptoSaid : Prop := boxExamplesUptoRow.holds Tryz.pinned (OpenSpec.upto boxExamplesSpec)

end Rows
end Go.Proofs.YtpjlpghgmjlbbaaGreat
