/-
  No cell of these rows narrows 'for every input' (looked for: loops, veiled, ifaces, maps, wideKeys, modest, calm, conditions, laid).
  DERIVED. THE GIVEN ROWS OF THIS SEAT. 12 by the template 'for every input the law returns true; each argument reads behind the call as it read before'; 0 by the template 'total and deterministic' (their statements: YtmcfapchpedbgaaTotals.lean).
  GIVEN WITH THE SEED: the statements are not yours to turn. If you find one false, say at which input.
  Laid BY PROGRAM, IN A SANDBOX (cutbox-rows.mjs): the forced cells as the released guide's own fill.sh prints them over the translation f570d144bc15f1a0… (all of the seat's roots in one cut). By AI agents, Wed Nov 11 2026. No macro, syntax, notation, axiom, sorry.
-/
import Derived.Test.YtmcfapchpedbgaaChecked
import GoSem.Claim
import GoSem.ClaimJoined
import GoSem.ClaimMapViews
import Derived.JoinedTies
import Derived.KernelRfl
namespace Go.Proofs.Ytmcfapchpedbgaa
/- THE CELL 'sum', in the pinned program and in every row, IS THE sha256 OF THE DUMP (.gsa) THAT YtmcfapchpedbgaaProg.lean LOADS. Nothing in Lean hashes anything: it is a label: what it is worth is what the hold of that sum in a sandbox is worth. -/
noncomputable def Try.pinned : Pinned := { name := "ytmcfapchpedbgaa", sum := "f570d144bc15f1a064c8608b075870e04c59a45845d71c33cbdd024524ff8de4", checked := Try.checked }
namespace Rows
def none {H : Type} : Left H := { results := [], args := [] }

/-- 'studworklaw09.SortChecks': WHATEVER THE INPUT: true; the input reads as it did. -/
def sortChecksSpec : ChangeSpec := { name := "sortChecks", fn := fun _ => fun
  | [d1, d2, d3] => { results := [.lit (.bool true)], args := [d1, d2, d3] }
  | _ => none }
def sortChecksRow : OpenClaim := { program := "ytmcfapchpedbgaa", sum := "f570d144bc15f1a064c8608b075870e04c59a45845d71c33cbdd024524ff8de4", func := "studwork/studworklaw09.SortChecks", spec := "sortChecks", unfollowed := true, recurses := true, apart := false }
def SortChecksSaid : Prop := sortChecksRow.holds Try.pinned (OpenSpec.ofChange sortChecksSpec)

/-- ITS FALSE NEIGHBOUR: 'it returns false'. Refute it at one input. -/
def sortChecksWrong : ChangeSpec := { name := "sortChecks", fn := fun _ => fun
  | [d1, d2, d3] => { results := [.lit (.bool false)], args := [d1, d2, d3] }
  | _ => none }
def SortChecksWrongFalsely : Prop := sortChecksRow.holds Try.pinned (OpenSpec.ofChange sortChecksWrong)

/-- 'studworklaw09.SortChances': WHATEVER THE INPUT: true; the input reads as it did. -/
def sortChancesSpec : ChangeSpec := { name := "sortChances", fn := fun _ => fun
  | [d1, d2, d3, d4, d5] => { results := [.lit (.bool true)], args := [d1, d2, d3, d4, d5] }
  | _ => none }
def sortChancesRow : OpenClaim := { program := "ytmcfapchpedbgaa", sum := "f570d144bc15f1a064c8608b075870e04c59a45845d71c33cbdd024524ff8de4", func := "studwork/studworklaw09.SortChances", spec := "sortChances", unfollowed := true, recurses := true, apart := false }
def SortChancesSaid : Prop := sortChancesRow.holds Try.pinned (OpenSpec.ofChange sortChancesSpec)

/-- ITS FALSE NEIGHBOUR: 'it returns false'. Refute it at one input. -/
def sortChancesWrong : ChangeSpec := { name := "sortChances", fn := fun _ => fun
  | [d1, d2, d3, d4, d5] => { results := [.lit (.bool false)], args := [d1, d2, d3, d4, d5] }
  | _ => none }
def SortChancesWrongFalsely : Prop := sortChancesRow.holds Try.pinned (OpenSpec.ofChange sortChancesWrong)

/-- 'studworklaw09.SortRuns': WHATEVER THE INPUT: true; the input reads as it did. -/
def sortRunsSpec : ChangeSpec := { name := "sortRuns", fn := fun _ => fun
  | [d1, d2, d3] => { results := [.lit (.bool true)], args := [d1, d2, d3] }
  | _ => none }
def sortRunsRow : OpenClaim := { program := "ytmcfapchpedbgaa", sum := "f570d144bc15f1a064c8608b075870e04c59a45845d71c33cbdd024524ff8de4", func := "studwork/studworklaw09.SortRuns", spec := "sortRuns", unfollowed := true, recurses := true, apart := false }
def SortRunsSaid : Prop := sortRunsRow.holds Try.pinned (OpenSpec.ofChange sortRunsSpec)

/-- ITS FALSE NEIGHBOUR: 'it returns false'. Refute it at one input. -/
def sortRunsWrong : ChangeSpec := { name := "sortRuns", fn := fun _ => fun
  | [d1, d2, d3] => { results := [.lit (.bool false)], args := [d1, d2, d3] }
  | _ => none }
def SortRunsWrongFalsely : Prop := sortRunsRow.holds Try.pinned (OpenSpec.ofChange sortRunsWrong)

/-- 'studworklaw09.SortCosts': WHATEVER THE INPUT: true; the input reads as it did. -/
def sortCostsSpec : ChangeSpec := { name := "sortCosts", fn := fun _ => fun
  | [d1, d2, d3] => { results := [.lit (.bool true)], args := [d1, d2, d3] }
  | _ => none }
def sortCostsRow : OpenClaim := { program := "ytmcfapchpedbgaa", sum := "f570d144bc15f1a064c8608b075870e04c59a45845d71c33cbdd024524ff8de4", func := "studwork/studworklaw09.SortCosts", spec := "sortCosts", unfollowed := true, recurses := true, apart := false }
def SortCostsSaid : Prop := sortCostsRow.holds Try.pinned (OpenSpec.ofChange sortCostsSpec)

/-- ITS FALSE NEIGHBOUR: 'it returns false'. Refute it at one input. -/
def sortCostsWrong : ChangeSpec := { name := "sortCosts", fn := fun _ => fun
  | [d1, d2, d3] => { results := [.lit (.bool false)], args := [d1, d2, d3] }
  | _ => none }
def SortCostsWrongFalsely : Prop := sortCostsRow.holds Try.pinned (OpenSpec.ofChange sortCostsWrong)

/-- 'studworklaw09.SortSorts': WHATEVER THE INPUT: true; the input reads as it did. -/
def sortSortsSpec : ChangeSpec := { name := "sortSorts", fn := fun _ => fun
  | [d1, d2] => { results := [.lit (.bool true)], args := [d1, d2] }
  | _ => none }
def sortSortsRow : OpenClaim := { program := "ytmcfapchpedbgaa", sum := "f570d144bc15f1a064c8608b075870e04c59a45845d71c33cbdd024524ff8de4", func := "studwork/studworklaw09.SortSorts", spec := "sortSorts", unfollowed := true, recurses := true, apart := false }
def SortSortsSaid : Prop := sortSortsRow.holds Try.pinned (OpenSpec.ofChange sortSortsSpec)

/-- ITS FALSE NEIGHBOUR: 'it returns false'. Refute it at one input. -/
def sortSortsWrong : ChangeSpec := { name := "sortSorts", fn := fun _ => fun
  | [d1, d2] => { results := [.lit (.bool false)], args := [d1, d2] }
  | _ => none }
def SortSortsWrongFalsely : Prop := sortSortsRow.holds Try.pinned (OpenSpec.ofChange sortSortsWrong)

/-- 'studworklaw09.SortCausal': WHATEVER THE INPUT: true; the input reads as it did. -/
def sortCausalSpec : ChangeSpec := { name := "sortCausal", fn := fun _ => fun
  | [d1, d2, d3, d4] => { results := [.lit (.bool true)], args := [d1, d2, d3, d4] }
  | _ => none }
def sortCausalRow : OpenClaim := { program := "ytmcfapchpedbgaa", sum := "f570d144bc15f1a064c8608b075870e04c59a45845d71c33cbdd024524ff8de4", func := "studwork/studworklaw09.SortCausal", spec := "sortCausal", unfollowed := true, recurses := true, apart := false }
def SortCausalSaid : Prop := sortCausalRow.holds Try.pinned (OpenSpec.ofChange sortCausalSpec)

/-- ITS FALSE NEIGHBOUR: 'it returns false'. Refute it at one input. -/
def sortCausalWrong : ChangeSpec := { name := "sortCausal", fn := fun _ => fun
  | [d1, d2, d3, d4] => { results := [.lit (.bool false)], args := [d1, d2, d3, d4] }
  | _ => none }
def SortCausalWrongFalsely : Prop := sortCausalRow.holds Try.pinned (OpenSpec.ofChange sortCausalWrong)

/-- 'studworklaw09.SortApart': WHATEVER THE INPUT: true; the input reads as it did. -/
def sortApartSpec : ChangeSpec := { name := "sortApart", fn := fun _ => fun
  | [d1, d2] => { results := [.lit (.bool true)], args := [d1, d2] }
  | _ => none }
def sortApartRow : OpenClaim := { program := "ytmcfapchpedbgaa", sum := "f570d144bc15f1a064c8608b075870e04c59a45845d71c33cbdd024524ff8de4", func := "studwork/studworklaw09.SortApart", spec := "sortApart", unfollowed := true, recurses := true, apart := false }
def SortApartSaid : Prop := sortApartRow.holds Try.pinned (OpenSpec.ofChange sortApartSpec)

/-- ITS FALSE NEIGHBOUR: 'it returns false'. Refute it at one input. -/
def sortApartWrong : ChangeSpec := { name := "sortApart", fn := fun _ => fun
  | [d1, d2] => { results := [.lit (.bool false)], args := [d1, d2] }
  | _ => none }
def SortApartWrongFalsely : Prop := sortApartRow.holds Try.pinned (OpenSpec.ofChange sortApartWrong)

/-- 'studworklaw09.SortWhole': WHATEVER THE INPUT: true; the input reads as it did. -/
def sortWholeSpec : ChangeSpec := { name := "sortWhole", fn := fun _ => fun
  | [d1, d2, d3] => { results := [.lit (.bool true)], args := [d1, d2, d3] }
  | _ => none }
def sortWholeRow : OpenClaim := { program := "ytmcfapchpedbgaa", sum := "f570d144bc15f1a064c8608b075870e04c59a45845d71c33cbdd024524ff8de4", func := "studwork/studworklaw09.SortWhole", spec := "sortWhole", unfollowed := true, recurses := true, apart := false }
def SortWholeSaid : Prop := sortWholeRow.holds Try.pinned (OpenSpec.ofChange sortWholeSpec)

/-- ITS FALSE NEIGHBOUR: 'it returns false'. Refute it at one input. -/
def sortWholeWrong : ChangeSpec := { name := "sortWhole", fn := fun _ => fun
  | [d1, d2, d3] => { results := [.lit (.bool false)], args := [d1, d2, d3] }
  | _ => none }
def SortWholeWrongFalsely : Prop := sortWholeRow.holds Try.pinned (OpenSpec.ofChange sortWholeWrong)

/-- 'studworklaw09.SortOwn': WHATEVER THE INPUT: true; the input reads as it did. -/
def sortOwnSpec : ChangeSpec := { name := "sortOwn", fn := fun _ => fun
  | [d1, d2] => { results := [.lit (.bool true)], args := [d1, d2] }
  | _ => none }
def sortOwnRow : OpenClaim := { program := "ytmcfapchpedbgaa", sum := "f570d144bc15f1a064c8608b075870e04c59a45845d71c33cbdd024524ff8de4", func := "studwork/studworklaw09.SortOwn", spec := "sortOwn", unfollowed := true, recurses := true, apart := false }
def SortOwnSaid : Prop := sortOwnRow.holds Try.pinned (OpenSpec.ofChange sortOwnSpec)

/-- ITS FALSE NEIGHBOUR: 'it returns false'. Refute it at one input. -/
def sortOwnWrong : ChangeSpec := { name := "sortOwn", fn := fun _ => fun
  | [d1, d2] => { results := [.lit (.bool false)], args := [d1, d2] }
  | _ => none }
def SortOwnWrongFalsely : Prop := sortOwnRow.holds Try.pinned (OpenSpec.ofChange sortOwnWrong)

/-- 'studworklaw09.SortPlan': WHATEVER THE INPUT: true; the input reads as it did. -/
def sortPlanSpec : ChangeSpec := { name := "sortPlan", fn := fun _ => fun
  | [d1, d2, d3] => { results := [.lit (.bool true)], args := [d1, d2, d3] }
  | _ => none }
def sortPlanRow : OpenClaim := { program := "ytmcfapchpedbgaa", sum := "f570d144bc15f1a064c8608b075870e04c59a45845d71c33cbdd024524ff8de4", func := "studwork/studworklaw09.SortPlan", spec := "sortPlan", unfollowed := true, recurses := true, apart := false }
def SortPlanSaid : Prop := sortPlanRow.holds Try.pinned (OpenSpec.ofChange sortPlanSpec)

/-- ITS FALSE NEIGHBOUR: 'it returns false'. Refute it at one input. -/
def sortPlanWrong : ChangeSpec := { name := "sortPlan", fn := fun _ => fun
  | [d1, d2, d3] => { results := [.lit (.bool false)], args := [d1, d2, d3] }
  | _ => none }
def SortPlanWrongFalsely : Prop := sortPlanRow.holds Try.pinned (OpenSpec.ofChange sortPlanWrong)

/-- 'studworklaw09.SortSure': WHATEVER THE INPUT: true; the input reads as it did. -/
def sortSureSpec : ChangeSpec := { name := "sortSure", fn := fun _ => fun
  | [d1, d2, d3, d4] => { results := [.lit (.bool true)], args := [d1, d2, d3, d4] }
  | _ => none }
def sortSureRow : OpenClaim := { program := "ytmcfapchpedbgaa", sum := "f570d144bc15f1a064c8608b075870e04c59a45845d71c33cbdd024524ff8de4", func := "studwork/studworklaw09.SortSure", spec := "sortSure", unfollowed := true, recurses := true, apart := false }
def SortSureSaid : Prop := sortSureRow.holds Try.pinned (OpenSpec.ofChange sortSureSpec)

/-- ITS FALSE NEIGHBOUR: 'it returns false'. Refute it at one input. -/
def sortSureWrong : ChangeSpec := { name := "sortSure", fn := fun _ => fun
  | [d1, d2, d3, d4] => { results := [.lit (.bool false)], args := [d1, d2, d3, d4] }
  | _ => none }
def SortSureWrongFalsely : Prop := sortSureRow.holds Try.pinned (OpenSpec.ofChange sortSureWrong)

/-- 'studworklaw09.SortTrue': WHATEVER THE INPUT: true; the input reads as it did. -/
def sortTrueSpec : ChangeSpec := { name := "sortTrue", fn := fun _ => fun
  | [d1, d2] => { results := [.lit (.bool true)], args := [d1, d2] }
  | _ => none }
def sortTrueRow : OpenClaim := { program := "ytmcfapchpedbgaa", sum := "f570d144bc15f1a064c8608b075870e04c59a45845d71c33cbdd024524ff8de4", func := "studwork/studworklaw09.SortTrue", spec := "sortTrue", unfollowed := true, recurses := true, apart := false }
def SortTrueSaid : Prop := sortTrueRow.holds Try.pinned (OpenSpec.ofChange sortTrueSpec)

/-- ITS FALSE NEIGHBOUR: 'it returns false'. Refute it at one input. -/
def sortTrueWrong : ChangeSpec := { name := "sortTrue", fn := fun _ => fun
  | [d1, d2] => { results := [.lit (.bool false)], args := [d1, d2] }
  | _ => none }
def SortTrueWrongFalsely : Prop := sortTrueRow.holds Try.pinned (OpenSpec.ofChange sortTrueWrong)

/- THE SECOND FORM. 'bulk': how many values and letters a reading holds, each counted each time it is reached (what is shared counts as often as it is met; a slice's spare places count too). A statement '..UptoSaid' is the law's where the arguments, and the package variables that the reading takes, are together of bulk at most 1048576: NARROWER than '..Said'. Prove '..Said' where nothing that the law and all that it calls make is longer than what came in: it says more and counts as full. Else prove '..UptoSaid'. A law counts once. -/
mutual
def uptoBulk {H : Type} : DataW H → Nat
  | .lit (.string bytes) => bytes.length + 1
  | .lit _ => 1
  | .nil => 1
  | .ptr d => uptoBulk d + 1
  | .slice elems spare => uptoBulkAll elems + uptoBulkAll spare + 1
  | .agg parts => uptoBulkAll parts + 1
  | .iface _ d => uptoBulk d + 1
  | .map entries => uptoBulkEntries entries + 1
  | .held _ => 1
def uptoBulkAll {H : Type} : List (DataW H) → Nat
  | [] => 0
  | d :: r => uptoBulk d + uptoBulkAll r
def uptoBulkEntries {H : Type} : List (Lit × DataW H) → Nat
  | [] => 0
  | x :: r => uptoBulkEntry x + uptoBulkEntries r
def uptoBulkEntry {H : Type} : Lit × DataW H → Nat
  | (.string bytes, d) => bytes.length + uptoBulk d + 1
  | (_, d) => uptoBulk d + 1
 end
def uptoSmall : (H : Type) → List (DataW H) → Bool := fun _ ds => decide (uptoBulkAll ds ≤ 1048576)
def OpenSpec.upto (s : _root_.Go.ChangeSpec) : _root_.Go.OpenSpec := { _root_.Go.OpenSpec.ofChange s with cond := some uptoSmall }

/-- 'studworklaw09.SortChecks', WHERE WHAT IT READS IS OF BULK AT MOST 1048576: true; the input reads as it did. -/
def sortChecksUptoRow : OpenClaim := { program := "ytmcfapchpedbgaa", sum := "f570d144bc15f1a064c8608b075870e04c59a45845d71c33cbdd024524ff8de4", func := "studwork/studworklaw09.SortChecks", spec := "sortChecks", unfollowed := true, recurses := true, apart := false, narrowed := true }
def SortChecksUptoSaid : Prop := sortChecksUptoRow.holds Try.pinned (OpenSpec.upto sortChecksSpec)

/-- 'studworklaw09.SortChances', WHERE WHAT IT READS IS OF BULK AT MOST 1048576: true; the input reads as it did. -/
def sortChancesUptoRow : OpenClaim := { program := "ytmcfapchpedbgaa", sum := "f570d144bc15f1a064c8608b075870e04c59a45845d71c33cbdd024524ff8de4", func := "studwork/studworklaw09.SortChances", spec := "sortChances", unfollowed := true, recurses := true, apart := false, narrowed := true }
def SortChancesUptoSaid : Prop := sortChancesUptoRow.holds Try.pinned (OpenSpec.upto sortChancesSpec)

/-- 'studworklaw09.SortRuns', WHERE WHAT IT READS IS OF BULK AT MOST 1048576: true; the input reads as it did. -/
def sortRunsUptoRow : OpenClaim := { program := "ytmcfapchpedbgaa", sum := "f570d144bc15f1a064c8608b075870e04c59a45845d71c33cbdd024524ff8de4", func := "studwork/studworklaw09.SortRuns", spec := "sortRuns", unfollowed := true, recurses := true, apart := false, narrowed := true }
def SortRunsUptoSaid : Prop := sortRunsUptoRow.holds Try.pinned (OpenSpec.upto sortRunsSpec)

/-- 'studworklaw09.SortCosts', WHERE WHAT IT READS IS OF BULK AT MOST 1048576: true; the input reads as it did. -/
def sortCostsUptoRow : OpenClaim := { program := "ytmcfapchpedbgaa", sum := "f570d144bc15f1a064c8608b075870e04c59a45845d71c33cbdd024524ff8de4", func := "studwork/studworklaw09.SortCosts", spec := "sortCosts", unfollowed := true, recurses := true, apart := false, narrowed := true }
def SortCostsUptoSaid : Prop := sortCostsUptoRow.holds Try.pinned (OpenSpec.upto sortCostsSpec)

/-- 'studworklaw09.SortSorts', WHERE WHAT IT READS IS OF BULK AT MOST 1048576: true; the input reads as it did. -/
def sortSortsUptoRow : OpenClaim := { program := "ytmcfapchpedbgaa", sum := "f570d144bc15f1a064c8608b075870e04c59a45845d71c33cbdd024524ff8de4", func := "studwork/studworklaw09.SortSorts", spec := "sortSorts", unfollowed := true, recurses := true, apart := false, narrowed := true }
def SortSortsUptoSaid : Prop := sortSortsUptoRow.holds Try.pinned (OpenSpec.upto sortSortsSpec)

/-- 'studworklaw09.SortCausal', WHERE WHAT IT READS IS OF BULK AT MOST 1048576: true; the input reads as it did. -/
def sortCausalUptoRow : OpenClaim := { program := "ytmcfapchpedbgaa", sum := "f570d144bc15f1a064c8608b075870e04c59a45845d71c33cbdd024524ff8de4", func := "studwork/studworklaw09.SortCausal", spec := "sortCausal", unfollowed := true, recurses := true, apart := false, narrowed := true }
def SortCausalUptoSaid : Prop := sortCausalUptoRow.holds Try.pinned (OpenSpec.upto sortCausalSpec)

/-- 'studworklaw09.SortApart', WHERE WHAT IT READS IS OF BULK AT MOST 1048576: true; the input reads as it did. -/
def sortApartUptoRow : OpenClaim := { program := "ytmcfapchpedbgaa", sum := "f570d144bc15f1a064c8608b075870e04c59a45845d71c33cbdd024524ff8de4", func := "studwork/studworklaw09.SortApart", spec := "sortApart", unfollowed := true, recurses := true, apart := false, narrowed := true }
def SortApartUptoSaid : Prop := sortApartUptoRow.holds Try.pinned (OpenSpec.upto sortApartSpec)

/-- 'studworklaw09.SortWhole', WHERE WHAT IT READS IS OF BULK AT MOST 1048576: true; the input reads as it did. -/
def sortWholeUptoRow : OpenClaim := { program := "ytmcfapchpedbgaa", sum := "f570d144bc15f1a064c8608b075870e04c59a45845d71c33cbdd024524ff8de4", func := "studwork/studworklaw09.SortWhole", spec := "sortWhole", unfollowed := true, recurses := true, apart := false, narrowed := true }
def SortWholeUptoSaid : Prop := sortWholeUptoRow.holds Try.pinned (OpenSpec.upto sortWholeSpec)

/-- 'studworklaw09.SortOwn', WHERE WHAT IT READS IS OF BULK AT MOST 1048576: true; the input reads as it did. -/
def sortOwnUptoRow : OpenClaim := { program := "ytmcfapchpedbgaa", sum := "f570d144bc15f1a064c8608b075870e04c59a45845d71c33cbdd024524ff8de4", func := "studwork/studworklaw09.SortOwn", spec := "sortOwn", unfollowed := true, recurses := true, apart := false, narrowed := true }
def SortOwnUptoSaid : Prop := sortOwnUptoRow.holds Try.pinned (OpenSpec.upto sortOwnSpec)

/-- 'studworklaw09.SortPlan', WHERE WHAT IT READS IS OF BULK AT MOST 1048576: true; the input reads as it did. -/
def sortPlanUptoRow : OpenClaim := { program := "ytmcfapchpedbgaa", sum := "f570d144bc15f1a064c8608b075870e04c59a45845d71c33cbdd024524ff8de4", func := "studwork/studworklaw09.SortPlan", spec := "sortPlan", unfollowed := true, recurses := true, apart := false, narrowed := true }
def SortPlanUptoSaid : Prop := sortPlanUptoRow.holds Try.pinned (OpenSpec.upto sortPlanSpec)

/-- 'studworklaw09.SortSure', WHERE WHAT IT READS IS OF BULK AT MOST 1048576: true; the input reads as it did. -/
def sortSureUptoRow : OpenClaim := { program := "ytmcfapchpedbgaa", sum := "f570d144bc15f1a064c8608b075870e04c59a45845d71c33cbdd024524ff8de4", func := "studwork/studworklaw09.SortSure", spec := "sortSure", unfollowed := true, recurses := true, apart := false, narrowed := true }
def SortSureUptoSaid : Prop := sortSureUptoRow.holds Try.pinned (OpenSpec.upto sortSureSpec)

/-- 'studworklaw09.SortTrue', WHERE WHAT IT READS IS OF BULK AT MOST 1048576: true; the input reads as it did. -/
def sortTrueUptoRow : OpenClaim := { program := "ytmcfapchpedbgaa", sum := "f570d144bc15f1a064c8608b075870e04c59a45845d71c33cbdd024524ff8de4", func := "studwork/studworklaw09.SortTrue", spec := "sortTrue", unfollowed := true, recurses := true, apart := false, narrowed := true }
def SortTrueUptoSaid : Prop := sortTrueUptoRow.holds Try.pinned (OpenSpec.upto sortTrueSpec)

end Rows
end Go.Proofs.Ytmcfapchpedbgaa
