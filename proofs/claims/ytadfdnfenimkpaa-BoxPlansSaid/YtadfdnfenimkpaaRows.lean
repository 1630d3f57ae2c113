/-
  No cell of these rows narrows 'for every input' (looked for: loops, veiled, ifaces, maps, wideKeys, modest, calm, conditions, laid).
  DERIVED. THE GIVEN ROWS OF THIS SEAT. 4 by the template 'for every input the law returns true; each argument reads behind the call as it read before'; 0 by the template 'total and deterministic' (their statements: YtadfdnfenimkpaaTotals.lean).
  GIVEN WITH THE SEED: the statements are not yours to turn. If you find one false, say at which input.
  Laid BY PROGRAM, IN A SANDBOX (cutbox-rows.mjs): the forced cells as the released guide's own fill.sh prints them over the translation 329613cc538dce01… (all of the seat's roots in one cut). By AI agents, Wed Nov 11 2026. No macro, syntax, notation, axiom, sorry.
-/
import Derived.Test.YtadfdnfenimkpaaChecked
import GoSem.Claim
import GoSem.ClaimJoined
import GoSem.ClaimMapViews
import Derived.JoinedTies
import Derived.KernelRfl
namespace Go.Proofs.Ytadfdnfenimkpaa
/- THE CELL 'sum', in the pinned program and in every row, IS THE sha256 OF THE DUMP (.gsa) THAT YtadfdnfenimkpaaProg.lean LOADS. Nothing in Lean hashes anything: it is a label: what it is worth is what the hold of that sum in a sandbox is worth. -/
noncomputable def Try.pinned : Pinned := { name := "ytadfdnfenimkpaa", sum := "329613cc538dce010baf63f868135807596d165e6892ede27787c0ef6c630166", checked := Try.checked }
namespace Rows
def none {H : Type} : Left H := { results := [], args := [] }

/-- 'studworklaw08.BoxFills': WHATEVER THE INPUT: true; the input reads as it did. -/
def boxFillsSpec : ChangeSpec := { name := "boxFills", fn := fun _ => fun
  | [d1, d2, d3, d4] => { results := [.lit (.bool true)], args := [d1, d2, d3, d4] }
  | _ => none }
def boxFillsRow : OpenClaim := { program := "ytadfdnfenimkpaa", sum := "329613cc538dce010baf63f868135807596d165e6892ede27787c0ef6c630166", func := "studwork/studworklaw08.BoxFills", spec := "boxFills", unfollowed := true, recurses := true, plainKeys := false, apart := false }
def BoxFillsSaid : Prop := boxFillsRow.holds Try.pinned (OpenSpec.ofChange boxFillsSpec)

/-- ITS FALSE NEIGHBOUR: 'it returns false'. Refute it at one input. -/
def boxFillsWrong : ChangeSpec := { name := "boxFills", fn := fun _ => fun
  | [d1, d2, d3, d4] => { results := [.lit (.bool false)], args := [d1, d2, d3, d4] }
  | _ => none }
def BoxFillsWrongFalsely : Prop := boxFillsRow.holds Try.pinned (OpenSpec.ofChange boxFillsWrong)

/-- 'studworklaw08.BoxPlans': WHATEVER THE INPUT: true; the input reads as it did. -/
def boxPlansSpec : ChangeSpec := { name := "boxPlans", fn := fun _ => fun
  | [d1, d2, d3, d4] => { results := [.lit (.bool true)], args := [d1, d2, d3, d4] }
  | _ => none }
def boxPlansRow : OpenClaim := { program := "ytadfdnfenimkpaa", sum := "329613cc538dce010baf63f868135807596d165e6892ede27787c0ef6c630166", func := "studwork/studworklaw08.BoxPlans", spec := "boxPlans", unfollowed := true, recurses := true, plainKeys := false, apart := false }
def BoxPlansSaid : Prop := boxPlansRow.holds Try.pinned (OpenSpec.ofChange boxPlansSpec)

/-- ITS FALSE NEIGHBOUR: 'it returns false'. Refute it at one input. -/
def boxPlansWrong : ChangeSpec := { name := "boxPlans", fn := fun _ => fun
  | [d1, d2, d3, d4] => { results := [.lit (.bool false)], args := [d1, d2, d3, d4] }
  | _ => none }
def BoxPlansWrongFalsely : Prop := boxPlansRow.holds Try.pinned (OpenSpec.ofChange boxPlansWrong)

/-- 'studworklaw08.BoxBills': WHATEVER THE INPUT: true; the input reads as it did. -/
def boxBillsSpec : ChangeSpec := { name := "boxBills", fn := fun _ => fun
  | [d1, d2, d3, d4] => { results := [.lit (.bool true)], args := [d1, d2, d3, d4] }
  | _ => none }
def boxBillsRow : OpenClaim := { program := "ytadfdnfenimkpaa", sum := "329613cc538dce010baf63f868135807596d165e6892ede27787c0ef6c630166", func := "studwork/studworklaw08.BoxBills", spec := "boxBills", unfollowed := true, recurses := true, plainKeys := false, apart := false }
def BoxBillsSaid : Prop := boxBillsRow.holds Try.pinned (OpenSpec.ofChange boxBillsSpec)

/-- ITS FALSE NEIGHBOUR: 'it returns false'. Refute it at one input. -/
def boxBillsWrong : ChangeSpec := { name := "boxBills", fn := fun _ => fun
  | [d1, d2, d3, d4] => { results := [.lit (.bool false)], args := [d1, d2, d3, d4] }
  | _ => none }
def BoxBillsWrongFalsely : Prop := boxBillsRow.holds Try.pinned (OpenSpec.ofChange boxBillsWrong)

/-- 'studworklaw08.BoxTrades': WHATEVER THE INPUT: true; the input reads as it did. -/
def boxTradesSpec : ChangeSpec := { name := "boxTrades", fn := fun _ => fun
  | [d1, d2, d3] => { results := [.lit (.bool true)], args := [d1, d2, d3] }
  | _ => none }
def boxTradesRow : OpenClaim := { program := "ytadfdnfenimkpaa", sum := "329613cc538dce010baf63f868135807596d165e6892ede27787c0ef6c630166", func := "studwork/studworklaw08.BoxTrades", spec := "boxTrades", unfollowed := true, recurses := true, plainKeys := false, apart := false }
def BoxTradesSaid : Prop := boxTradesRow.holds Try.pinned (OpenSpec.ofChange boxTradesSpec)

/-- ITS FALSE NEIGHBOUR: 'it returns false'. Refute it at one input. -/
def boxTradesWrong : ChangeSpec := { name := "boxTrades", fn := fun _ => fun
  | [d1, d2, d3] => { results := [.lit (.bool false)], args := [d1, d2, d3] }
  | _ => none }
def BoxTradesWrongFalsely : Prop := boxTradesRow.holds Try.pinned (OpenSpec.ofChange boxTradesWrong)

/- THE SECOND FORM. 'bulk': how many values and letters a reading holds, each counted each time it is reached (what is shared counts as often as it is met; a slice's spare places count too). A statement '..UptoSaid' is the law's where the arguments, and the package variables that the reading takes, are together of bulk at most 1048576: NARROWER than '..Said'. Prove '..Said' where nothing that the law and all that it calls make is longer than what came in: it says more and counts as full. Else prove '..UptoSaid'. A law counts once. -/
mutual
def uptoBulk {H : Type} : DataW H → Nat
  | .lit (.string bytes) => bytes.length + 1
  | .lit _ => 1
  | .nil => 1
  | .ptr d => uptoBulk d + 1
  | .slice elems spare => uptoBulkAll elems + uptoBulkAll spare + 1
  | .agg parts => uptoBulkAll parts + 1
  | .iface _ d => uptoBulk d + 1
  | .map entries => uptoBulkEntries entries + 1
  | .held _ => 1
def uptoBulkAll {H : Type} : List (DataW H) → Nat
  | [] => 0
  | d :: r => uptoBulk d + uptoBulkAll r
def uptoBulkEntries {H : Type} : List (Lit × DataW H) → Nat
  | [] => 0
  | x :: r => uptoBulkEntry x + uptoBulkEntries r
def uptoBulkEntry {H : Type} : Lit × DataW H → Nat
  | (.string bytes, d) => bytes.length + uptoBulk d + 1
  | (_, d) => uptoBulk d + 1
 end
def uptoSmall : (H : Type) → List (DataW H) → Bool := fun _ ds => decide (uptoBulkAll ds ≤ 1048576)
def OpenSpec.upto (s : _root_.Go.ChangeSpec) : _root_.Go.OpenSpec := { _root_.Go.OpenSpec.ofChange s with cond := some uptoSmall }

/-- 'studworklaw08.BoxFills', WHERE WHAT IT READS IS OF BULK AT MOST 1048576: true; the input reads as it did. -/
def boxFillsUptoRow : OpenClaim := { program := "ytadfdnfenimkpaa", sum := "329613cc538dce010baf63f868135807596d165e6892ede27787c0ef6c630166", func := "studwork/studworklaw08.BoxFills", spec := "boxFills", unfollowed := true, recurses := true, plainKeys := false, apart := false, narrowed := true }
def BoxFillsUptoSaid : Prop := boxFillsUptoRow.holds Try.pinned (OpenSpec.upto boxFillsSpec)

/-- 'studworklaw08.BoxPlans', WHERE WHAT IT READS IS OF BULK AT MOST 1048576: true; the input reads as it did. -/
def boxPlansUptoRow : OpenClaim := { program := "ytadfdnfenimkpaa", sum := "329613cc538dce010baf63f868135807596d165e6892ede27787c0ef6c630166", func := "studwork/studworklaw08.BoxPlans", spec := "boxPlans", unfollowed := true, recurses := true, plainKeys := false, apart := false, narrowed := true }
def BoxPlansUptoSaid : Prop := boxPlansUptoRow.holds Try.pinned (OpenSpec.upto boxPlansSpec)

/-- 'studworklaw08.BoxBills', WHERE WHAT IT READS IS OF BULK AT MOST 1048576: true; the input reads as it did. -/
def boxBillsUptoRow : OpenClaim := { program := "ytadfdnfenimkpaa", sum := "329613cc538dce010baf63f868135807596d165e6892ede27787c0ef6c630166", func := "studwork/studworklaw08.BoxBills", spec := "boxBills", unfollowed := true, recurses := true, plainKeys := false, apart := false, narrowed := true }
def BoxBillsUptoSaid : Prop := boxBillsUptoRow.holds Try.pinned (OpenSpec.upto boxBillsSpec)

/-- 'studworklaw08.BoxTrades', WHERE WHAT IT READS IS OF BULK AT MOST 1048576: true; the input reads as it did. -/
def boxTradesUptoRow : OpenClaim := { program := "ytadfdnfenimkpaa", sum := "329613cc538dce010baf63f868135807596d165e6892ede27787c0ef6c630166", func := "studwork/studworklaw08.BoxTrades", spec := "boxTrades", unfollowed := true, recurses := true, plainKeys := false, apart := false, narrowed := true }
def BoxTradesUptoSaid : Prop := boxTradesUptoRow.holds Try.pinned (OpenSpec.upto boxTradesSpec)

end Rows
end Go.Proofs.Ytadfdnfenimkpaa
