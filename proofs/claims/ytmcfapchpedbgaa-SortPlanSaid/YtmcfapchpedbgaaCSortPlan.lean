/- The function SortPlan returns true for every input: no plan that can be done costs less than Plan says, what Plan returns can be done and costs that, and with one bin more the cost is not greater. -/
import Derived.Test.YtmcfapchpedbgaaRows
import Derived.Test.YtmcfapchpedbgaaZ6
import Derived.Test.YtmcfapchpedbgaaS7
set_option linter.unusedSimpArgs false
set_option linter.unusedVariables false
namespace Go.Proofs.Ytmcfapchpedbgaa
open Go.ChangeShapes Go.WideShapes Go.ChangeAt Go.RowKit Go.Abs

theorem Try.own : ownKnob Try.prog.godebug = none := by kernel_rfl
theorem Try.laidOut : laidOutB Try.prog = true := by kernel_rfl
theorem shapes : Try.f12.params.toList.mapM (shapeOf Try.prog 10) = some [(.sl (.int .i64)), (.sl (.int .i64)), (.int .i64)] := by kernel_rfl
theorem law_PC (xs : List AV) (h0 : EncPs [(.sl (.int .i64)), (.sl (.int .i64)), (.int .i64)] xs) : PC Try.prog 12 xs (· = .sc (.bool true)) :=
  law_of law09_SortPlan_C_ok (by kernel_rfl) (fun x o => ⟨true, law09_SortPlan_eq x.1 x.2.1 x.2.2 (okI_i64 o.2.2), rfl⟩) xs h0
theorem lifted (os : Os) (started : os.Started) (H : Type) (enc : TypeId × Value → H) :
    ReturnsInHanded {} Try.checked os 12 .any (Rows.sortPlanSpec.pre6 enc Try.prog Try.f12 Rows.sortPlanRow.domain false) (Rows.sortPlanSpec.post enc Try.prog Try.f12 false true false false) :=
  Go.Abs.law_lifted (C := Try.checked) Try.own started Try.laidOut (by kernel_rfl) Try.func12
    (ChangeSpec.witness6 (enc := enc) (C := Try.checked) false ⟨#[], #[.slice none 0 0, .slice none 0 0, .int .i64 0], []⟩ 8 (by kernel_rfl) (by kernel_rfl) (by kernel_rfl) (by kernel_rfl))
    rfl (fun ds h => by
      match ds, h with
      | [_, _, _], _ => rfl) (tb := 4) rfl (by kernel_rfl) (d := 10) shapes
    (by kernel_rfl)
    (fun xs h => law_PC xs h)

theorem SortPlan_holds : Rows.SortPlanSaid :=
  OpenClaim.holds_of_wide 12 Try.f12 rfl rfl rfl rfl rfl rfl rfl ⟨rfl, rfl, rfl, rfl, rfl⟩ rfl rfl rfl rfl rfl (by kernel_rfl) Try.func12 (by kernel_rfl)
    (of_decide_eq_true (by kernel_rfl)) (by unfold Func.isWrapper; first | (rw [if_pos (by decide +kernel)]; kernel_rfl) | (rw [if_neg (by decide +kernel)]; exact ⟨rfl, rfl⟩))
    (fun os started H enc _ => lifted os started H enc)
end Go.Proofs.Ytmcfapchpedbgaa
