/- The function SortTrue returns true for every input: a belt that runs with its own swings never fails, and gives each part the fate that Sort says. -/
import Derived.Test.YtmcfapchpedbgaaRows
import Derived.Test.YtmcfapchpedbgaaZ6
import Derived.Test.YtmcfapchpedbgaaS7
import Derived.Test.YtmcfapchpedbgaaS8
set_option linter.unusedSimpArgs false
set_option linter.unusedVariables false
namespace Go.Proofs.Ytmcfapchpedbgaa
open Go.ChangeShapes Go.WideShapes Go.ChangeAt Go.RowKit Go.Abs

theorem Try.own : ownKnob Try.prog.godebug = none := by kernel_rfl
theorem Try.laidOut : laidOutB Try.prog = true := by kernel_rfl
theorem shapes : Try.f14.params.toList.mapM (shapeOf Try.prog 10) = some [(.st [.int .i64, .int .i64, .int .i64, .sl (.st [.int .i64, .int .i64]), .sl (.int .i64)]), (.sl (.st [.int .i64, .int .i64, .sl (.int .i64)]))] := by kernel_rfl
theorem law_PC (xs : List AV) (h0 : EncPs [(.st [.int .i64, .int .i64, .int .i64, .sl (.st [.int .i64, .int .i64]), .sl (.int .i64)]), (.sl (.st [.int .i64, .int .i64, .sl (.int .i64)]))] xs) : PC Try.prog 14 xs (· = .sc (.bool true)) :=
  law_of law09_SortTrue_C_ok (by kernel_rfl) (fun x o => ⟨true, law09_SortTrue_eq x.1 x.2, rfl⟩) xs h0
theorem lifted (os : Os) (started : os.Started) (H : Type) (enc : TypeId × Value → H) :
    ReturnsInHanded {} Try.checked os 14 .any (Rows.sortTrueSpec.pre6 enc Try.prog Try.f14 Rows.sortTrueRow.domain false) (Rows.sortTrueSpec.post enc Try.prog Try.f14 false true false false) :=
  Go.Abs.law_lifted (C := Try.checked) Try.own started Try.laidOut (by kernel_rfl) Try.func14
    (ChangeSpec.witness6 (enc := enc) (C := Try.checked) false ⟨#[], #[.agg #[.int .i64 0, .int .i64 0, .int .i64 0, .slice none 0 0, .slice none 0 0], .slice none 0 0], []⟩ 8 (by kernel_rfl) (by kernel_rfl) (by kernel_rfl) (by kernel_rfl))
    rfl (fun ds h => by
      match ds, h with
      | [_, _], _ => rfl) (tb := 4) rfl (by kernel_rfl) (d := 10) shapes
    (by kernel_rfl)
    (fun xs h => law_PC xs h)

theorem SortTrue_holds : Rows.SortTrueSaid :=
  OpenClaim.holds_of_wide 14 Try.f14 rfl rfl rfl rfl rfl rfl rfl ⟨rfl, rfl, rfl, rfl, rfl⟩ rfl rfl rfl rfl rfl (by kernel_rfl) Try.func14 (by kernel_rfl)
    (of_decide_eq_true (by kernel_rfl)) (by unfold Func.isWrapper; first | (rw [if_pos (by decide +kernel)]; kernel_rfl) | (rw [if_neg (by decide +kernel)]; exact ⟨rfl, rfl⟩))
    (fun os started H enc _ => lifted os started H enc)
end Go.Proofs.Ytmcfapchpedbgaa
