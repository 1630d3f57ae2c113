/- The function SortWhole returns true for every input: the chances for each kind and number of readings add up, and for one reading they are the row. -/
import Derived.Test.YtmcfapchpedbgaaRows
import Derived.Test.YtmcfapchpedbgaaZ6
import Derived.Test.YtmcfapchpedbgaaS7
set_option linter.unusedSimpArgs false
set_option linter.unusedVariables false
namespace Go.Proofs.Ytmcfapchpedbgaa
open Go.ChangeShapes Go.WideShapes Go.ChangeAt Go.RowKit Go.Abs

theorem Try.own : ownKnob Try.prog.godebug = none := by kernel_rfl
theorem Try.laidOut : laidOutB Try.prog = true := by kernel_rfl
theorem shapes : Try.f10.params.toList.mapM (shapeOf Try.prog 10) = some [(.sl (.sl (.int .i64))), (.int .i64), (.int .i64)] := by kernel_rfl
theorem law_PC (xs : List AV) (h0 : EncPs [(.sl (.sl (.int .i64))), (.int .i64), (.int .i64)] xs) : PC Try.prog 10 xs (· = .sc (.bool true)) :=
  law_of law09_SortWhole_C_ok (by kernel_rfl) (fun x o => ⟨true, law09_SortWhole_eq x.1 x.2.1 x.2.2 (Nat.le_trans o.1.1 (by decide)), rfl⟩) xs h0
theorem lifted (os : Os) (started : os.Started) (H : Type) (enc : TypeId × Value → H) :
    ReturnsInHanded {} Try.checked os 10 .any (Rows.sortWholeSpec.pre6 enc Try.prog Try.f10 Rows.sortWholeRow.domain false) (Rows.sortWholeSpec.post enc Try.prog Try.f10 false true false false) :=
  Go.Abs.law_lifted (C := Try.checked) Try.own started Try.laidOut (by kernel_rfl) Try.func10
    (ChangeSpec.witness6 (enc := enc) (C := Try.checked) false ⟨#[], #[.slice none 0 0, .int .i64 0, .int .i64 0], []⟩ 8 (by kernel_rfl) (by kernel_rfl) (by kernel_rfl) (by kernel_rfl))
    rfl (fun ds h => by
      match ds, h with
      | [_, _, _], _ => rfl) (tb := 4) rfl (by kernel_rfl) (d := 10) shapes
    (by kernel_rfl)
    (fun xs h => law_PC xs h)

theorem SortWhole_holds : Rows.SortWholeSaid :=
  OpenClaim.holds_of_wide 10 Try.f10 rfl rfl rfl rfl rfl rfl rfl ⟨rfl, rfl, rfl, rfl, rfl⟩ rfl rfl rfl rfl rfl (by kernel_rfl) Try.func10 (by kernel_rfl)
    (of_decide_eq_true (by kernel_rfl)) (by unfold Func.isWrapper; first | (rw [if_pos (by decide +kernel)]; kernel_rfl) | (rw [if_neg (by decide +kernel)]; exact ⟨rfl, rfl⟩))
    (fun os started H enc _ => lifted os started H enc)
end Go.Proofs.Ytmcfapchpedbgaa
