/- The function SortSure returns true for every input: if the rows of a table say that every reading is right, nothing in any bin is wrong, and what is wrong is never more than what there is. -/
import Derived.Test.YtmcfapchpedbgaaRows
import Derived.Test.YtmcfapchpedbgaaZ6
import Derived.Test.YtmcfapchpedbgaaS7
set_option linter.unusedSimpArgs false
set_option linter.unusedVariables false
namespace Go.Proofs.Ytmcfapchpedbgaa
open Go.ChangeShapes Go.WideShapes Go.ChangeAt Go.RowKit Go.Abs

theorem Try.own : ownKnob Try.prog.godebug = none := by kernel_rfl
theorem Try.laidOut : laidOutB Try.prog = true := by kernel_rfl
theorem shapes : Try.f13.params.toList.mapM (shapeOf Try.prog 10) = some [(.sl (.sl (.int .i64))), (.int .i64), (.sl (.int .i64)), (.sl (.int .i64))] := by kernel_rfl
theorem law_PC (xs : List AV) (h0 : EncPs [(.sl (.sl (.int .i64))), (.int .i64), (.sl (.int .i64)), (.sl (.int .i64))] xs) : PC Try.prog 13 xs (· = .sc (.bool true)) :=
  law_of law09_SortSure_C_ok (by kernel_rfl) (fun x o => ⟨true, law09_SortSure_eq x.1 x.2.1 x.2.2.1 x.2.2.2 (Nat.le_trans o.1.1 (by decide)), rfl⟩) xs h0
theorem lifted (os : Os) (started : os.Started) (H : Type) (enc : TypeId × Value → H) :
    ReturnsInHanded {} Try.checked os 13 .any (Rows.sortSureSpec.pre6 enc Try.prog Try.f13 Rows.sortSureRow.domain false) (Rows.sortSureSpec.post enc Try.prog Try.f13 false true false false) :=
  Go.Abs.law_lifted (C := Try.checked) Try.own started Try.laidOut (by kernel_rfl) Try.func13
    (ChangeSpec.witness6 (enc := enc) (C := Try.checked) false ⟨#[], #[.slice none 0 0, .int .i64 0, .slice none 0 0, .slice none 0 0], []⟩ 8 (by kernel_rfl) (by kernel_rfl) (by kernel_rfl) (by kernel_rfl))
    rfl (fun ds h => by
      match ds, h with
      | [_, _, _, _], _ => rfl) (tb := 4) rfl (by kernel_rfl) (d := 10) shapes
    (by kernel_rfl)
    (fun xs h => law_PC xs h)

theorem SortSure_holds : Rows.SortSureSaid :=
  OpenClaim.holds_of_wide 13 Try.f13 rfl rfl rfl rfl rfl rfl rfl ⟨rfl, rfl, rfl, rfl, rfl⟩ rfl rfl rfl rfl rfl (by kernel_rfl) Try.func13 (by kernel_rfl)
    (of_decide_eq_true (by kernel_rfl)) (by unfold Func.isWrapper; first | (rw [if_pos (by decide +kernel)]; kernel_rfl) | (rw [if_neg (by decide +kernel)]; exact ⟨rfl, rfl⟩))
    (fun os started H enc _ => lifted os started H enc)
end Go.Proofs.Ytmcfapchpedbgaa
