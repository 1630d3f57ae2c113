/- The function TextFlattens returns true for every input: the bricks of a document and their numbers, or the errors, are those of the reference. -/
import Derived.Test.YtdignlncdfbihaaRows
import Derived.Test.YtdignlncdfbihaaZ7
import Derived.Test.YtdignlncdfbihaaS8
import Derived.Test.YtdignlncdfbihaaS9
set_option linter.unusedSimpArgs false
set_option linter.unusedVariables false
namespace Go.Proofs.Ytdignlncdfbihaa
open Go.ChangeShapes Go.WideShapes Go.ChangeAt Go.RowKit Go.Abs

theorem Try.own : ownKnob Try.prog.godebug = none := by kernel_rfl
theorem Try.laidOut : laidOutB Try.prog = true := by kernel_rfl
theorem shapes : Try.f3.params.toList.mapM (shapeOf Try.prog 10) = some [(.st [.sl (.st [.str, .sl (.st [.int .i64, .st [.int .i64, .st [.int .i64, .int .i64, .int .i64], .int .u8, .int .u8]])])])] := by kernel_rfl
theorem law_PC (xs : List AV) (h0 : EncPs [(.st [.sl (.st [.str, .sl (.st [.int .i64, .st [.int .i64, .st [.int .i64, .int .i64, .int .i64], .int .u8, .int .u8]])])])] xs) : PC Try.prog 3 xs (· = .sc (.bool true)) :=
  law_of law02_TextFlattens_C_ok (by kernel_rfl) (fun x o => ⟨true, law02_TextFlattens_eq x (fun s hs l hl => ⟨okI_u8 ((o.2 s hs).2.2 l hl).2.2.2.1, okI_u8 ((o.2 s hs).2.2 l hl).2.2.2.2⟩), rfl⟩) xs h0
theorem lifted (os : Os) (started : os.Started) (H : Type) (enc : TypeId × Value → H) :
    ReturnsInHanded {} Try.checked os 3 .any (Rows.textFlattensSpec.pre6 enc Try.prog Try.f3 Rows.textFlattensRow.domain false) (Rows.textFlattensSpec.post enc Try.prog Try.f3 false true false false) :=
  Go.Abs.law_lifted (C := Try.checked) Try.own started Try.laidOut (by kernel_rfl) Try.func3
    (ChangeSpec.witness6 (enc := enc) (C := Try.checked) false ⟨#[], #[.agg #[.slice none 0 0]], []⟩ 8 (by kernel_rfl) (by kernel_rfl) (by kernel_rfl) (by kernel_rfl))
    rfl (fun ds h => by
      match ds, h with
      | [_], _ => rfl) (tb := 4) rfl (by kernel_rfl) (d := 10) shapes
    (by kernel_rfl)
    (fun xs h => law_PC xs h)

theorem TextFlattens_holds : Rows.TextFlattensSaid :=
  OpenClaim.holds_of_wide 3 Try.f3 rfl rfl rfl rfl rfl rfl rfl ⟨rfl, rfl, rfl, rfl, rfl⟩ rfl rfl rfl rfl rfl (by kernel_rfl) Try.func3 (by kernel_rfl)
    (of_decide_eq_true (by kernel_rfl)) (by unfold Func.isWrapper; first | (rw [if_pos (by decide +kernel)]; kernel_rfl) | (rw [if_neg (by decide +kernel)]; exact ⟨rfl, rfl⟩))
    (fun os started H enc _ => lifted os started H enc)
end Go.Proofs.Ytdignlncdfbihaa
