/- The function BoxPlans returns true for every input: the chosen plans and the sharing, or the errors, are those of the reference. -/
import Derived.Test.YtadfdnfenimkpaaRows
import Derived.Test.YtadfdnfenimkpaaZ7
import Derived.Test.YtadfdnfenimkpaaS8
set_option linter.unusedSimpArgs false
set_option linter.unusedVariables false
namespace Go.Proofs.Ytadfdnfenimkpaa
open Go.ChangeShapes Go.WideShapes Go.ChangeAt Go.RowKit Go.Abs

theorem Try.own : ownKnob Try.prog.godebug = none := by kernel_rfl
theorem Try.laidOut : laidOutB Try.prog = true := by kernel_rfl
theorem shapes : Try.f4.params.toList.mapM (shapeOf Try.prog 10) = some [(.sl (.st [.int .i64, .int .u8, .int .i64])), (.sl (.st [.int .i64, .int .u8, .int .i64])), (.sl (.sl (.st [.int .i64, .int .u8, .int .i64]))), (.sl (.int .i64))] := by kernel_rfl
theorem law_PC (xs : List AV) (h0 : EncPs [(.sl (.st [.int .i64, .int .u8, .int .i64])), (.sl (.st [.int .i64, .int .u8, .int .i64])), (.sl (.sl (.st [.int .i64, .int .u8, .int .i64]))), (.sl (.int .i64))] xs) : PC Try.prog 4 xs (· = .sc (.bool true)) :=
  law_of law08_BoxPlans_C_ok (by kernel_rfl) (fun x o => ⟨true, Go.Abs.Pl.law08_BoxPlans_eq x.1 x.2.1 x.2.2.1 x.2.2.2 (fun y hy => okI_u8 (o.1.2 y hy).2.1) (fun y hy => okI_u8 (o.2.1.2 y hy).2.1) (fun l hl y hy => okI_u8 ((o.2.2.1.2 l hl).2 y hy).2.1) o.2.2.1.1, rfl⟩) xs h0
theorem lifted (os : Os) (started : os.Started) (H : Type) (enc : TypeId × Value → H) :
    ReturnsInHanded {} Try.checked os 4 .any (Rows.boxPlansSpec.pre6 enc Try.prog Try.f4 Rows.boxPlansRow.domain false) (Rows.boxPlansSpec.post enc Try.prog Try.f4 false true false false) :=
  Go.Abs.law_lifted (C := Try.checked) Try.own started Try.laidOut (by kernel_rfl) Try.func4
    (ChangeSpec.witness6 (enc := enc) (C := Try.checked) false ⟨#[], #[.slice none 0 0, .slice none 0 0, .slice none 0 0, .slice none 0 0], []⟩ 8 (by kernel_rfl) (by kernel_rfl) (by kernel_rfl) (by kernel_rfl))
    rfl (fun ds h => by
      match ds, h with
      | [_, _, _, _], _ => rfl) (tb := 4) rfl (by kernel_rfl) (d := 10) shapes
    (by kernel_rfl)
    (fun xs h => law_PC xs h)

theorem BoxPlans_holds : Rows.BoxPlansSaid :=
  OpenClaim.holds_of_wide 4 Try.f4 rfl rfl rfl rfl rfl rfl rfl ⟨rfl, rfl, rfl, rfl, rfl⟩ rfl rfl rfl rfl rfl (by kernel_rfl) Try.func4 (by kernel_rfl)
    (of_decide_eq_true (by kernel_rfl)) (by unfold Func.isWrapper; first | (rw [if_pos (by decide +kernel)]; kernel_rfl) | (rw [if_neg (by decide +kernel)]; exact ⟨rfl, rfl⟩))
    (fun os started H enc _ => lifted os started H enc)
end Go.Proofs.Ytadfdnfenimkpaa
