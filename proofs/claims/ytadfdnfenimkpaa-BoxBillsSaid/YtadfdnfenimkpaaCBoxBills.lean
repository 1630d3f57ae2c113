/- The function BoxBills returns true for every input: the bill, or the error, is that of the reference, and the lists stay. -/
import Derived.Test.YtadfdnfenimkpaaRows
import Derived.Test.YtadfdnfenimkpaaZ7
import Derived.Test.YtadfdnfenimkpaaS8
import Derived.Test.YtadfdnfenimkpaaS9
set_option linter.unusedSimpArgs false
set_option linter.unusedVariables false
namespace Go.Proofs.Ytadfdnfenimkpaa
open Go.ChangeShapes Go.WideShapes Go.ChangeAt Go.RowKit Go.Abs

theorem Try.own : ownKnob Try.prog.godebug = none := by kernel_rfl
theorem Try.laidOut : laidOutB Try.prog = true := by kernel_rfl
theorem shapes : Try.f5.params.toList.mapM (shapeOf Try.prog 10) = some [(.sl (.st [.int .i64, .int .u8, .int .i64])), (.sl (.st [.int .i64, .int .u8, .int .i64])), (.sl (.st [.int .i64, .int .u8, .int .i64, .int .u8])), (.sl (.st [.int .i64, .int .u8, .int .i64]))] := by kernel_rfl
theorem law_PC (xs : List AV) (h0 : EncPs [(.sl (.st [.int .i64, .int .u8, .int .i64])), (.sl (.st [.int .i64, .int .u8, .int .i64])), (.sl (.st [.int .i64, .int .u8, .int .i64, .int .u8])), (.sl (.st [.int .i64, .int .u8, .int .i64]))] xs) : PC Try.prog 5 xs (· = .sc (.bool true)) :=
  law_of law08_BoxBills_C_ok (by kernel_rfl) (fun x o => ⟨true, law08_BoxBills_eq x.1 x.2.1 x.2.2.1 x.2.2.2, rfl⟩) xs h0
theorem lifted (os : Os) (started : os.Started) (H : Type) (enc : TypeId × Value → H) :
    ReturnsInHanded {} Try.checked os 5 .any (Rows.boxBillsSpec.pre6 enc Try.prog Try.f5 Rows.boxBillsRow.domain false) (Rows.boxBillsSpec.post enc Try.prog Try.f5 false true false false) :=
  Go.Abs.law_lifted (C := Try.checked) Try.own started Try.laidOut (by kernel_rfl) Try.func5
    (ChangeSpec.witness6 (enc := enc) (C := Try.checked) false ⟨#[], #[.slice none 0 0, .slice none 0 0, .slice none 0 0, .slice none 0 0], []⟩ 8 (by kernel_rfl) (by kernel_rfl) (by kernel_rfl) (by kernel_rfl))
    rfl (fun ds h => by
      match ds, h with
      | [_, _, _, _], _ => rfl) (tb := 4) rfl (by kernel_rfl) (d := 10) shapes
    (by kernel_rfl)
    (fun xs h => law_PC xs h)

theorem BoxBills_holds : Rows.BoxBillsSaid :=
  OpenClaim.holds_of_wide 5 Try.f5 rfl rfl rfl rfl rfl rfl rfl ⟨rfl, rfl, rfl, rfl, rfl⟩ rfl rfl rfl rfl rfl (by kernel_rfl) Try.func5 (by kernel_rfl)
    (of_decide_eq_true (by kernel_rfl)) (by unfold Func.isWrapper; first | (rw [if_pos (by decide +kernel)]; kernel_rfl) | (rw [if_neg (by decide +kernel)]; exact ⟨rfl, rfl⟩))
    (fun os started H enc _ => lifted os started H enc)
end Go.Proofs.Ytadfdnfenimkpaa
