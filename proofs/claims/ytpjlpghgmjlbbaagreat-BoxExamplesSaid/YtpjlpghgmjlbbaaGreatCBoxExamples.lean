/- The function BoxExamples returns true: limits, numbers of errors and examples. -/
import Derived.Test.YtpjlpghgmjlbbaaGreatRows
import Derived.Test.YtpjlpghgmjlbbaaGreatZ7
import Derived.Test.YtpjlpghgmjlbbaaGreatS8
set_option linter.unusedSimpArgs false
set_option linter.unusedVariables false
namespace Go.Proofs.YtpjlpghgmjlbbaaGreat
open Go.ChangeShapes Go.WideShapes Go.ChangeAt Go.RowKit Go.Abs

theorem Tryz.own : ownKnob Tryz.prog.godebug = none := by kernel_rfl
theorem Tryz.laidOut : laidOutB Tryz.prog = true := by kernel_rfl
theorem shapes : Tryz.f12.params.toList.mapM (shapeOf Tryz.prog 10) = some [] := by kernel_rfl
theorem law_PC (xs : List AV) (h0 : EncPs [] xs) : PC Tryz.prog 12 xs (· = .sc (.bool true)) :=
  law_of law08_BoxExamples_C_ok (by kernel_rfl) (fun x o => ⟨true, law08_BoxExamples_eq, rfl⟩) xs h0
theorem lifted (os : Os) (started : os.Started) (H : Type) (enc : TypeId × Value → H) :
    ReturnsInHanded {} Tryz.checked os 12 .any (Rows.boxExamplesSpec.pre6 enc Tryz.prog Tryz.f12 Rows.boxExamplesRow.domain false) (Rows.boxExamplesSpec.post enc Tryz.prog Tryz.f12 false true false false) :=
  Go.Abs.law_lifted (C := Tryz.checked) Tryz.own started Tryz.laidOut (by kernel_rfl) Tryz.func12
    (ChangeSpec.witness6 (enc := enc) (C := Tryz.checked) false ⟨#[], #[], []⟩ 8 (by kernel_rfl) (by kernel_rfl) (by kernel_rfl) (by kernel_rfl))
    rfl (fun ds h => by
      match ds, h with
      | [], _ => rfl) (tb := 4) rfl (by kernel_rfl) (d := 10) shapes
    (by kernel_rfl)
    (fun xs h => law_PC xs h)

theorem BoxExamples_holds : Rows.BoxExamplesSaid :=
  OpenClaim.holds_of_wide 12 Tryz.f12 rfl rfl rfl rfl rfl rfl rfl ⟨rfl, rfl, rfl, rfl, rfl⟩ rfl rfl rfl rfl rfl (by kernel_rfl) Tryz.func12 (by kernel_rfl)
    (of_decide_eq_true (by kernel_rfl)) (by unfold Func.isWrapper; first | (rw [if_pos (by decide +kernel)]; kernel_rfl) | (rw [if_neg (by decide +kernel)]; exact ⟨rfl, rfl⟩))
    (fun os started H enc _ => lifted os started H enc)
end Go.Proofs.YtpjlpghgmjlbbaaGreat
