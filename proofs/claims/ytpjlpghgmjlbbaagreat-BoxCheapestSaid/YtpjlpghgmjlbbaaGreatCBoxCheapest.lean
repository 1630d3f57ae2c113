/- The function BoxCheapest returns true for every input: no filling leaves less to pay than the cost of the bill. -/
import Derived.Test.YtpjlpghgmjlbbaaGreatRows
import Derived.Test.YtpjlpghgmjlbbaaGreatZ7
import Derived.Test.YtpjlpghgmjlbbaaGreatS8
import Derived.Test.YtpjlpghgmjlbbaaGreatS10
set_option linter.unusedSimpArgs false
set_option linter.unusedVariables false
namespace Go.Proofs.YtpjlpghgmjlbbaaGreat
open Go.ChangeShapes Go.WideShapes Go.ChangeAt Go.RowKit Go.Abs

theorem Tryz.own : ownKnob Tryz.prog.godebug = none := by kernel_rfl
theorem Tryz.laidOut : laidOutB Tryz.prog = true := by kernel_rfl
theorem shapes : Tryz.f5.params.toList.mapM (shapeOf Tryz.prog 10) = some [(.sl (.st [.int .i64, .int .u8, .int .i64])), (.sl (.st [.int .i64, .int .u8, .int .i64])), (.sl (.st [.int .i64, .int .u8, .int .i64, .int .u8])), (.sl (.st [.int .i64, .int .u8, .int .i64])), (.sl (.st [.int .i64, .int .i64, .int .i64]))] := by kernel_rfl
theorem law_PC (xs : List AV) (h0 : EncPs [(.sl (.st [.int .i64, .int .u8, .int .i64])), (.sl (.st [.int .i64, .int .u8, .int .i64])), (.sl (.st [.int .i64, .int .u8, .int .i64, .int .u8])), (.sl (.st [.int .i64, .int .u8, .int .i64])), (.sl (.st [.int .i64, .int .i64, .int .i64]))] xs) : PC Tryz.prog 5 xs (· = .sc (.bool true)) :=
  law_of law08_BoxCheapest_C_ok (by kernel_rfl) (fun x o => ⟨true, law08_BoxCheapest_eq x.1 x.2.1 x.2.2.1 x.2.2.2.1 x.2.2.2.2, rfl⟩) xs h0
theorem lifted (os : Os) (started : os.Started) (H : Type) (enc : TypeId × Value → H) :
    ReturnsInHanded {} Tryz.checked os 5 .any (Rows.boxCheapestSpec.pre6 enc Tryz.prog Tryz.f5 Rows.boxCheapestRow.domain false) (Rows.boxCheapestSpec.post enc Tryz.prog Tryz.f5 false true false false) :=
  Go.Abs.law_lifted (C := Tryz.checked) Tryz.own started Tryz.laidOut (by kernel_rfl) Tryz.func5
    (ChangeSpec.witness6 (enc := enc) (C := Tryz.checked) false ⟨#[], #[.slice none 0 0, .slice none 0 0, .slice none 0 0, .slice none 0 0, .slice none 0 0], []⟩ 8 (by kernel_rfl) (by kernel_rfl) (by kernel_rfl) (by kernel_rfl))
    rfl (fun ds h => by
      match ds, h with
      | [_, _, _, _, _], _ => rfl) (tb := 4) rfl (by kernel_rfl) (d := 10) shapes
    (by kernel_rfl)
    (fun xs h => law_PC xs h)

theorem BoxCheapest_holds : Rows.BoxCheapestSaid :=
  OpenClaim.holds_of_wide 5 Tryz.f5 rfl rfl rfl rfl rfl rfl rfl ⟨rfl, rfl, rfl, rfl, rfl⟩ rfl rfl rfl rfl rfl (by kernel_rfl) Tryz.func5 (by kernel_rfl)
    (of_decide_eq_true (by kernel_rfl)) (by unfold Func.isWrapper; first | (rw [if_pos (by decide +kernel)]; kernel_rfl) | (rw [if_neg (by decide +kernel)]; exact ⟨rfl, rfl⟩))
    (fun os started H enc _ => lifted os started H enc)
end Go.Proofs.YtpjlpghgmjlbbaaGreat
