/- The function SortChances returns true for every input: the checks of tables, the chances, and what is wrong, are those of the reference. -/
import Derived.Test.YtmcfapchpedbgaaRows
import Derived.Test.YtmcfapchpedbgaaSW2b
import Derived.Test.YtmcfapchpedbgaaSB3
set_option linter.unusedSimpArgs false
set_option linter.unusedVariables false
namespace Go.Proofs.Ytmcfapchpedbgaa
open Go.ChangeShapes Go.WideShapes Go.ChangeAt Go.RowKit Go.Abs

theorem Try.own : ownKnob Try.prog.godebug = none := by kernel_rfl
theorem Try.laidOut : laidOutB Try.prog = true := by kernel_rfl
theorem shapes : Try.f4.params.toList.mapM (shapeOf Try.prog 10) = some [(.sl (.sl (.int .i64))), (.int .i64), (.int .i64), (.sl (.int .i64)), (.sl (.int .i64))] := by kernel_rfl
theorem law_PC (xs : List AV) (h0 : EncPs [(.sl (.sl (.int .i64))), (.int .i64), (.int .i64), (.sl (.int .i64)), (.sl (.int .i64))] xs) : PC Try.prog 4 xs (· = .sc (.bool true)) := by
  obtain ⟨a0, r0, rfl, e0, h1⟩ := encPs_cons h0
  obtain ⟨a1, r1, rfl, e1, h2⟩ := encPs_cons h1
  obtain ⟨a2, r2, rfl, e2, h3⟩ := encPs_cons h2
  obtain ⟨a3, r3, rfl, e3, h4⟩ := encPs_cons h3
  obtain ⟨a4, r4, rfl, e4, h5⟩ := encPs_cons h4
  cases encPs_nil h5
  obtain ⟨x0, rfl, o0⟩ := decP_sl (dec_sl dec_i64) e0
  obtain ⟨x1, rfl, o1⟩ := decP_i64 e1
  obtain ⟨x2, rfl, o2⟩ := decP_i64 e2
  obtain ⟨x3, rfl, o3⟩ := decP_sl dec_i64 e3
  obtain ⟨x4, rfl, o4⟩ := decP_sl dec_i64 e4
  exact law09_SortChances_PC (law09_SortChances_eq x0 x1 x2 x3 x4)
theorem lifted (os : Os) (started : os.Started) (H : Type) (enc : TypeId × Value → H) :
    ReturnsInHanded {} Try.checked os 4 .any (Rows.sortChancesSpec.pre6 enc Try.prog Try.f4 Rows.sortChancesRow.domain false) (Rows.sortChancesSpec.post enc Try.prog Try.f4 false true false false) :=
  Go.Abs.law_lifted (C := Try.checked) Try.own started Try.laidOut (by kernel_rfl) Try.func4
    (ChangeSpec.witness6 (enc := enc) (C := Try.checked) false ⟨#[], #[.slice none 0 0, .int .i64 0, .int .i64 0, .slice none 0 0, .slice none 0 0], []⟩ 8 (by kernel_rfl) (by kernel_rfl) (by kernel_rfl) (by kernel_rfl))
    rfl (fun ds h => by
      match ds, h with
      | [_, _, _, _, _], _ => rfl) (tb := 4) rfl (by kernel_rfl) (d := 10) shapes
    (by kernel_rfl)
    (fun xs h => law_PC xs h)

theorem SortChances_holds : Rows.SortChancesSaid :=
  OpenClaim.holds_of_wide 4 Try.f4 rfl rfl rfl rfl rfl rfl rfl ⟨rfl, rfl, rfl, rfl, rfl⟩ rfl rfl rfl rfl rfl (by kernel_rfl) Try.func4 (by kernel_rfl)
    (of_decide_eq_true (by kernel_rfl)) (by unfold Func.isWrapper; first | (rw [if_pos (by decide +kernel)]; kernel_rfl) | (rw [if_neg (by decide +kernel)]; exact ⟨rfl, rfl⟩))
    (fun os started H enc _ => lifted os started H enc)
end Go.Proofs.Ytmcfapchpedbgaa

