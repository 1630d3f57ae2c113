/- The card of TextDocs holds: for every two documents the program's check, comparison and text are those of the reference; the listed variables are tied to the program's text. -/
import Derived.Test.YtnehmnlcliflfaaDoorRows
import Derived.Test.YtnehmnlcliflfaaDoorCards
import Derived.Test.YtnehmnlcliflfaaDoorTie
import Derived.SevenTiedAt
import Derived.Test.YtnehmnlcliflfaaDoorZ7
import Derived.Test.YtnehmnlcliflfaaDoorS8
set_option linter.unusedSimpArgs false
set_option linter.unusedVariables false
namespace Go.Proofs.YtnehmnlcliflfaaDoor
open Go.ChangeShapes Go.WideShapes Go.ChangeAt Go.RowKit Go.Abs

theorem Tryd.own : ownKnob Tryd.prog.godebug = none := by kernel_rfl
theorem Tryd.laidOut : laidOutB Tryd.prog = true := by kernel_rfl
theorem shapes : Tryd.f3.params.toList.mapM (shapeOf Tryd.prog 10) = some [(.st [.sl (.st [.str, .sl (.st [.int .i64, .st [.int .i64, .st [.int .i64, .int .i64, .int .i64], .int .u8, .int .u8]])])]), (.st [.sl (.st [.str, .sl (.st [.int .i64, .st [.int .i64, .st [.int .i64, .int .i64, .int .i64], .int .u8, .int .u8]])])])] := by kernel_rfl
theorem law_PC (xs : List AV) (h0 : EncPs [(.st [.sl (.st [.str, .sl (.st [.int .i64, .st [.int .i64, .st [.int .i64, .int .i64, .int .i64], .int .u8, .int .u8]])])]), (.st [.sl (.st [.str, .sl (.st [.int .i64, .st [.int .i64, .st [.int .i64, .int .i64, .int .i64], .int .u8, .int .u8]])])])] xs) : PC Tryd.prog 3 xs (· = .sc (.bool true)) :=
  law_of law02_TextDocs_C_ok (by kernel_rfl) (fun x o => ⟨true, law02_TextDocs_eq x.1 x.2 (fun s hs l hl => ⟨okI_u8 ((o.1.2 s hs).2.2 l hl).2.2.2.1, okI_u8 ((o.1.2 s hs).2.2 l hl).2.2.2.2⟩), rfl⟩) xs h0
theorem door_met (os : Os) (args : Array Value) : laidMetH Tryd.prog Rows.textDocsRow.laid ((World.doorLaid Tryd.prog 400 os).forCall (fun _ _ => 0) ⟨#[], args, []⟩).memory :=
  laidMetH_of_parts3 (fuel := 8) (laidMet_of_run' 8 (by kernel_rfl) (by kernel_rfl)) (by kernel_rfl) (by kernel_rfl)
theorem pins (W : World) (h : laidMetH Tryd.prog Rows.textDocsRow.laid W) : ∀ b x, GPin b = some x → PinAt x W.heap[b]? := by
  rw [MakeChecks.laidMetH_plain _ _ _ (by kernel_rfl)] at h
  have h3 := h.tail.tail
  have ht := Lib.tabIs_of_head (k := .u64) (zs := Lib.pow10Tab) (g := 0) (t := 136) (e := 128) (n := 20) (by kernel_rfl) (by kernel_rfl) (by kernel_rfl) (by kernel_rfl) (by kernel_rfl) (by kernel_rfl) (rest := []) h3
  intro b x hx
  match b, hx with
  | 0, hx => cases hx; exact pin_tab (by kernel_rfl) ht
theorem lifted (os : Os) (started : os.Started) (H : Type) (enc : TypeId × Value → H) :
    ReturnsInHanded {} Tryd.checked os 3 .any (fun w args => (Rows.textDocsSpec.pre enc Tryd.prog Tryd.f3 [] false w args ∧ laidMetH Tryd.prog Rows.textDocsRow.laid w) ∧ sizedMet enc Tryd.prog Tryd.f3 (OpenSpec.ofChange Rows.textDocsSpec) false w args) (Rows.textDocsSpec.post enc Tryd.prog Tryd.f3 false true false false) :=
  Go.Abs.law_lifted_laid (C := Tryd.checked) Tryd.own started Tryd.laidOut (by kernel_rfl) Tryd.func3
    (ChangeSpec.witness_shaped (enc := enc) (C := Tryd.checked) (os := os) (X := fun w _ => laidMetH Tryd.prog Rows.textDocsRow.laid w) false (World.doorLaid Tryd.prog 400 os) #[.agg #[.slice none 0 0], .agg #[.slice none 0 0]] 8 rfl (World.shaped_of_RefB (by kernel_rfl) (by kernel_rfl)) (by kernel_rfl) (by kernel_rfl) (by kernel_rfl) (door_met os _))
    rfl (fun ds h => by
      match ds, h with
      | [_, _], _ => rfl) (tb := 4) rfl (by kernel_rfl) (d := 10) shapes
    (by kernel_rfl)
    (fun xs h => law_PC xs h) pins
theorem TextDocs_row : Rows.TextDocsSaid :=
  OpenClaim.holds_of_wide 3 Tryd.f3 rfl rfl rfl rfl rfl rfl rfl ⟨rfl, rfl, rfl, rfl, rfl⟩ rfl rfl rfl rfl rfl (by kernel_rfl) Tryd.func3 (by kernel_rfl)
    (of_decide_eq_true (by kernel_rfl)) (by unfold Func.isWrapper; first | (rw [if_pos (by decide +kernel)]; kernel_rfl) | (rw [if_neg (by decide +kernel)]; exact ⟨rfl, rfl⟩))
    (fun os started H enc _ => lifted os started H enc)
theorem TextDocs_holds : Rows.TextDocsCardSaid :=
  Claim7.holds_tied_plain_at .later [] [.data, .data, .data] true (true, "41af167fa6b86ef0108ebf5b70967b5507065377d60ee73990022813bc748487") true
    TextDocs_row (fun _ h => by cases h) (by kernel_rfl) (fun _ h => by cases h) textDocs_row_tie rfl ⟨rfl, rfl⟩ (by kernel_rfl) rfl
    (fun f fn hf hfn => by
      obtain rfl : f = 3 := Option.some.inj ((show Tryd.prog.funcNamed Rows.textDocsRow.func = some 3 by kernel_rfl).symm.trans hf) |>.symm
      obtain rfl : fn = Tryd.f3 := (Option.some.inj (Tryd.func3.symm.trans hfn)).symm
      exact ⟨by kernel_rfl, fun j t ht => by
        rw [Tryd.params3] at ht
        have hm : t ∈ [24, 24] := by simpa using Array.mem_of_getElem? ht
        have hall : ([24, 24].all fun u => !Tryd.prog.wantsStandIn u) = true := by kernel_rfl
        exact (show Tryd.prog.wantsStandIn t = false by simpa using List.all_eq_true.1 hall t hm)⟩)
    (by kernel_rfl)
end Go.Proofs.YtnehmnlcliflfaaDoor
