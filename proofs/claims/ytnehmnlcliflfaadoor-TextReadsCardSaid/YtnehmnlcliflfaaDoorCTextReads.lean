/- The card of TextReads holds: for every text the document that the program reads, the wrong line, or the error, are those of the reference; the listed variables are tied to the program's text. -/
import Derived.Test.YtnehmnlcliflfaaDoorRows
import Derived.Test.YtnehmnlcliflfaaDoorCards
import Derived.Test.YtnehmnlcliflfaaDoorTie
import Derived.SevenTiedAt
import Derived.Lay
import Derived.Stop.LaidErr
import Derived.Test.YtnehmnlcliflfaaDoorZ7
import Derived.Test.YtnehmnlcliflfaaDoorS8
import Derived.Test.YtnehmnlcliflfaaDoorS9

set_option linter.unusedSimpArgs false
set_option linter.unusedVariables false
namespace Go.Proofs.YtnehmnlcliflfaaDoor
open Go.ChangeShapes Go.WideShapes Go.ChangeAt Go.RowKit Go.Abs

theorem Tryd.own : ownKnob Tryd.prog.godebug = none := by kernel_rfl
theorem Tryd.laidOut : laidOutB Tryd.prog = true := by kernel_rfl
theorem shapes : Tryd.f4.params.toList.mapM (shapeOf Tryd.prog 10) = some [.str] := by kernel_rfl
theorem law_PC (xs : List AV) (h0 : EncPs [.str] xs) : PC Tryd.prog 4 xs (· = .sc (.bool true)) :=
  law_of law02_TextReads_C_ok (by kernel_rfl) (fun x o => ⟨true, TextReads_eq x, rfl⟩) xs h0
theorem door_met (os : Os) (args : Array Value) : laidMetH Tryd.prog Rows.textReadsRow.laid ((World.laidAll Tryd.prog os Rows.textReadsRow.laid).forCall (fun _ _ => 0) ⟨#[], args, []⟩).memory := by
  rw [MakeChecks.laidMetH_plain _ _ _ (by kernel_rfl)]; exact laidMet_laidAll _ (by kernel_rfl) (by kernel_rfl)
def errName {H : Type} : DataW H → String
  | .iface n _ => n
  | _ => ""
theorem row163 (u : TypeId) (h : Tryd.prog.typeName? 3 u = some (errName (Rows.laid_strconv_ErrRange (H := Unit)))) : u = 163 :=
  typeName_ptr_named (nm := "errors.errorString") (by kernel_rfl) (by kernel_rfl) (by decide) u (h.trans (congrArg some (by decide)))
theorem pin_var {P : Program} {W : World} {name : String} {g : Nat} {t : TypeId} {p : Value} (hg : P.globalNamed name = some g) (h : W.var? P name = some #[.iface t p]) : PinAt (fun c => ∃ t p, c = #[Value.iface t p]) W.heap[g]? := by
  unfold World.var? at h
  rw [hg] at h
  simp only [Option.bind_some] at h
  split at h
  · rename_i cs T f e
    exact ⟨cs, T, f, e, _, _, Option.some.inj h⟩
  · cases h
theorem pins (W : World) (h : laidMetH Tryd.prog Rows.textReadsRow.laid W) : ∀ b x, GPin b = some x → PinAt x W.heap[b]? := by
  rw [MakeChecks.laidMetH_plain _ _ _ (by kernel_rfl)] at h
  have h3 := h.tail.tail
  have ht := Lib.tabIs_of_head (k := .u64) (zs := Lib.pow10Tab) (g := 0) (t := 136) (e := 128) (n := 20) (by kernel_rfl) (by kernel_rfl) (by kernel_rfl) (by kernel_rfl) (by kernel_rfl) (by kernel_rfl) h3
  obtain ⟨a1, s1, hr, _⟩ := laid_sentinel (g := 5) (ti := 49) (tp := 163) (te := 165) (ts := 9) h3.tail.tail (by kernel_rfl) (by kernel_rfl) Tryd.underlying49 row163 Tryd.underlying163 Tryd.underlying165 rfl rfl Tryd.underlying9 (by kernel_rfl) (by kernel_rfl)
  obtain ⟨a2, s2, hs, _⟩ := laid_sentinel (g := 4) (ti := 49) (tp := 163) (te := 165) (ts := 9) h3.tail.tail.tail (by kernel_rfl) (by kernel_rfl) Tryd.underlying49 row163 Tryd.underlying163 Tryd.underlying165 rfl rfl Tryd.underlying9 (by kernel_rfl) (by kernel_rfl)
  intro b x hx
  match b, hx with
  | 0, hx => cases hx; exact pin_tab (by kernel_rfl) ht
  | 4, hx => cases hx; exact pin_var (by kernel_rfl) hs
  | 5, hx => cases hx; exact pin_var (by kernel_rfl) hr
theorem lifted (os : Os) (started : os.Started) (H : Type) (enc : TypeId × Value → H) :
    ReturnsInHanded {} Tryd.checked os 4 .any (fun w args => (Rows.textReadsSpec.pre enc Tryd.prog Tryd.f4 [] false w args ∧ laidMetH Tryd.prog Rows.textReadsRow.laid w) ∧ sizedMet enc Tryd.prog Tryd.f4 (OpenSpec.ofChange Rows.textReadsSpec) false w args) (Rows.textReadsSpec.post enc Tryd.prog Tryd.f4 false true false false) :=
  Go.Abs.law_lifted_laid (C := Tryd.checked) Tryd.own started Tryd.laidOut (by kernel_rfl) Tryd.func4
    (ChangeSpec.witness_shaped (enc := enc) (C := Tryd.checked) (os := os) (X := fun w _ => laidMetH Tryd.prog Rows.textReadsRow.laid w) false (World.laidAll Tryd.prog os Rows.textReadsRow.laid) #[.string ⟨#[]⟩] 8 (World.laidAll_os _ _ _) (World.shaped_of_ZipB (by kernel_rfl) (by kernel_rfl)) (by kernel_rfl) (by kernel_rfl) (by kernel_rfl) (door_met os _))
    rfl (fun ds h => by
      match ds, h with
      | [_], _ => rfl) (tb := 4) rfl (by kernel_rfl) (d := 10) shapes
    (by kernel_rfl)
    (fun xs h => law_PC xs h) pins
theorem TextReads_row : Rows.TextReadsSaid :=
  OpenClaim.holds_of_wide 4 Tryd.f4 rfl rfl rfl rfl rfl rfl rfl ⟨rfl, rfl, rfl, rfl, rfl⟩ rfl rfl rfl rfl rfl (by kernel_rfl) Tryd.func4 (by kernel_rfl)
    (of_decide_eq_true (by kernel_rfl)) (by unfold Func.isWrapper; first | (rw [if_pos (by decide +kernel)]; kernel_rfl) | (rw [if_neg (by decide +kernel)]; exact ⟨rfl, rfl⟩))
    (fun os started H enc _ => lifted os started H enc)
theorem TextReads_holds : Rows.TextReadsCardSaid :=
  Claim7.holds_tied_plain_at .later [] [.data, .data, .data, .data, .sentinel, .sentinel, .pinned] true (true, "41af167fa6b86ef0108ebf5b70967b5507065377d60ee73990022813bc748487") true
    TextReads_row (fun _ h => by cases h) (by kernel_rfl) (fun _ h => by cases h) textReads_row_tie rfl ⟨rfl, rfl⟩ (by kernel_rfl) rfl
    (fun f fn hf hfn => by
      obtain rfl : f = 4 := Option.some.inj ((show Tryd.prog.funcNamed Rows.textReadsRow.func = some 4 by kernel_rfl).symm.trans hf) |>.symm
      obtain rfl : fn = Tryd.f4 := (Option.some.inj (Tryd.func4.symm.trans hfn)).symm
      exact ⟨by kernel_rfl, fun j t ht => by
        rw [Tryd.params4] at ht
        have hm : t ∈ [9] := by simpa using Array.mem_of_getElem? ht
        have hall : ([9].all fun u => !Tryd.prog.wantsStandIn u) = true := by kernel_rfl
        exact (show Tryd.prog.wantsStandIn t = false by simpa using List.all_eq_true.1 hall t hm)⟩)
    (by kernel_rfl)
end Go.Proofs.YtnehmnlcliflfaaDoor
