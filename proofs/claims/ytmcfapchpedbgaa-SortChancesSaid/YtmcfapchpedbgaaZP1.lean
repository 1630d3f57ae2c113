/- Plain facts on the Lean functions that tr.py prints. -/
import Derived.Test.YtmcfapchpedbgaaZE3
set_option linter.unusedSimpArgs false
set_option linter.unusedVariables false
namespace Go.Abs
open Go

theorem gi_cast {α : Type} {l : List α} {i : Nat} (h : i < l.length) : gi l (i : Int) = some l[i] := by rw [gi_nat, List.getElem?_eq_getElem h]
theorem gi_none {α : Type} {l : List α} {i : Int} (h : i < 0 ∨ (l.length : Int) ≤ i) : gi l i = none := by
  unfold gi
  split
  · rw [List.getElem?_eq_none]; omega
  · rfl
theorem gi_some {α : Type} {l : List α} {i : Int} (h0 : 0 ≤ i) (h1 : i < l.length) : gi l i = some (l[i.toNat]'(by omega)) := by
  unfold gi
  rw [if_pos h0, List.getElem?_eq_getElem]
@[simp] theorem toNat_sub_zero (n : Nat) : Int.toNat ((n : Int) - 0) = n := by omega
theorem sub1_cast {i : Nat} (h : 0 < i) (hb : (i : Int) ≤ 9223372036854775807) : w64 ((i : Int) - 1) = ((i - 1 : Nat) : Int) := by rw [w64_id (by omega) (by omega)]; omega
theorem add1_cast {i : Nat} : ((i : Int) + 1) = ((i + 1 : Nat) : Int) := by omega

end Go.Abs
