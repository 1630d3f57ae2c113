/- The functions and the law, part 6. -/
import Derived.Test.YtmcfapchpedbgaaProg
import Derived.Test.YtmcfapchpedbgaaZ3
import Derived.Test.YtmcfapchpedbgaaZ5
set_option linter.constructorNameAsVariable false
set_option linter.unusedVariables false
set_option linter.unusedSimpArgs false
/- The Go functions as Lean functions. -/
set_option linter.unusedVariables false
namespace Go.Abs
open Go
@[reducible] def tBoundsError : Ty := (.pr (.i .i64) (.pr (.i .i64) (.pr .b (.i .u8))))
abbrev BoundsError := (Int × Int × Bool × Int)
@[reducible] def tBelt : Ty := (.pr (.i .i64) (.pr (.i .i64) (.pr (.i .i64) (.pr (.sl (.pr (.i .i64) (.i .i64))) (.sl (.i .i64))))))
abbrev Belt := (Int × Int × Int × (List (Int × Int)) × (List Int))
@[reducible] def tFed : Ty := (.pr (.i .i64) (.pr (.i .i64) (.sl (.i .i64))))
abbrev Fed := (Int × Int × (List Int))
@[reducible] def tPile : Ty := (.pr (.i .i64) (.sl (.i .i64)))
abbrev Pile := (Int × (List Int))
@[reducible] def tLine : Ty := (.pr tBelt (.sl tFed))
abbrev Line := (Belt × (List Fed))

def sort_from_c1 (x0 : Int) (x1 : Int) (x2 : Int) : Option Bool :=
  (if (decide (x0 < x1)) = true then (some true) else (some (decide (x2 < x0))))

def slices_IndexFunc_s_int_int_L0 (x0 : (List Int)) (x1 : (Int → Option Bool)) (v0 : Int) : Option (Int ⊕ (Int ⊕ Unit)) :=
  (if (decide (v0 < (lenI x0))) = true then ((gi x0 v0).bind fun v1 => ((x1 v1).bind fun v2 => (if v2 = true then (some (.inr (.inl v0))) else (some (.inl (w64 (v0 + 1))))))) else (some (.inr (.inr ()))))

def slices_IndexFunc_s_int_int (x0 : (List Int)) (x1 : (Int → Option Bool)) : Option Int :=
  ((iter (slices_IndexFunc_s_int_int_L0 x0 x1) 0).bind fun v3 => (match v3 with | .inl v4 => (some v4) | .inr v5 => (some (-1))))

def slices_ContainsFunc_s_int_int (x0 : (List Int)) (x1 : (Int → Option Bool)) : Option Bool :=
  ((slices_IndexFunc_s_int_int x0 x1).bind fun v0 => (some (decide (0 ≤ v0))))

def sort_from (x0 : Int) (x1 : Int) (x2 : (List Int)) : Option Bool :=
  ((slices_ContainsFunc_s_int_int x2 (fun (u0 : Int) => ((sort_from_c1 u0 x0 x1).bind fun u1 => (some u1)))).bind fun v0 => (some (!v0)))

def sort_numbered (x0 : (List Int)) (x1 : Int) : Option Bool :=
  ((sort_from 2 8 [x1]).bind fun v0 => (if v0 = true then ((sort_from 1 12 [(lenI x0)]).bind fun v1 => (if v1 = true then ((sort_from 0 1000 x0).bind fun v2 => (some v2)) else (some false))) else (some false)))

def sort_Cost_L0 (x2 : Int) (v2 : (Int × Int)) : Option ((Int × Int) ⊕ Int) :=
  (if (decide (v2.1 < 11)) = true then (some (.inl ((w64 (v2.1 + 1)), (w64 (v2.2 * x2))))) else (some (.inr v2.2)))

def sort_Cost_L2 (x2 : Int) (v5 : Int) (v6 : (Int × Int)) : Option ((Int × Int) ⊕ Int) :=
  (if (decide (v6.1 < v5)) = true then ((gquo .i64 v6.2 x2).bind fun v7 => (some (.inl ((w64 (v6.1 + 1)), v7)))) else (some (.inr v6.2)))

def sort_Cost_L1 (x0 : (List Int)) (x1 : (List Int)) (x2 : Int) (v3 : Int) (v4 : (Int × Int × Int)) : Option ((Int × Int × Int) ⊕ (Int × Int)) :=
  (if (decide (v4.1 < (lenI x1))) = true then ((gi x1 v4.1).bind fun v5 => ((iter (sort_Cost_L2 x2 v5) (0, v3)).bind fun v8 => ((gi x0 v4.1).bind fun v9 => (some (.inl ((w64 (v4.1 + 1)), (w64 (v4.2.1 - v8)), (w64 (v4.2.2 + (w64 (v9 * v5)))))))))) else (some (.inr v4.2)))

def sort_Cost (x0 : (List Int)) (x1 : (List Int)) (x2 : Int) : Option (Int × Int) :=
  ((sort_numbered x0 x2).bind fun v0 => (if (!v0) = true then (some (0, 2)) else (if ((lenI x1) != (lenI x0)) = true then (some (0, 2)) else ((sort_from 0 11 x1).bind fun v1 => (if (!v1) = true then (some (0, 2)) else ((iter (sort_Cost_L0 x2) (0, 1)).bind fun v3 => ((iter (sort_Cost_L1 x0 x1 x2 v3) (0, v3, 0)).bind fun v10 => (if (decide (v10.1 < 0)) = true then (some (0, 6)) else (some (v10.2, 0))))))))))

def ref09_within (x0 : Int) (x1 : Int) (x2 : Int) : Option Bool :=
  (if (decide (x1 ≤ x0)) = true then (some (decide (x0 ≤ x2))) else (some false))

def ref09_Numbers_L0 (x0 : (List Int)) (v2 : Int) : Option (Int ⊕ (Bool ⊕ Unit)) :=
  (if (decide (v2 < (lenI x0))) = true then ((gi x0 v2).bind fun v3 => ((ref09_within v3 0 1000).bind fun v4 => (if (!v4) = true then (some (.inr (.inl false))) else (some (.inl (w64 (v2 + 1))))))) else (some (.inr (.inr ()))))

def ref09_Numbers (x0 : (List Int)) (x1 : Int) : Option Bool :=
  ((ref09_within x1 2 8).bind fun v0 => (if (!v0) = true then (some false) else ((ref09_within (lenI x0) 1 12).bind fun v1 => (if (!v1) = true then (some false) else ((iter (ref09_Numbers_L0 x0) 0).bind fun v5 => (match v5 with | .inl v6 => (some v6) | .inr v7 => (some true)))))))

def ref09_Can_L1 (x0 : (List Int)) (v0 : (Int × Int)) (v1 : (Int × Int)) : Option ((Int × Int) ⊕ Int) :=
  (if (decide (v1.1 < (lenI x0))) = true then ((gi x0 v1.1).bind fun v2 => (if (v2 == v0.1) = true then (some (.inl ((w64 (v1.1 + 1)), (w64 (v1.2 - 1))))) else (some (.inl ((w64 (v1.1 + 1)), v1.2))))) else (some (.inr v1.2)))

def ref09_Can_L0 (x0 : (List Int)) (x1 : Int) (v0 : (Int × Int)) : Option ((Int × Int) ⊕ (Bool ⊕ Unit)) :=
  (if (decide (v0.1 ≤ 11)) = true then ((iter (ref09_Can_L1 x0 v0) (0, v0.2)).bind fun v3 => (if (decide (v3 < 0)) = true then (some (.inr (.inl false))) else (some (.inl ((w64 (v0.1 + 1)), (imin (w64 (v3 * x1)) 100)))))) else (some (.inr (.inr ()))))

def ref09_Can (x0 : (List Int)) (x1 : Int) : Option Bool :=
  ((iter (ref09_Can_L0 x0 x1) (0, 1)).bind fun v4 => (match v4 with | .inl v5 => (some v5) | .inr v6 => (some true)))

def ref09_Cost_L0 (x0 : (List Int)) (x1 : (List Int)) (v1 : (Int × Int)) : Option ((Int × Int) ⊕ ((Int × Int) ⊕ Int)) :=
  (if (decide (v1.1 < (lenI x1))) = true then ((gi x1 v1.1).bind fun v2 => ((ref09_within v2 0 11).bind fun v3 => (if (!v3) = true then (some (.inr (.inl (0, 2)))) else ((gi x0 v1.1).bind fun v4 => ((gi x1 v1.1).bind fun v5 => (some (.inl ((w64 (v1.1 + 1)), (w64 (v1.2 + (w64 (v4 * v5)))))))))))) else (some (.inr (.inr v1.2))))

def ref09_Cost (x0 : (List Int)) (x1 : (List Int)) (x2 : Int) : Option (Int × Int) :=
  ((ref09_Numbers x0 x2).bind fun v0 => (if (!v0) = true then (some (0, 2)) else (if ((lenI x1) != (lenI x0)) = true then (some (0, 2)) else ((iter (ref09_Cost_L0 x0 x1) (0, 0)).bind fun v6 => (match v6 with | .inl v7 => (some v7) | .inr v8 => ((ref09_Can x1 x2).bind fun v9 => (if (!v9) = true then (some (0, 6)) else (some (v8, 0)))))))))

def cmp_Or_int_L0 (x0 : (List Int)) (v0 : Int) : Option (Int ⊕ (Int ⊕ Unit)) :=
  (if (decide (v0 < (lenI x0))) = true then ((gi x0 v0).bind fun v1 => (if (v1 != 0) = true then (some (.inr (.inl v1))) else (some (.inl (w64 (v0 + 1)))))) else (some (.inr (.inr ()))))

def cmp_Or_int (x0 : (List Int)) : Option Int :=
  ((iter (cmp_Or_int_L0 x0) 0).bind fun v2 => (match v2 with | .inl v3 => (some v3) | .inr v4 => (some 0)))

def sort_Plan_c1 (x0 : Pile) (x1 : Pile) : Option Int :=
  ((cmp_Or_int [(w64 (x0.1 - x1.1)), (w64 ((lenI x0.2) - (lenI x1.2)))]).bind fun v0 => (some v0))

def slices_BinarySearchFunc_s_sort_pile_sort_pile_sort_pile_L0 (x0 : (List Pile)) (x1 : Pile) (x2 : ((Pile × Pile) → Option Int)) (v0 : (Int × Int)) : Option ((Int × Int) ⊕ Int) :=
  (if (decide (v0.1 < v0.2)) = true then ((gshr .u64 (IntKind.wrap .u64 (w64 (v0.1 + v0.2))) 1).bind fun v1 => ((gi x0 (w64 v1)).bind fun v2 => ((x2 (v2, x1)).bind fun v3 => (if (decide (v3 < 0)) = true then (some (.inl ((w64 ((w64 v1) + 1)), v0.2))) else (some (.inl (v0.1, (w64 v1)))))))) else (some (.inr v0.1)))

def slices_BinarySearchFunc_s_sort_pile_sort_pile_sort_pile (x0 : (List Pile)) (x1 : Pile) (x2 : ((Pile × Pile) → Option Int)) : Option (Int × Bool) :=
  ((iter (slices_BinarySearchFunc_s_sort_pile_sort_pile_sort_pile_L0 x0 x1 x2) (0, (lenI x0))).bind fun v4 => (if (decide (v4 < (lenI x0))) = true then ((gi x0 v4).bind fun v5 => ((x2 (v5, x1)).bind fun v6 => (some (v4, (v6 == 0))))) else (some (v4, false))))

def slices_insertionSortCmpFunc_sort_pile_m0_L1 (x0 : Int) (x2 : ((Pile × Pile) → Option Int)) (v1 : (Int × (List Pile))) : Option ((Int × (List Pile)) ⊕ (List Pile)) :=
  (if (decide (x0 < v1.1)) = true then ((gi v1.2 v1.1).bind fun v2 => ((gi v1.2 v1.1).bind fun v3 => ((gi v1.2 (w64 (v1.1 - 1))).bind fun v4 => ((gi v1.2 (w64 (v1.1 - 1))).bind fun v5 => ((x2 (v3, v5)).bind fun v6 => (if (decide (v6 < 0)) = true then ((gi v1.2 (w64 (v1.1 - 1))).bind fun v7 => ((gi v1.2 (w64 (v1.1 - 1))).bind fun v8 => ((gi v1.2 v1.1).bind fun v9 => ((gi v1.2 v1.1).bind fun v10 => ((gi v1.2 v1.1).bind fun v11 => ((gi (lset v1.2 v1.1 v8) (w64 (v1.1 - 1))).bind fun v12 => (some (.inl ((w64 (v1.1 - 1)), (lset (lset v1.2 v1.1 v8) (w64 (v1.1 - 1)) v10)))))))))) else (some (.inr v1.2)))))))) else (some (.inr v1.2)))

def slices_insertionSortCmpFunc_sort_pile_m0_L0 (x0 : Int) (x1 : Int) (x2 : ((Pile × Pile) → Option Int)) (v0 : (Int × (List Pile))) : Option ((Int × (List Pile)) ⊕ (List Pile)) :=
  (if (decide (v0.1 < x1)) = true then ((iter (slices_insertionSortCmpFunc_sort_pile_m0_L1 x0 x2) v0).bind fun v13 => (some (.inl ((w64 (v0.1 + 1)), v13)))) else (some (.inr v0.2)))

def slices_insertionSortCmpFunc_sort_pile_m0 (x0 : Int) (x1 : Int) (x2 : ((Pile × Pile) → Option Int)) (x3 : (List Pile)) : Option (List Pile) :=
  ((iter (slices_insertionSortCmpFunc_sort_pile_m0_L0 x0 x1 x2) ((w64 (x0 + 1)), x3)).bind fun v14 => (some v14))

def slices_swapRangeCmpFunc_sort_pile_m1_L0 (x0 : Int) (x1 : Int) (x2 : Int) (v0 : (Int × (List Pile))) : Option ((Int × (List Pile)) ⊕ (List Pile)) :=
  (if (decide (v0.1 < x2)) = true then ((gi v0.2 (w64 (x1 + v0.1))).bind fun v1 => ((gi v0.2 (w64 (x1 + v0.1))).bind fun v2 => ((gi v0.2 (w64 (x0 + v0.1))).bind fun v3 => ((gi v0.2 (w64 (x0 + v0.1))).bind fun v4 => ((gi v0.2 (w64 (x0 + v0.1))).bind fun v5 => ((gi (lset v0.2 (w64 (x0 + v0.1)) v2) (w64 (x1 + v0.1))).bind fun v6 => (some (.inl ((w64 (v0.1 + 1)), (lset (lset v0.2 (w64 (x0 + v0.1)) v2) (w64 (x1 + v0.1)) v4)))))))))) else (some (.inr v0.2)))

def slices_swapRangeCmpFunc_sort_pile_m1 (x0 : Int) (x1 : Int) (x2 : Int) (x3 : ((Pile × Pile) → Option Int)) (x4 : (List Pile)) : Option (List Pile) :=
  ((iter (slices_swapRangeCmpFunc_sort_pile_m1_L0 x0 x1 x2) (0, x4)).bind fun v7 => (some v7))

def slices_rotateCmpFunc_sort_pile_m2_L0 (x1 : Int) (x3 : ((Pile × Pile) → Option Int)) (v0 : (Int × Int × (List Pile))) : Option ((Int × Int × (List Pile)) ⊕ (Int × (List Pile))) :=
  (if (v0.1 != v0.2.1) = true then (if (decide (v0.2.1 < v0.1)) = true then ((slices_swapRangeCmpFunc_sort_pile_m1 (w64 (x1 - v0.1)) x1 v0.2.1 x3 v0.2.2).bind fun v1 => (some (.inl ((w64 (v0.1 - v0.2.1)), v0.2.1, v1)))) else ((slices_swapRangeCmpFunc_sort_pile_m1 (w64 (x1 - v0.1)) (w64 ((w64 (x1 + v0.2.1)) - v0.1)) v0.1 x3 v0.2.2).bind fun v2 => (some (.inl (v0.1, (w64 (v0.2.1 - v0.1)), v2))))) else (some (.inr (v0.1, v0.2.2))))

def slices_rotateCmpFunc_sort_pile_m2 (x0 : Int) (x1 : Int) (x2 : Int) (x3 : ((Pile × Pile) → Option Int)) (x4 : (List Pile)) : Option (List Pile) :=
  ((iter (slices_rotateCmpFunc_sort_pile_m2_L0 x1 x3) ((w64 (x1 - x0)), (w64 (x2 - x1)), x4)).bind fun v3 => ((slices_swapRangeCmpFunc_sort_pile_m1 (w64 (x1 - v3.1)) x1 v3.1 x3 v3.2).bind fun v4 => (some v4)))

def slices_symMergeCmpFunc_sort_pile_m3_L0 (x0 : Int) (x3 : ((Pile × Pile) → Option Int)) (x4 : (List Pile)) (v0 : (Int × Int)) : Option ((Int × Int) ⊕ Int) :=
  (if (decide (v0.1 < v0.2)) = true then ((gshr .u64 (IntKind.wrap .u64 (w64 (v0.1 + v0.2))) 1).bind fun v1 => ((gi x4 (w64 v1)).bind fun v2 => ((gi x4 (w64 v1)).bind fun v3 => ((gi x4 x0).bind fun v4 => ((gi x4 x0).bind fun v5 => ((x3 (v3, v5)).bind fun v6 => (if (decide (v6 < 0)) = true then (some (.inl ((w64 ((w64 v1) + 1)), v0.2))) else (some (.inl (v0.1, (w64 v1))))))))))) else (some (.inr v0.1)))

def slices_symMergeCmpFunc_sort_pile_m3_L1 (v7 : Int) (v8 : (Int × (List Pile))) : Option ((Int × (List Pile)) ⊕ (List Pile)) :=
  (if (decide (v8.1 < (w64 (v7 - 1)))) = true then ((gi v8.2 (w64 (v8.1 + 1))).bind fun v9 => ((gi v8.2 (w64 (v8.1 + 1))).bind fun v10 => ((gi v8.2 v8.1).bind fun v11 => ((gi v8.2 v8.1).bind fun v12 => ((gi v8.2 v8.1).bind fun v13 => ((gi (lset v8.2 v8.1 v10) (w64 (v8.1 + 1))).bind fun v14 => (some (.inl ((w64 (v8.1 + 1)), (lset (lset v8.2 v8.1 v10) (w64 (v8.1 + 1)) v12)))))))))) else (some (.inr v8.2)))

def slices_symMergeCmpFunc_sort_pile_m3_L2 (x1 : Int) (x3 : ((Pile × Pile) → Option Int)) (x4 : (List Pile)) (v16 : (Int × Int)) : Option ((Int × Int) ⊕ Int) :=
  (if (decide (v16.1 < v16.2)) = true then ((gshr .u64 (IntKind.wrap .u64 (w64 (v16.1 + v16.2))) 1).bind fun v17 => ((gi x4 x1).bind fun v18 => ((gi x4 x1).bind fun v19 => ((gi x4 (w64 v17)).bind fun v20 => ((gi x4 (w64 v17)).bind fun v21 => ((x3 (v19, v21)).bind fun v22 => (if (!(decide (v22 < 0))) = true then (some (.inl ((w64 ((w64 v17) + 1)), v16.2))) else (some (.inl (v16.1, (w64 v17))))))))))) else (some (.inr v16.1)))

def slices_symMergeCmpFunc_sort_pile_m3_L3 (v23 : Int) (v24 : (Int × (List Pile))) : Option ((Int × (List Pile)) ⊕ (List Pile)) :=
  (if (decide (v23 < v24.1)) = true then ((gi v24.2 (w64 (v24.1 - 1))).bind fun v25 => ((gi v24.2 (w64 (v24.1 - 1))).bind fun v26 => ((gi v24.2 v24.1).bind fun v27 => ((gi v24.2 v24.1).bind fun v28 => ((gi v24.2 v24.1).bind fun v29 => ((gi (lset v24.2 v24.1 v26) (w64 (v24.1 - 1))).bind fun v30 => (some (.inl ((w64 (v24.1 - 1)), (lset (lset v24.2 v24.1 v26) (w64 (v24.1 - 1)) v28)))))))))) else (some (.inr v24.2)))

def slices_symMergeCmpFunc_sort_pile_m3_L4 (x1 : Int) (x3 : ((Pile × Pile) → Option Int)) (x4 : (List Pile)) (v32 : Int) (v34 : (Int × Int)) : Option ((Int × Int) ⊕ Int) :=
  (if (decide (v34.1 < v34.2)) = true then ((gshr .u64 (IntKind.wrap .u64 (w64 (v34.1 + v34.2))) 1).bind fun v35 => ((gi x4 (w64 ((w64 ((w64 ((w64 v32) + x1)) - 1)) - (w64 v35)))).bind fun v36 => ((gi x4 (w64 ((w64 ((w64 ((w64 v32) + x1)) - 1)) - (w64 v35)))).bind fun v37 => ((gi x4 (w64 v35)).bind fun v38 => ((gi x4 (w64 v35)).bind fun v39 => ((x3 (v37, v39)).bind fun v40 => (if (!(decide (v40 < 0))) = true then (some (.inl ((w64 ((w64 v35) + 1)), v34.2))) else (some (.inl (v34.1, (w64 v35))))))))))) else (some (.inr v34.1)))

def slices_symMergeCmpFunc_sort_pile_m3_S (rec_slices_symMergeCmpFunc_sort_pile_m3 : Int → Int → Int → ((Pile × Pile) → Option Int) → (List Pile) → Option (List Pile)) (x0 : Int) (x1 : Int) (x2 : Int) (x3 : ((Pile × Pile) → Option Int)) (x4 : (List Pile)) : Option (List Pile) :=
  (if ((w64 (x1 - x0)) == 1) = true then ((iter (slices_symMergeCmpFunc_sort_pile_m3_L0 x0 x3 x4) (x1, x2)).bind fun v7 => ((iter (slices_symMergeCmpFunc_sort_pile_m3_L1 v7) (x0, x4)).bind fun v15 => (some v15))) else (if ((w64 (x2 - x1)) == 1) = true then ((iter (slices_symMergeCmpFunc_sort_pile_m3_L2 x1 x3 x4) (x0, x1)).bind fun v23 => ((iter (slices_symMergeCmpFunc_sort_pile_m3_L3 v23) (x1, x4)).bind fun v31 => (some v31))) else ((gshr .u64 (IntKind.wrap .u64 (w64 (x0 + x2))) 1).bind fun v32 => ((if (decide ((w64 v32) < x1)) = true then (some ((w64 ((w64 ((w64 v32) + x1)) - x2)), (w64 v32))) else (some (x0, x1))).bind fun v33 => ((iter (slices_symMergeCmpFunc_sort_pile_m3_L4 x1 x3 x4 v32) v33).bind fun v41 => ((if (decide (v41 < x1)) = true then (some (decide (x1 < (w64 ((w64 ((w64 v32) + x1)) - v41))))) else (some false)).bind fun v42 => ((if v42 = true then ((slices_rotateCmpFunc_sort_pile_m2 v41 x1 (w64 ((w64 ((w64 v32) + x1)) - v41)) x3 x4).bind fun v43 => (some v43)) else (some x4)).bind fun v44 => ((if (decide (x0 < v41)) = true then (some (decide (v41 < (w64 v32)))) else (some false)).bind fun v45 => ((if v45 = true then ((rec_slices_symMergeCmpFunc_sort_pile_m3 x0 v41 (w64 v32) x3 v44).bind fun v46 => (some v46)) else (some v44)).bind fun v47 => (if (decide ((w64 v32) < (w64 ((w64 ((w64 v32) + x1)) - v41)))) = true then (if (decide ((w64 ((w64 ((w64 v32) + x1)) - v41)) < x2)) = true then ((rec_slices_symMergeCmpFunc_sort_pile_m3 (w64 v32) (w64 ((w64 ((w64 v32) + x1)) - v41)) x2 x3 v47).bind fun v48 => (some v48)) else (some v47)) else (some v47)))))))))))
def slices_symMergeCmpFunc_sort_pile_m3_R : Nat → Int → Int → Int → ((Pile × Pile) → Option Int) → (List Pile) → Option (List Pile)
  | 0, _, _, _, _, _ => none
  | k + 1, x0, x1, x2, x3, x4 => slices_symMergeCmpFunc_sort_pile_m3_S (slices_symMergeCmpFunc_sort_pile_m3_R k) x0 x1 x2 x3 x4
def slices_symMergeCmpFunc_sort_pile_m3 (x0 : Int) (x1 : Int) (x2 : Int) (x3 : ((Pile × Pile) → Option Int)) (x4 : (List Pile)) : Option (List Pile) := slices_symMergeCmpFunc_sort_pile_m3_R 1000000 x0 x1 x2 x3 x4

def slices_stableCmpFunc_sort_pile_m4_L0 (x0 : Int) (x1 : ((Pile × Pile) → Option Int)) (v0 : (Int × Int × (List Pile))) : Option ((Int × Int × (List Pile)) ⊕ (Int × (List Pile))) :=
  (if (decide (v0.1 ≤ x0)) = true then ((slices_insertionSortCmpFunc_sort_pile_m0 v0.2.1 v0.1 x1 v0.2.2).bind fun v1 => (some (.inl ((w64 (v0.1 + 20)), v0.1, v1)))) else (some (.inr v0.2)))

def slices_stableCmpFunc_sort_pile_m4_L2 (x0 : Int) (x1 : ((Pile × Pile) → Option Int)) (v4 : (Int × (List Pile))) (v5 : (Int × Int × (List Pile))) : Option ((Int × Int × (List Pile)) ⊕ (Int × (List Pile))) :=
  (if (decide (v5.1 ≤ x0)) = true then ((slices_symMergeCmpFunc_sort_pile_m3 v5.2.1 (w64 (v5.2.1 + v4.1)) v5.1 x1 v5.2.2).bind fun v6 => (some (.inl ((w64 (v5.1 + (w64 (2 * v4.1)))), v5.1, v6)))) else (some (.inr v5.2)))

def slices_stableCmpFunc_sort_pile_m4_L1 (x0 : Int) (x1 : ((Pile × Pile) → Option Int)) (v4 : (Int × (List Pile))) : Option ((Int × (List Pile)) ⊕ (List Pile)) :=
  (if (decide (v4.1 < x0)) = true then ((iter (slices_stableCmpFunc_sort_pile_m4_L2 x0 x1 v4) ((w64 (2 * v4.1)), 0, v4.2)).bind fun v7 => (if (decide ((w64 (v7.1 + v4.1)) < x0)) = true then ((slices_symMergeCmpFunc_sort_pile_m3 v7.1 (w64 (v7.1 + v4.1)) x0 x1 v7.2).bind fun v8 => (some (.inl ((w64 (v4.1 * 2)), v8)))) else (some (.inl ((w64 (v4.1 * 2)), v7.2))))) else (some (.inr v4.2)))

def slices_stableCmpFunc_sort_pile_m4 (x0 : Int) (x1 : ((Pile × Pile) → Option Int)) (x2 : (List Pile)) : Option (List Pile) :=
  ((iter (slices_stableCmpFunc_sort_pile_m4_L0 x0 x1) (20, 0, x2)).bind fun v2 => ((slices_insertionSortCmpFunc_sort_pile_m0 v2.1 x0 x1 v2.2).bind fun v3 => ((iter (slices_stableCmpFunc_sort_pile_m4_L1 x0 x1) (20, v3)).bind fun v9 => (some v9))))

def slices_SortStableFunc_s_sort_pile_sort_pile_m5 (x0 : ((Pile × Pile) → Option Int)) (x1 : (List Pile)) : Option (List Pile) :=
  ((slices_stableCmpFunc_sort_pile_m4 (lenI x1) x0 x1).bind fun v0 => (some v0))

def sort_ordered_sort_pile_m6 (x0 : ((Pile × Pile) → Option Int)) (x1 : (List Pile)) : Option (List Pile) :=
  ((slices_SortStableFunc_s_sort_pile_sort_pile_m5 x0 x1).bind fun v0 => (some v0))

def sort_Plan_L0 (x0 : (List Int)) (v1 : (Int × (List Pile))) : Option ((Int × (List Pile)) ⊕ (List Pile)) :=
  (if (decide (v1.1 < (lenI x0))) = true then ((gi x0 v1.1).bind fun v2 => ((gapp v1.2 [(v2, [v1.1])]).bind fun v3 => (some (.inl ((w64 (v1.1 + 1)), v3))))) else (some (.inr v1.2)))

def sort_Plan_L1 (x1 : Int) (v5 : (List Pile)) : Option ((List Pile) ⊕ (List Pile)) :=
  ((grem (w64 ((lenI v5) - 1)) (w64 (x1 - 1))).bind fun v6 => (if (v6 != 0) = true then ((gapp v5 [(0, [])]).bind fun v7 => (some (.inl v7))) else (some (.inr v5))))

def sort_Plan_L3 (x1 : Int) (v11 : (Int × (List Pile) × (List Int))) (v13 : Fed) : Option (Fed ⊕ Pile) :=
  (if (decide (v13.1 < (x1 - 0))) = true then ((gmi 0 (x1 - 0) v13.1).bind fun v14 => ((gi v11.2.1 v14).bind fun v15 => ((gapp v13.2.2 v15.2).bind fun v16 => (some (.inl ((w64 (v13.1 + 1)), (w64 (v13.2.1 + v15.1)), v16)))))) else (some (.inr v13.2)))

def sort_Plan_L4 (v17 : Pile) (v18 : Pile) : Option (Pile ⊕ (List Int)) :=
  (if (decide (v18.1 < (lenI v17.2))) = true then ((gi v17.2 v18.1).bind fun v19 => ((gi v17.2 v18.1).bind fun v20 => ((gi v18.2 v20).bind fun v21 => ((gi v18.2 v20).bind fun v22 => ((gi v18.2 v20).bind fun v23 => (some (.inl ((w64 (v18.1 + 1)), (lset v18.2 v20 (w64 (v22 + 1))))))))))) else (some (.inr v18.2)))

def sort_Plan_L2 (x1 : Int) (v11 : (Int × (List Pile) × (List Int))) : Option ((Int × (List Pile) × (List Int)) ⊕ Pile) :=
  (if (decide (1 < (lenI v11.2.1))) = true then ((gsl v11.2.1 0 x1).bind fun v12 => ((iter (sort_Plan_L3 x1 v11) (0, 0, [])).bind fun v17 => ((iter (sort_Plan_L4 v17) (0, v11.2.2)).bind fun v24 => ((gsl v11.2.1 x1 (lenI v11.2.1)).bind fun v25 => ((slices_BinarySearchFunc_s_sort_pile_sort_pile_sort_pile ((List.drop (Int.toNat x1) v11.2.1).take (Int.toNat ((lenI v11.2.1) - x1))) v17 (fun (u0 : (Pile × Pile)) => ((sort_Plan_c1 u0.1 u0.2).bind fun u1 => (some u1)))).bind fun v26 => ((gmk (w64 (((lenI v11.2.1) - x1) + 1)) (0, [])).bind fun v27 => ((gmb ((lenI v11.2.1) - x1) 0 v26.1).bind fun v28 => ((gi (lcopy v27 0 (lenI v27) ((List.drop (Int.toNat (x1 + 0)) v11.2.1).take (Int.toNat (v26.1 - 0)))) v26.1).bind fun v29 => ((gsl (lset (lcopy v27 0 (lenI v27) ((List.drop (Int.toNat (x1 + 0)) v11.2.1).take (Int.toNat (v26.1 - 0)))) v26.1 v17) (w64 (v26.1 + 1)) (lenI (lset (lcopy v27 0 (lenI v27) ((List.drop (Int.toNat (x1 + 0)) v11.2.1).take (Int.toNat (v26.1 - 0)))) v26.1 v17))).bind fun v30 => ((gmb ((lenI v11.2.1) - x1) v26.1 ((lenI v11.2.1) - x1)).bind fun v31 => (some (.inl ((w64 (v11.1 + v17.1)), (lcopy2 (lset (lcopy v27 0 (lenI v27) ((List.drop (Int.toNat (x1 + 0)) v11.2.1).take (Int.toNat (v26.1 - 0)))) v26.1 v17) ((w64 (v26.1 + 1)), ((lenI (lset (lcopy v27 0 (lenI v27) ((List.drop (Int.toNat (x1 + 0)) v11.2.1).take (Int.toNat (v26.1 - 0)))) v26.1 v17)) - (w64 (v26.1 + 1)))) ((List.drop (Int.toNat (x1 + v26.1)) v11.2.1).take (Int.toNat (((lenI v11.2.1) - x1) - v26.1)))), v24))))))))))))) else (some (.inr (v11.1, v11.2.2))))

def sort_Plan (x0 : (List Int)) (x1 : Int) : Option ((List Int) × Int × Int) :=
  ((sort_numbered x0 x1).bind fun v0 => (if (!v0) = true then (some ([], 0, 2)) else ((iter (sort_Plan_L0 x0) (0, [])).bind fun v4 => ((iter (sort_Plan_L1 x1) v4).bind fun v8 => ((gmk (lenI x0) 0).bind fun v9 => ((sort_ordered_sort_pile_m6 (fun (u0 : (Pile × Pile)) => ((sort_Plan_c1 u0.1 u0.2).bind fun u1 => (some u1))) v8).bind fun v10 => ((iter (sort_Plan_L2 x1) (0, v10, v9)).bind fun v32 => (some (v32.2, v32.1, 0)))))))))

def ref09_Cheapest_L0 (x1 : Int) (v1 : (List Int)) : Option ((List Int) ⊕ (List Int)) :=
  ((grem (w64 ((lenI v1) - 1)) (w64 (x1 - 1))).bind fun v2 => (if (v2 != 0) = true then ((gapp v1 [0]).bind fun v3 => (some (.inl v3))) else (some (.inr v1))))

def ref09_Cheapest_L3 (v6 : Fed) (v7 : (Int × Int)) : Option ((Int × Int) ⊕ Int) :=
  (if (decide (v7.1 < (lenI v6.2.2))) = true then ((gi v6.2.2 v7.1).bind fun v8 => ((gi v6.2.2 v7.1).bind fun v9 => ((gi v6.2.2 v7.2).bind fun v10 => ((gi v6.2.2 v7.2).bind fun v11 => (if (decide (v9 < v11)) = true then (some (.inl ((w64 (v7.1 + 1)), v7.1))) else (some (.inl ((w64 (v7.1 + 1)), v7.2)))))))) else (some (.inr v7.2)))

def ref09_Cheapest_L2 (x1 : Int) (v6 : Fed) : Option (Fed ⊕ Pile) :=
  (if (decide (v6.1 < x1)) = true then ((iter (ref09_Cheapest_L3 v6) (0, 0)).bind fun v12 => ((gi v6.2.2 v12).bind fun v13 => ((gi v6.2.2 v12).bind fun v14 => ((gsl v6.2.2 0 v12).bind fun v15 => ((gapp [] ((List.drop (Int.toNat 0) v6.2.2).take (Int.toNat (v12 - 0)))).bind fun v16 => ((gsl v6.2.2 (w64 (v12 + 1)) (lenI v6.2.2)).bind fun v17 => ((gapp v16 ((List.drop (Int.toNat (w64 (v12 + 1))) v6.2.2).take (Int.toNat ((lenI v6.2.2) - (w64 (v12 + 1)))))).bind fun v18 => (some (.inl ((w64 (v6.1 + 1)), (w64 (v6.2.1 + v14)), v18)))))))))) else (some (.inr v6.2)))

def ref09_Cheapest_L1 (x1 : Int) (v5 : Pile) : Option (Pile ⊕ Int) :=
  (if (decide (1 < (lenI v5.2))) = true then ((iter (ref09_Cheapest_L2 x1) (0, 0, v5.2)).bind fun v19 => ((gapp v19.2 [v19.1]).bind fun v20 => (some (.inl ((w64 (v5.1 + v19.1)), v20))))) else (some (.inr v5.1)))

def ref09_Cheapest (x0 : (List Int)) (x1 : Int) : Option Int :=
  ((gapp [] x0).bind fun v0 => ((iter (ref09_Cheapest_L0 x1) v0).bind fun v4 => ((iter (ref09_Cheapest_L1 x1) (0, v4)).bind fun v21 => (some v21))))

def law09_SortCosts (x0 : (List Int)) (x1 : (List Int)) (x2 : Int) : Option Bool :=
  (if (decide (20 < (lenI x0))) = true then (some true) else (if (decide (20 < (lenI x1))) = true then (some true) else ((sort_Cost x0 x1 x2).bind fun v0 => ((ref09_Cost x0 x1 x2).bind fun v1 => ((sort_Plan x0 x2).bind fun v2 => (if (v0.1 != v1.1) = true then (some false) else (if (v0.2 != v1.2) = true then (some false) else ((ref09_Numbers x0 x2).bind fun v3 => (if (!v3) = true then ((if (v2.2.2 == 2) = true then (if ((lenI v2.1) == 0) = true then (some (v2.2.1 == 0)) else (some false)) else (some false)).bind fun v4 => (some v4)) else (if (v2.2.2 == 0) = true then ((ref09_Cheapest x0 x2).bind fun v5 => (some (v2.2.1 == v5))) else (some false)))))))))))


end Go.Abs

/- Each function does as its Lean function says. -/
set_option linter.unusedVariables false
set_option maxRecDepth 100000
namespace Go.Abs
open Go Go.Proofs
def sort_from_c1_C : Ctr := ⟨"", [(.i .i64), (.pt (.i .i64)), (.pt (.i .i64))], [.b], fun x => sort_from_c1 x.1 x.2.1 x.2.2, []⟩
theorem sort_from_c1_C_ok : Good Try.prog 82 sort_from_c1_C :=
  good_of Try.func82 (by kernel_rfl) (An := []) [] (.nil) (fun x => by kernel_rfl)

def slices_IndexFunc_s_int_int_C : Ctr := ⟨"", [(.sl (.i .i64)), (.fn 1 (.i .i64) .b)], [(.i .i64)], fun x => slices_IndexFunc_s_int_int x.1 x.2, []⟩
theorem slices_IndexFunc_s_int_int_C_ok : Good Try.prog 93 slices_IndexFunc_s_int_int_C :=
  good_of Try.func93 (by kernel_rfl) (An := [(0, ⟨⟨[(8, .c (.i .i64))], []⟩, ⟨[], []⟩, [7, 1, 0], [], 0, true, ""⟩)]) [] (.nil) (fun x => by kernel_rfl)

def slices_ContainsFunc_s_int_int_C : Ctr := ⟨"", [(.sl (.i .i64)), (.fn 1 (.i .i64) .b)], [.b], fun x => slices_ContainsFunc_s_int_int x.1 x.2, []⟩
theorem slices_ContainsFunc_s_int_int_C_ok : Good Try.prog 81 slices_ContainsFunc_s_int_int_C :=
  good_of Try.func81 (by kernel_rfl) (An := []) [(93, slices_IndexFunc_s_int_int_C)] (.cons slices_IndexFunc_s_int_int_C_ok <| .nil) (fun x => by kernel_rfl)

def sort_from_C : Ctr := ⟨"", [(.i .i64), (.i .i64), (.sl (.i .i64))], [.b], fun x => sort_from x.1 x.2.1 x.2.2, []⟩
theorem sort_from_C_ok : Good Try.prog 54 sort_from_C :=
  good_of Try.func54 (by kernel_rfl) (An := []) [(81, slices_ContainsFunc_s_int_int_C), (82, sort_from_c1_C)] (.cons slices_ContainsFunc_s_int_int_C_ok <| .cons sort_from_c1_C_ok <| .nil) (fun x => by kernel_rfl)

def sort_numbered_C : Ctr := ⟨"", [(.sl (.i .i64)), (.i .i64)], [.b], fun x => sort_numbered x.1 x.2, []⟩
theorem sort_numbered_C_ok : Good Try.prog 65 sort_numbered_C :=
  good_of Try.func65 (by kernel_rfl) (An := []) [(54, sort_from_C)] (.cons sort_from_C_ok <| .nil) (fun x => by kernel_rfl)

def sort_Cost_C : Ctr := ⟨"", [(.sl (.i .i64)), (.sl (.i .i64)), (.i .i64)], [(.i .i64), (.i .i64)], fun x => sort_Cost x.1 x.2.1 x.2.2, []⟩
theorem sort_Cost_C_ok : Good Try.prog 34 sort_Cost_C :=
  good_of Try.func34 (by kernel_rfl) (An := [(0, ⟨⟨[(30, .c (.i .i64)), (8, .c (.i .i64))], []⟩, ⟨[(8, .c (.i .i64))], []⟩, [2, 1, 0], [], 0, false, ""⟩), (8, ⟨⟨[(39, .c (.i .i64)), (10, .c (.i .i64)), (9, .c (.i .i64))], []⟩, ⟨[(10, .c (.i .i64)), (9, .c (.i .i64))], []⟩, [38, 37, 8, 2, 0], [], 0, false, ""⟩), (16, ⟨⟨[(46, .c (.i .i64)), (13, .c (.i .i64))], []⟩, ⟨[(13, .c (.i .i64))], []⟩, [45, 10, 9, 11, 12, 39], [], 0, false, ""⟩)]) [(65, sort_numbered_C), (54, sort_from_C)] (.cons sort_numbered_C_ok <| .cons sort_from_C_ok <| .nil) (fun x => by kernel_rfl)

def ref09_within_C : Ctr := ⟨"", [(.i .i64), (.i .i64), (.i .i64)], [.b], fun x => ref09_within x.1 x.2.1 x.2.2, []⟩
theorem ref09_within_C_ok : Good Try.prog 57 ref09_within_C :=
  good_of Try.func57 (by kernel_rfl) (An := []) [] (.nil) (fun x => by kernel_rfl)

def ref09_Numbers_C : Ctr := ⟨"", [(.sl (.i .i64)), (.i .i64)], [.b], fun x => ref09_Numbers x.1 x.2, []⟩
theorem ref09_Numbers_C_ok : Good Try.prog 37 ref09_Numbers_C :=
  good_of Try.func37 (by kernel_rfl) (An := [(0, ⟨⟨[(5, .c (.i .i64))], []⟩, ⟨[], []⟩, [0], [], 0, true, ""⟩)]) [(57, ref09_within_C)] (.cons ref09_within_C_ok <| .nil) (fun x => by kernel_rfl)

def ref09_Can_C : Ctr := ⟨"", [(.sl (.i .i64)), (.i .i64)], [.b], fun x => ref09_Can x.1 x.2, []⟩
theorem ref09_Can_C_ok : Good Try.prog 49 ref09_Can_C :=
  good_of Try.func49 (by kernel_rfl) (An := [(0, ⟨⟨[(6, .c (.i .i64)), (5, .c (.i .i64))], []⟩, ⟨[], []⟩, [0, 1], [], 0, true, ""⟩), (8, ⟨⟨[(7, .c (.i .i64)), (5, .c (.i .i64))], []⟩, ⟨[(5, .c (.i .i64))], []⟩, [6], [], 0, false, ""⟩)]) [] (.nil) (fun x => by kernel_rfl)

def ref09_Cost_C : Ctr := ⟨"", [(.sl (.i .i64)), (.sl (.i .i64)), (.i .i64)], [(.i .i64), (.i .i64)], fun x => ref09_Cost x.1 x.2.1 x.2.2, []⟩
theorem ref09_Cost_C_ok : Good Try.prog 35 ref09_Cost_C :=
  good_of Try.func35 (by kernel_rfl) (An := [(0, ⟨⟨[(9, .c (.i .i64)), (8, .c (.i .i64))], []⟩, ⟨[(8, .c (.i .i64))], []⟩, [1, 0, 2], [], 0, true, ""⟩)]) [(49, ref09_Can_C), (37, ref09_Numbers_C), (57, ref09_within_C)] (.cons ref09_Can_C_ok <| .cons ref09_Numbers_C_ok <| .cons ref09_within_C_ok <| .nil) (fun x => by kernel_rfl)

def cmp_Or_int_C : Ctr := ⟨"", [(.sl (.i .i64))], [(.i .i64)], fun x => cmp_Or_int x, []⟩
theorem cmp_Or_int_C_ok : Good Try.prog 67 cmp_Or_int_C :=
  good_of Try.func67 (by kernel_rfl) (An := [(0, ⟨⟨[(8, .c (.i .i64))], []⟩, ⟨[], []⟩, [7, 6, 3], [], 0, true, ""⟩)]) [] (.nil) (fun x => by kernel_rfl)

def sort_Plan_c1_C : Ctr := ⟨"", [tPile, tPile], [(.i .i64)], fun x => sort_Plan_c1 x.1 x.2, []⟩
theorem sort_Plan_c1_C_ok : Good Try.prog 66 sort_Plan_c1_C :=
  good_of Try.func66 (by kernel_rfl) (An := []) [(67, cmp_Or_int_C)] (.cons cmp_Or_int_C_ok <| .nil) (fun x => by kernel_rfl)

def slices_BinarySearchFunc_s_sort_pile_sort_pile_sort_pile_C : Ctr := ⟨"", [(.sl tPile), tPile, (.fn 2 (.pr tPile tPile) (.i .i64))], [(.i .i64), .b], fun x => slices_BinarySearchFunc_s_sort_pile_sort_pile_sort_pile x.1 x.2.1 x.2.2, []⟩
theorem slices_BinarySearchFunc_s_sort_pile_sort_pile_sort_pile_C_ok : Good Try.prog 69 slices_BinarySearchFunc_s_sort_pile_sort_pile_sort_pile_C :=
  good_of Try.func69 (by kernel_rfl) (An := [(0, ⟨⟨[(9, .c (.i .i64)), (10, .c (.i .i64))], []⟩, ⟨[(9, .c (.i .i64))], []⟩, [2, 0, 4, 8], [0], 1, false, ""⟩)]) [] (.nil) (fun x => by kernel_rfl)

def slices_insertionSortCmpFunc_sort_pile_m0_M : CtrM := ⟨"", [none, some (.i .i64), some (.i .i64), some (.fn 2 (.pr tPile tPile) (.i .i64))], ⟨[(0, .mw 0)], [(0, .sl 114 tPile)]⟩, 1, ⟨[(0, .mw 0)], [(0, .sl 114 tPile)]⟩, 1, 0, fun x => slices_insertionSortCmpFunc_sort_pile_m0 x.1 x.2.1 x.2.2.1 x.2.2.2⟩
theorem slices_insertionSortCmpFunc_sort_pile_m0_M_ok : slices_insertionSortCmpFunc_sort_pile_m0_M.ok = true ∧ GoodM Try.prog 100 slices_insertionSortCmpFunc_sort_pile_m0_M :=
  goodM_of Try.func100 (by kernel_rfl) (An := [(0, ⟨⟨[(8, .c (.i .i64))], [(0, .sl 114 tPile)]⟩, ⟨[], [(0, .sl 114 tPile)]⟩, [2, 1, 3], [], 2, false, ""⟩), (8, ⟨⟨[(9, .c (.i .i64))], [(0, .sl 114 tPile)]⟩, ⟨[], [(0, .sl 114 tPile)]⟩, [8], [], 2, false, ""⟩), (27, ⟨⟨[], []⟩, ⟨[], []⟩, [], [], 0, false, ""⟩)]) [] (.nil) (fun x => by kernel_rfl)
def slices_insertionSortCmpFunc_sort_pile_C : Ctr := ⟨"", [], [], fun _ => none, []⟩
theorem slices_insertionSortCmpFunc_sort_pile_C_ok : Good Try.prog 100 slices_insertionSortCmpFunc_sort_pile_C := good_dm
def slices_insertionSortCmpFunc_sort_pile_C0 : Ctr := ⟨"", slices_insertionSortCmpFunc_sort_pile_C.as, slices_insertionSortCmpFunc_sort_pile_C.rs, slices_insertionSortCmpFunc_sort_pile_C.F, slices_insertionSortCmpFunc_sort_pile_m0_M :: slices_insertionSortCmpFunc_sort_pile_C.mus⟩
theorem slices_insertionSortCmpFunc_sort_pile_C0_ok : Good Try.prog 100 slices_insertionSortCmpFunc_sort_pile_C0 := slices_insertionSortCmpFunc_sort_pile_C_ok.more slices_insertionSortCmpFunc_sort_pile_m0_M_ok

def slices_swapRangeCmpFunc_sort_pile_m1_M : CtrM := ⟨"", [none, some (.i .i64), some (.i .i64), some (.i .i64), some (.fn 2 (.pr tPile tPile) (.i .i64))], ⟨[(0, .mw 0)], [(0, .sl 114 tPile)]⟩, 1, ⟨[(0, .mw 0)], [(0, .sl 114 tPile)]⟩, 1, 0, fun x => slices_swapRangeCmpFunc_sort_pile_m1 x.1 x.2.1 x.2.2.1 x.2.2.2.1 x.2.2.2.2⟩
theorem slices_swapRangeCmpFunc_sort_pile_m1_M_ok : slices_swapRangeCmpFunc_sort_pile_m1_M.ok = true ∧ GoodM Try.prog 109 slices_swapRangeCmpFunc_sort_pile_m1_M :=
  goodM_of Try.func109 (by kernel_rfl) (An := [(0, ⟨⟨[(10, .c (.i .i64))], [(0, .sl 114 tPile)]⟩, ⟨[], [(0, .sl 114 tPile)]⟩, [3, 1, 2], [], 2, false, ""⟩), (15, ⟨⟨[], []⟩, ⟨[], []⟩, [], [], 0, false, ""⟩)]) [] (.nil) (fun x => by kernel_rfl)
def slices_swapRangeCmpFunc_sort_pile_C : Ctr := ⟨"", [], [], fun _ => none, []⟩
theorem slices_swapRangeCmpFunc_sort_pile_C_ok : Good Try.prog 109 slices_swapRangeCmpFunc_sort_pile_C := good_dm
def slices_swapRangeCmpFunc_sort_pile_C1 : Ctr := ⟨"", slices_swapRangeCmpFunc_sort_pile_C.as, slices_swapRangeCmpFunc_sort_pile_C.rs, slices_swapRangeCmpFunc_sort_pile_C.F, slices_swapRangeCmpFunc_sort_pile_m1_M :: slices_swapRangeCmpFunc_sort_pile_C.mus⟩
theorem slices_swapRangeCmpFunc_sort_pile_C1_ok : Good Try.prog 109 slices_swapRangeCmpFunc_sort_pile_C1 := slices_swapRangeCmpFunc_sort_pile_C_ok.more slices_swapRangeCmpFunc_sort_pile_m1_M_ok

def slices_rotateCmpFunc_sort_pile_m2_M : CtrM := ⟨"", [none, some (.i .i64), some (.i .i64), some (.i .i64), some (.fn 2 (.pr tPile tPile) (.i .i64))], ⟨[(0, .mw 0)], [(0, .sl 114 tPile)]⟩, 1, ⟨[(0, .mw 0)], [(0, .sl 114 tPile)]⟩, 1, 0, fun x => slices_rotateCmpFunc_sort_pile_m2 x.1 x.2.1 x.2.2.1 x.2.2.2.1 x.2.2.2.2⟩
theorem slices_rotateCmpFunc_sort_pile_m2_M_ok : slices_rotateCmpFunc_sort_pile_m2_M.ok = true ∧ GoodM Try.prog 107 slices_rotateCmpFunc_sort_pile_m2_M :=
  goodM_of Try.func107 (by kernel_rfl) (An := [(0, ⟨⟨[(10, .c (.i .i64)), (11, .c (.i .i64))], [(0, .sl 114 tPile)]⟩, ⟨[(10, .c (.i .i64))], [(0, .sl 114 tPile)]⟩, [2, 4], [], 2, false, ""⟩)]) [(109, slices_swapRangeCmpFunc_sort_pile_C1)] (.cons slices_swapRangeCmpFunc_sort_pile_C1_ok <| .nil) (fun x => by kernel_rfl)
def slices_rotateCmpFunc_sort_pile_C : Ctr := ⟨"", [], [], fun _ => none, []⟩
theorem slices_rotateCmpFunc_sort_pile_C_ok : Good Try.prog 107 slices_rotateCmpFunc_sort_pile_C := good_dm
def slices_rotateCmpFunc_sort_pile_C2 : Ctr := ⟨"", slices_rotateCmpFunc_sort_pile_C.as, slices_rotateCmpFunc_sort_pile_C.rs, slices_rotateCmpFunc_sort_pile_C.F, slices_rotateCmpFunc_sort_pile_m2_M :: slices_rotateCmpFunc_sort_pile_C.mus⟩
theorem slices_rotateCmpFunc_sort_pile_C2_ok : Good Try.prog 107 slices_rotateCmpFunc_sort_pile_C2 := slices_rotateCmpFunc_sort_pile_C_ok.more slices_rotateCmpFunc_sort_pile_m2_M_ok

def slices_symMergeCmpFunc_sort_pile_m3_MR (k : Nat) : CtrM := ⟨"", [none, some (.i .i64), some (.i .i64), some (.i .i64), some (.fn 2 (.pr tPile tPile) (.i .i64))], ⟨[(0, .mw 0)], [(0, .sl 114 tPile)]⟩, 1, ⟨[(0, .mw 0)], [(0, .sl 114 tPile)]⟩, 1, 0, fun x => slices_symMergeCmpFunc_sort_pile_m3_R k x.1 x.2.1 x.2.2.1 x.2.2.2.1 x.2.2.2.2⟩
theorem slices_symMergeCmpFunc_sort_pile_m3_okR : ∀ k, (slices_symMergeCmpFunc_sort_pile_m3_MR k).ok = true ∧ GoodM Try.prog 101 (slices_symMergeCmpFunc_sort_pile_m3_MR k)
  | 0 => goodM_none (by kernel_rfl) (fun x => rfl)
  | k + 1 => goodM_of Try.func101 (by kernel_rfl) (An := [(0, ⟨⟨[(10, .c (.i .i64)), (11, .c (.i .i64))], []⟩, ⟨[(10, .c (.i .i64))], []⟩, [4, 1], [0], 1, false, ""⟩), (8, ⟨⟨[(13, .c (.i .i64))], [(0, .sl 114 tPile)]⟩, ⟨[], [(0, .sl 114 tPile)]⟩, [10], [], 2, false, ""⟩), (47, ⟨⟨[], []⟩, ⟨[], []⟩, [], [], 0, false, ""⟩), (16, ⟨⟨[(14, .c (.i .i64)), (15, .c (.i .i64))], []⟩, ⟨[(14, .c (.i .i64))], []⟩, [4, 2], [0], 1, false, ""⟩), (24, ⟨⟨[(17, .c (.i .i64))], [(0, .sl 114 tPile)]⟩, ⟨[], [(0, .sl 114 tPile)]⟩, [14], [], 2, false, ""⟩), (95, ⟨⟨[], []⟩, ⟨[], []⟩, [], [], 0, false, ""⟩), (561, ⟨⟨[], []⟩, ⟨[(20, .c (.i .i64)), (21, .c (.i .i64))], []⟩, [19, 3, 18, 4, 2, 1], [0], 1, false, ""⟩), (32, ⟨⟨[(20, .c (.i .i64)), (21, .c (.i .i64))], []⟩, ⟨[(20, .c (.i .i64))], []⟩, [4, 22, 19, 2, 1, 18, 3], [0], 1, false, ""⟩), (158, ⟨⟨[], []⟩, ⟨[(185, .c .b)], []⟩, [20, 2, 24, 4, 1, 18, 3], [0], 1, false, ""⟩), (741, ⟨⟨[], [(0, .sl 114 tPile)]⟩, ⟨[], [(0, .sl 114 tPile)]⟩, [20, 2, 24, 4, 1, 18, 3], [], 2, false, ""⟩), (166, ⟨⟨[], []⟩, ⟨[(199, .c .b)], []⟩, [1, 20, 18, 4, 24, 3], [0], 2, false, ""⟩), (797, ⟨⟨[], [(0, .sl 114 tPile)]⟩, ⟨[], [(0, .sl 114 tPile)]⟩, [1, 20, 18, 4, 24, 3], [], 3, false, ""⟩)]) ((101, ⟨"", [], [], fun _ => none, [slices_symMergeCmpFunc_sort_pile_m3_MR k]⟩) :: [(107, slices_rotateCmpFunc_sort_pile_C2)]) (.cons (good_dm.more (slices_symMergeCmpFunc_sort_pile_m3_okR k)) <| .cons slices_rotateCmpFunc_sort_pile_C2_ok <| .nil) (fun x => by kernel_rfl)
def slices_symMergeCmpFunc_sort_pile_m3_M : CtrM := ⟨"", [none, some (.i .i64), some (.i .i64), some (.i .i64), some (.fn 2 (.pr tPile tPile) (.i .i64))], ⟨[(0, .mw 0)], [(0, .sl 114 tPile)]⟩, 1, ⟨[(0, .mw 0)], [(0, .sl 114 tPile)]⟩, 1, 0, fun x => slices_symMergeCmpFunc_sort_pile_m3 x.1 x.2.1 x.2.2.1 x.2.2.2.1 x.2.2.2.2⟩
theorem slices_symMergeCmpFunc_sort_pile_m3_M_ok : slices_symMergeCmpFunc_sort_pile_m3_M.ok = true ∧ GoodM Try.prog 101 slices_symMergeCmpFunc_sort_pile_m3_M := slices_symMergeCmpFunc_sort_pile_m3_okR 1000000
def slices_symMergeCmpFunc_sort_pile_C : Ctr := ⟨"", [], [], fun _ => none, []⟩
theorem slices_symMergeCmpFunc_sort_pile_C_ok : Good Try.prog 101 slices_symMergeCmpFunc_sort_pile_C := good_dm
def slices_symMergeCmpFunc_sort_pile_C3 : Ctr := ⟨"", slices_symMergeCmpFunc_sort_pile_C.as, slices_symMergeCmpFunc_sort_pile_C.rs, slices_symMergeCmpFunc_sort_pile_C.F, slices_symMergeCmpFunc_sort_pile_m3_M :: slices_symMergeCmpFunc_sort_pile_C.mus⟩
theorem slices_symMergeCmpFunc_sort_pile_C3_ok : Good Try.prog 101 slices_symMergeCmpFunc_sort_pile_C3 := slices_symMergeCmpFunc_sort_pile_C_ok.more slices_symMergeCmpFunc_sort_pile_m3_M_ok

def slices_stableCmpFunc_sort_pile_m4_M : CtrM := ⟨"", [none, some (.i .i64), some (.fn 2 (.pr tPile tPile) (.i .i64))], ⟨[(0, .mw 0)], [(0, .sl 114 tPile)]⟩, 1, ⟨[(0, .mw 0)], [(0, .sl 114 tPile)]⟩, 1, 0, fun x => slices_stableCmpFunc_sort_pile_m4 x.1 x.2.1 x.2.2⟩
theorem slices_stableCmpFunc_sort_pile_m4_M_ok : slices_stableCmpFunc_sort_pile_m4_M.ok = true ∧ GoodM Try.prog 94 slices_stableCmpFunc_sort_pile_m4_M :=
  goodM_of Try.func94 (by kernel_rfl) (An := [(0, ⟨⟨[(8, .c (.i .i64)), (7, .c (.i .i64))], [(0, .sl 114 tPile)]⟩, ⟨[(7, .c (.i .i64))], [(0, .sl 114 tPile)]⟩, [1, 2, 6], [], 2, false, ""⟩), (8, ⟨⟨[(6, .c (.i .i64))], [(0, .sl 114 tPile)]⟩, ⟨[], [(0, .sl 114 tPile)]⟩, [1, 2], [], 3, false, ""⟩), (16, ⟨⟨[(8, .c (.i .i64)), (7, .c (.i .i64))], [(0, .sl 114 tPile)]⟩, ⟨[(7, .c (.i .i64))], [(0, .sl 114 tPile)]⟩, [6], [], 3, false, ""⟩)]) [(101, slices_symMergeCmpFunc_sort_pile_C3), (100, slices_insertionSortCmpFunc_sort_pile_C0)] (.cons slices_symMergeCmpFunc_sort_pile_C3_ok <| .cons slices_insertionSortCmpFunc_sort_pile_C0_ok <| .nil) (fun x => by kernel_rfl)
def slices_stableCmpFunc_sort_pile_C : Ctr := ⟨"", [], [], fun _ => none, []⟩
theorem slices_stableCmpFunc_sort_pile_C_ok : Good Try.prog 94 slices_stableCmpFunc_sort_pile_C := good_dm
def slices_stableCmpFunc_sort_pile_C4 : Ctr := ⟨"", slices_stableCmpFunc_sort_pile_C.as, slices_stableCmpFunc_sort_pile_C.rs, slices_stableCmpFunc_sort_pile_C.F, slices_stableCmpFunc_sort_pile_m4_M :: slices_stableCmpFunc_sort_pile_C.mus⟩
theorem slices_stableCmpFunc_sort_pile_C4_ok : Good Try.prog 94 slices_stableCmpFunc_sort_pile_C4 := slices_stableCmpFunc_sort_pile_C_ok.more slices_stableCmpFunc_sort_pile_m4_M_ok

def slices_SortStableFunc_s_sort_pile_sort_pile_m5_M : CtrM := ⟨"", [none, some (.fn 2 (.pr tPile tPile) (.i .i64))], ⟨[(0, .mw 0)], [(0, .sl 114 tPile)]⟩, 1, ⟨[(0, .mw 0)], [(0, .sl 114 tPile)]⟩, 1, 0, fun x => slices_SortStableFunc_s_sort_pile_sort_pile_m5 x.1 x.2⟩
theorem slices_SortStableFunc_s_sort_pile_sort_pile_m5_M_ok : slices_SortStableFunc_s_sort_pile_sort_pile_m5_M.ok = true ∧ GoodM Try.prog 87 slices_SortStableFunc_s_sort_pile_sort_pile_m5_M :=
  goodM_of Try.func87 (by kernel_rfl) (An := []) [(94, slices_stableCmpFunc_sort_pile_C4)] (.cons slices_stableCmpFunc_sort_pile_C4_ok <| .nil) (fun x => by kernel_rfl)
def slices_SortStableFunc_s_sort_pile_sort_pile_C : Ctr := ⟨"", [], [], fun _ => none, []⟩
theorem slices_SortStableFunc_s_sort_pile_sort_pile_C_ok : Good Try.prog 87 slices_SortStableFunc_s_sort_pile_sort_pile_C := good_dm
def slices_SortStableFunc_s_sort_pile_sort_pile_C5 : Ctr := ⟨"", slices_SortStableFunc_s_sort_pile_sort_pile_C.as, slices_SortStableFunc_s_sort_pile_sort_pile_C.rs, slices_SortStableFunc_s_sort_pile_sort_pile_C.F, slices_SortStableFunc_s_sort_pile_sort_pile_m5_M :: slices_SortStableFunc_s_sort_pile_sort_pile_C.mus⟩
theorem slices_SortStableFunc_s_sort_pile_sort_pile_C5_ok : Good Try.prog 87 slices_SortStableFunc_s_sort_pile_sort_pile_C5 := slices_SortStableFunc_s_sort_pile_sort_pile_C_ok.more slices_SortStableFunc_s_sort_pile_sort_pile_m5_M_ok

def sort_ordered_sort_pile_m6_M : CtrM := ⟨"", [none, some (.fn 2 (.pr tPile tPile) (.i .i64))], ⟨[(0, .mw 0)], [(0, .sl 114 tPile)]⟩, 1, ⟨[(0, .mw 0), (1000000, .mw 0)], [(0, .sl 114 tPile)]⟩, 1, 1, fun x => sort_ordered_sort_pile_m6 x.1 x.2⟩
theorem sort_ordered_sort_pile_m6_M_ok : sort_ordered_sort_pile_m6_M.ok = true ∧ GoodM Try.prog 68 sort_ordered_sort_pile_m6_M :=
  goodM_of Try.func68 (by kernel_rfl) (An := []) [(87, slices_SortStableFunc_s_sort_pile_sort_pile_C5)] (.cons slices_SortStableFunc_s_sort_pile_sort_pile_C5_ok <| .nil) (fun x => by kernel_rfl)
def sort_ordered_sort_pile_C : Ctr := ⟨"", [], [], fun _ => none, []⟩
theorem sort_ordered_sort_pile_C_ok : Good Try.prog 68 sort_ordered_sort_pile_C := good_dm
def sort_ordered_sort_pile_C6 : Ctr := ⟨"", sort_ordered_sort_pile_C.as, sort_ordered_sort_pile_C.rs, sort_ordered_sort_pile_C.F, sort_ordered_sort_pile_m6_M :: sort_ordered_sort_pile_C.mus⟩
theorem sort_ordered_sort_pile_C6_ok : Good Try.prog 68 sort_ordered_sort_pile_C6 := sort_ordered_sort_pile_C_ok.more sort_ordered_sort_pile_m6_M_ok

def sort_Plan_C : Ctr := ⟨"", [(.sl (.i .i64)), (.i .i64)], [(.sl (.i .i64)), (.i .i64), (.i .i64)], fun x => sort_Plan x.1 x.2, []⟩
theorem sort_Plan_C_ok : Good Try.prog 36 sort_Plan_C :=
  good_of Try.func36 (by kernel_rfl) (An := [(0, ⟨⟨[(28, .c (.i .i64)), (7, .mw 1)], [(1, .sl 114 tPile)]⟩, ⟨[(7, .mw 2)], [(2, .sl 114 tPile)]⟩, [27, 26, 1, 0], [], 3, false, ""⟩), (8, ⟨⟨[(7, .mw 2)], [(2, .sl 114 tPile)]⟩, ⟨[(7, .mw 3)], [(3, .sl 114 tPile)]⟩, [1, 0], [], 4, false, ""⟩), (16, ⟨⟨[(7, .mw 3), (10, .mw 4), (11, .c (.i .i64))], [(3, .sl 114 tPile), (4, .sl 3 (.i .i64))]⟩, ⟨[(10, .mw 5), (11, .c (.i .i64))], [(5, .sl 3 (.i .i64))]⟩, [1, 12], [], 6, false, ""⟩), (24, ⟨⟨[(65, .c (.i .i64)), (13, .ptr 6 0)], [(6, .bx 114 [.c (.i .i64), .mw 5]), (5, .sl 3 (.i .i64))]⟩, ⟨[(13, .ptr 7 0)], [(7, .bx 114 [.c (.i .i64), .mw 8]), (8, .sl 3 (.i .i64))]⟩, [64, 63, 10, 11, 7], [4, 3], 9, false, ""⟩), (32, ⟨⟨[(85, .c (.i .i64)), (10, .mw 4)], [(4, .sl 3 (.i .i64))]⟩, ⟨[(10, .mw 9)], [(9, .sl 3 (.i .i64))]⟩, [84, 83, 11, 13, 7], [8, 7, 3], 10, false, ""⟩)]) [(68, sort_ordered_sort_pile_C6), (69, slices_BinarySearchFunc_s_sort_pile_sort_pile_sort_pile_C), (66, sort_Plan_c1_C), (65, sort_numbered_C)] (.cons sort_ordered_sort_pile_C6_ok <| .cons slices_BinarySearchFunc_s_sort_pile_sort_pile_sort_pile_C_ok <| .cons sort_Plan_c1_C_ok <| .cons sort_numbered_C_ok <| .nil) (fun x => by kernel_rfl)

def ref09_Cheapest_C : Ctr := ⟨"", [(.sl (.i .i64)), (.i .i64)], [(.i .i64)], fun x => ref09_Cheapest x.1 x.2, []⟩
theorem ref09_Cheapest_C_ok : Good Try.prog 38 ref09_Cheapest_C :=
  good_of Try.func38 (by kernel_rfl) (An := [(0, ⟨⟨[(5, .mw 1)], [(1, .sl 3 (.i .i64))]⟩, ⟨[(5, .mw 2)], [(2, .sl 3 (.i .i64))]⟩, [1], [], 3, false, ""⟩), (8, ⟨⟨[(5, .mw 2), (6, .c (.i .i64))], [(2, .sl 3 (.i .i64))]⟩, ⟨[(6, .c (.i .i64))], []⟩, [1], [], 3, false, ""⟩), (16, ⟨⟨[(8, .c (.i .i64)), (5, .mw 2), (7, .c (.i .i64))], [(2, .sl 3 (.i .i64))]⟩, ⟨[(7, .c (.i .i64)), (5, .mw 3)], [(3, .sl 3 (.i .i64))]⟩, [6], [], 4, false, ""⟩), (24, ⟨⟨[(10, .c (.i .i64)), (9, .c (.i .i64))], []⟩, ⟨[(9, .c (.i .i64))], []⟩, [5, 7, 8], [2], 3, false, ""⟩), (71, ⟨⟨[], []⟩, ⟨[], []⟩, [2], [2], 0, false, ""⟩)]) [] (.nil) (fun x => by kernel_rfl)

def law09_SortCosts_C : Ctr := ⟨"", [(.sl (.i .i64)), (.sl (.i .i64)), (.i .i64)], [.b], fun x => law09_SortCosts x.1 x.2.1 x.2.2, []⟩
theorem law09_SortCosts_C_ok : Good Try.prog 6 law09_SortCosts_C :=
  good_of Try.func6 (by kernel_rfl) (An := [(38, ⟨⟨[], []⟩, ⟨[(6, .c .b)], []⟩, [13, 11, 12], [], 0, false, ""⟩)]) [(38, ref09_Cheapest_C), (36, sort_Plan_C), (35, ref09_Cost_C), (37, ref09_Numbers_C), (34, sort_Cost_C)] (.cons ref09_Cheapest_C_ok <| .cons sort_Plan_C_ok <| .cons ref09_Cost_C_ok <| .cons ref09_Numbers_C_ok <| .cons sort_Cost_C_ok <| .nil) (fun x => by kernel_rfl)


end Go.Abs

/- Sort: costs of plans for passes. -/
set_option linter.unusedSimpArgs false
set_option linter.unusedVariables false
namespace Go.Abs
open Go

def wi (lo hi n : Int) : Bool := decide (lo ≤ n) && decide (n ≤ hi)
theorem any_not {α : Type} (p : α → Bool) (l : List α) : (l.any fun x => !p x) = !l.all p := by
  induction l with
  | nil => rfl
  | cons x l ih => simp only [List.any_cons, List.all_cons, ih, Bool.not_and]
theorem zip_any {α : Type} (q : α → Bool) : ∀ (l : List α) (k : Nat), ((l.zipIdx k).any fun x => q x.1) = l.any q
  | [], k => rfl
  | x :: l, k => by rw [List.zipIdx_cons, List.any_cons, List.any_cons, zip_any q l (k + 1)]
theorem contains_int (l : List Int) (hl : l.length ≤ 1000) (p : Int → Bool) : slices_ContainsFunc_s_int_int l (fun x => some (p x)) = some (l.any p) := by
  unfold slices_ContainsFunc_s_int_int slices_IndexFunc_s_int_int
  rw [range_iter (F := slices_IndexFunc_s_int_int_L0 l _) l (by omega) (fun i x => if p x then some (i : Int) else none) (fun i hi => by
    unfold slices_IndexFunc_s_int_int_L0
    rw [if_pos (by rw [lenI_eq]; simpa using hi), gi_cast hi, w64_add1 (by omega)]
    simp only [Option.bind_some]
    by_cases h : p l[i] = true <;> simp [h, nextL]) (by unfold slices_IndexFunc_s_int_int_L0; rw [if_neg (by simp [lenI_eq])])]
  have : ∀ (l : List Int) (k : Nat), endL ((l.zipIdx k).findSome? fun x => if p x.1 then some (x.2 : Int) else none) = (if l.any p then .inl ((k : Int) + (l.findIdx p : Nat)) else .inr ()) := by
    intro l
    induction l with
    | nil => intro k; rfl
    | cons x l ih =>
      intro k
      rw [List.zipIdx_cons, List.findSome?_cons, List.any_cons, List.findIdx_cons]
      cases hp : p x with
      | true => simp [endL]
      | false =>
        simp only [Bool.false_eq_true, if_false, Bool.false_or, cond_false]
        rw [ih (k + 1)]
        congr 2; push_cast; omega
  rw [this l 0]
  by_cases h : l.any p = true <;> simp [h]
theorem sort_from_eq (lo hi : Int) (l : List Int) (hl : l.length ≤ 1000) : sort_from lo hi l = some (l.all (wi lo hi)) := by
  unfold sort_from
  have e : (fun u0 : Int => (sort_from_c1 u0 lo hi).bind fun u1 => some u1) = fun u => some (!wi lo hi u) := by
    funext u
    unfold sort_from_c1 wi
    by_cases h1 : u < lo <;> by_cases h2 : hi < u <;> simp [h1, h2] <;> omega
  rw [e, contains_int l hl, any_not]
  simp
@[simp] theorem within_eq (n lo hi : Int) : ref09_within n lo hi = some (wi lo hi n) := by
  unfold ref09_within wi; by_cases h : lo ≤ n <;> simp [h]
/-- are counts and a number of bins valid? -/
def numR (l : List Int) (b : Int) : Bool := wi 2 8 b && wi 1 12 l.length && l.all (wi 0 1000)
theorem numbered_eq (l : List Int) (b : Int) (hl : l.length ≤ 1000) : sort_numbered l b = some (numR l b) := by
  unfold sort_numbered numR
  rw [sort_from_eq 2 8 [b] (by simp), sort_from_eq 1 12 [lenI l] (by simp), sort_from_eq 0 1000 l hl]
  simp only [Option.bind_some, List.all_cons, List.all_nil, Bool.and_true, lenI_eq]
  by_cases h1 : wi 2 8 b = true <;> by_cases h2 : wi 1 12 l.length = true <;> simp [h1, h2]
theorem Numbers_eq (l : List Int) (b : Int) (hl : l.length ≤ 1000) : ref09_Numbers l b = some (numR l b) := by
  unfold ref09_Numbers numR
  rw [range_any (F := ref09_Numbers_L0 l) false l (by omega) (fun i x => !wi 0 1000 x) (fun i hi => by
    unfold ref09_Numbers_L0
    rw [if_pos (by rw [lenI_eq]; simpa using hi), gi_cast hi, w64_add1 (by omega)]
    simp only [Option.bind_some, within_eq]
    by_cases h : wi 0 1000 l[i] = true <;> simp [h]) (by unfold ref09_Numbers_L0; rw [if_neg (by simp [lenI_eq])]), zip_any (fun x => !wi 0 1000 x), any_not]
  simp only [within_eq, Option.bind_some, lenI_eq]
  by_cases h1 : wi 2 8 b = true <;> by_cases h2 : wi 1 12 l.length = true <;> by_cases h3 : l.all (wi 0 1000) = true <;> simp [h1, h2, h3]

/-! the cost of a plan -/
theorem pow_rng {b : Int} (hb : 2 ≤ b ∧ b ≤ 8) : ∀ k : Nat, k ≤ 11 → 1 ≤ b ^ k ∧ b ^ k ≤ 8589934592 := by
  have h : ∀ k : Nat, 1 ≤ b ^ k ∧ b ^ k ≤ 8 ^ k := by
    intro k
    induction k with
    | zero => simp
    | succ k ih =>
      rw [Int.pow_succ, Int.pow_succ]
      constructor
      · have := Int.mul_le_mul ih.1 (show (1 : Int) ≤ b by omega) (by omega) (by omega); omega
      · exact Int.mul_le_mul ih.2 hb.2 (by omega) (by have := ih.1; have := ih.2; omega)
  intro k hk
  refine ⟨(h k).1, Int.le_trans (h k).2 ?_⟩
  have : (8 : Int) ^ k ≤ 8 ^ 11 := by
    have := Nat.pow_le_pow_right (show 0 < 8 by omega) hk
    exact_mod_cast this
  exact this
theorem Cost_L0 {b : Int} (hb : 2 ≤ b ∧ b ≤ 8) : ∀ (n k : Nat), k + n = 11 → itN (sort_Cost_L0 b) (n + 1) ((k : Int), b ^ k) = some (b ^ 11)
  | 0, k, h => by
    have : k = 11 := by omega
    subst this
    exact itN_stop (by unfold sort_Cost_L0; rw [if_neg (by simp)])
  | n + 1, k, h => by
    have hp := pow_rng hb (k + 1) (by omega)
    rw [Int.pow_succ] at hp
    have e : sort_Cost_L0 b ((k : Int), b ^ k) = some (.inl (((k + 1 : Nat) : Int), b ^ (k + 1))) := by
      unfold sort_Cost_L0
      rw [if_pos (by simp; omega), w64_add1 (by omega), w64_id (x := b ^ k * b) (by omega) (by omega), Int.pow_succ]
    rw [itN_go e]
    exact Cost_L0 hb n (k + 1) (by omega)
theorem Cost_L2 {b : Int} (hb : 2 ≤ b ∧ b ≤ 8) (p : Nat) (hp : p ≤ 11) : ∀ (n k : Nat), k + n = p → itN (sort_Cost_L2 b p) (n + 1) ((k : Int), b ^ (11 - k)) = some (b ^ (11 - p))
  | 0, k, h => by
    have : k = p := by omega
    subst this
    exact itN_stop (by unfold sort_Cost_L2; rw [if_neg (by simp)])
  | n + 1, k, h => by
    have hr := pow_rng hb (11 - (k + 1)) (by omega)
    have hd : gquo .i64 (b ^ (11 - k)) b = some (b ^ (11 - (k + 1))) := by
      unfold gquo
      rw [if_neg (by omega), show 11 - k = (11 - (k + 1)) + 1 by omega, Int.pow_succ, Int.mul_tdiv_cancel _ (by omega)]
      show some (w64 _) = _
      rw [w64_id (by omega) (by omega)]
    have e : sort_Cost_L2 b p ((k : Int), b ^ (11 - k)) = some (.inl (((k + 1 : Nat) : Int), b ^ (11 - (k + 1)))) := by
      unfold sort_Cost_L2
      rw [if_pos (by simp; omega), hd, w64_add1 (by omega)]; rfl
    rw [itN_go e]
    exact Cost_L2 hb p hp n (k + 1) (by omega)
/-- what is taken, and what it costs -/
def tak (b : Int) : List Int → Int
  | [] => 0
  | p :: l => b ^ (11 - p.toNat) + tak b l
def csum : List Int → List Int → Int
  | c :: cs, p :: ps => c * p + csum cs ps
  | _, _ => 0
theorem tak_rng {b : Int} (hb : 2 ≤ b ∧ b ≤ 8) : ∀ (l : List Int), 0 ≤ tak b l ∧ tak b l ≤ 8589934592 * l.length
  | [] => by simp [tak]
  | p :: l => by
    have h1 := pow_rng hb (11 - p.toNat) (by omega)
    have h2 := tak_rng hb l
    simp only [tak, List.length_cons]
    push_cast
    omega
theorem cst_rng : ∀ (cs ps : List Int), (∀ c ∈ cs, 0 ≤ c ∧ c ≤ 1000) → (∀ p ∈ ps, 0 ≤ p ∧ p ≤ 11) → 0 ≤ csum cs ps ∧ csum cs ps ≤ 11000 * ps.length
  | [], ps, _, _ => by simp only [csum]; omega
  | c :: cs, [], _, _ => by simp [csum]
  | c :: cs, p :: ps, hc, hp => by
    have h1 := hc c (by simp)
    have h2 := hp p (by simp)
    have h3 := cst_rng cs ps (fun x hx => hc x (by simp [hx])) (fun x hx => hp x (by simp [hx]))
    have h4 : 0 ≤ c * p := Int.mul_nonneg h1.1 h2.1
    have h5 : c * p ≤ 1000 * 11 := Int.mul_le_mul h1.2 h2.2 h2.1 (by omega)
    simp only [csum, List.length_cons]
    push_cast
    omega
theorem Cost_L1 {b : Int} (hb : 2 ≤ b ∧ b ≤ 8) (cs ps : List Int) (hl : ps.length = cs.length) (hle : ps.length ≤ 12) (hc : ∀ c ∈ cs, 0 ≤ c ∧ c ≤ 1000) (hp : ∀ p ∈ ps, 0 ≤ p ∧ p ≤ 11) : ∀ (n i : Nat) (left cost : Int), i + n = ps.length → -8589934592 * i ≤ left → left ≤ 8589934592 → 0 ≤ cost → cost ≤ 11000 * i →
    itN (sort_Cost_L1 cs ps b (b ^ 11)) (n + 1) ((i : Int), left, cost) = some (left - tak b (ps.drop i), cost + csum (cs.drop i) (ps.drop i))
  | 0, i, left, cost, h, h1, h2, h3, h4 => by
    have : i = ps.length := by omega
    subst this
    rw [List.drop_length]
    have : csum (cs.drop ps.length) [] = 0 := by cases cs.drop ps.length <;> rfl
    rw [this]
    simp only [tak, Int.sub_zero, Int.add_zero]
    exact itN_stop (by unfold sort_Cost_L1; rw [if_neg (by simp [lenI_eq])])
  | n + 1, i, left, cost, h, h1, h2, h3, h4 => by
    have hi : i < ps.length := by omega
    have hi2 : i < cs.length := by omega
    have hpi := hp ps[i] (List.getElem_mem _)
    have hci := hc cs[i] (List.getElem_mem _)
    have hpow := pow_rng hb (11 - ps[i].toNat) (by omega)
    have m0 : 0 ≤ cs[i] * ps[i] := Int.mul_nonneg hci.1 hpi.1
    have m1 : cs[i] * ps[i] ≤ 1000 * 11 := Int.mul_le_mul hci.2 hpi.2 hpi.1 (by omega)
    rw [List.drop_eq_getElem_cons hi, List.drop_eq_getElem_cons hi2]
    simp only [tak, csum]
    have hin := Cost_L2 hb ps[i].toNat (by omega) ps[i].toNat 0 (by omega)
    rw [show ((ps[i].toNat : Nat) : Int) = ps[i] from Int.toNat_of_nonneg hpi.1] at hin
    have e : sort_Cost_L1 cs ps b (b ^ 11) ((i : Int), left, cost) = some (.inl (((i + 1 : Nat) : Int), left - b ^ (11 - ps[i].toNat), cost + cs[i] * ps[i])) := by
      unfold sort_Cost_L1
      rw [if_pos (by rw [lenI_eq]; simpa using hi), gi_cast hi]
      simp only [Option.bind_some]
      rw [show ((0 : Int), b ^ 11) = (((0 : Nat) : Int), b ^ (11 - 0)) from rfl, iter_of hin (by omega), gi_cast hi2]
      simp only [Option.bind_some]
      rw [w64_add1 (by omega), w64_id (x := cs[i] * ps[i]) (by omega) (by omega), w64_id (by omega) (by omega), w64_id (by omega) (by omega)]
    rw [itN_go e, Cost_L1 hb cs ps hl hle hc hp n (i + 1) _ _ (by omega) (by push_cast; omega) (by omega) (by omega) (by push_cast; omega)]
    congr 2 <;> omega

theorem refCost_L0 (cs ps : List Int) (hl : ps.length = cs.length) (hle : ps.length ≤ 12) (hc : ∀ c ∈ cs, 0 ≤ c ∧ c ≤ 1000) : ∀ (n i : Nat) (cost : Int), i + n = ps.length → 0 ≤ cost → cost ≤ 11000 * i →
    itN (ref09_Cost_L0 cs ps) (n + 1) ((i : Int), cost) = some (if (ps.drop i).all (wi 0 11) then .inr (cost + csum (cs.drop i) (ps.drop i)) else .inl (0, 2))
  | 0, i, cost, h, h3, h4 => by
    have : i = ps.length := by omega
    subst this
    rw [List.drop_length]
    have : csum (cs.drop ps.length) [] = 0 := by cases cs.drop ps.length <;> rfl
    rw [this]
    simp only [List.all_nil, if_true, Int.add_zero]
    exact itN_stop (by unfold ref09_Cost_L0; rw [if_neg (by simp [lenI_eq])])
  | n + 1, i, cost, h, h3, h4 => by
    have hi : i < ps.length := by omega
    have hi2 : i < cs.length := by omega
    have hci := hc cs[i] (List.getElem_mem _)
    rw [List.drop_eq_getElem_cons hi, List.drop_eq_getElem_cons hi2]
    simp only [csum]
    by_cases hw : wi 0 11 ps[i] = true
    · have hpi : 0 ≤ ps[i] ∧ ps[i] ≤ 11 := by unfold wi at hw; simpa using hw
      have m0 : 0 ≤ cs[i] * ps[i] := Int.mul_nonneg hci.1 hpi.1
      have m1 : cs[i] * ps[i] ≤ 1000 * 11 := Int.mul_le_mul hci.2 hpi.2 hpi.1 (by omega)
      have e : ref09_Cost_L0 cs ps ((i : Int), cost) = some (.inl (((i + 1 : Nat) : Int), cost + cs[i] * ps[i])) := by
        unfold ref09_Cost_L0
        rw [if_pos (by rw [lenI_eq]; simpa using hi), gi_cast hi, gi_cast hi2]
        simp only [Option.bind_some, within_eq, hw, Bool.not_true, Bool.false_eq_true, if_false]
        rw [w64_add1 (by omega), w64_id (x := cs[i] * ps[i]) (by omega) (by omega), w64_id (by omega) (by omega)]
      rw [itN_go e, refCost_L0 cs ps hl hle hc n (i + 1) _ (by omega) (by omega) (by push_cast; omega)]
      simp only [List.all_cons, hw, Bool.true_and, Int.add_assoc]
    · rw [Bool.not_eq_true] at hw
      simp only [List.all_cons, hw, Bool.false_and, Bool.false_eq_true, if_false]
      exact itN_stop (by
        unfold ref09_Cost_L0
        rw [if_pos (by rw [lenI_eq]; simpa using hi), gi_cast hi]
        simp only [Option.bind_some, within_eq, hw, Bool.not_false, if_true])

/-! whether such a plan can be -/
def cnt (d : Int) (l : List Int) : Int := (l.countP fun p => p == d : Nat)
theorem cnt_rng (d : Int) (l : List Int) : 0 ≤ cnt d l ∧ cnt d l ≤ l.length := by
  unfold cnt; have := List.countP_le_length (p := fun x => x == d) (l := l); omega
theorem cnt_cons (d p : Int) (l : List Int) : cnt d (p :: l) = cnt d l + if p = d then 1 else 0 := by
  unfold cnt; rw [List.countP_cons]; by_cases h : p = d <;> simp [h]
theorem Can_L1 (ps : List Int) (hle : ps.length ≤ 12) (v0 : Int × Int) : ∀ (n i : Nat) (f : Int), i + n = ps.length → -(i : Int) ≤ f → f ≤ 100 → itN (ref09_Can_L1 ps v0) (n + 1) ((i : Int), f) = some (f - cnt v0.1 (ps.drop i))
  | 0, i, f, h, h1, h2 => by
    have : i = ps.length := by omega
    subst this
    rw [List.drop_length, show cnt v0.1 [] = 0 from rfl, Int.sub_zero]
    exact itN_stop (by unfold ref09_Can_L1; rw [if_neg (by simp [lenI_eq])])
  | n + 1, i, f, h, h1, h2 => by
    have hi : i < ps.length := by omega
    rw [List.drop_eq_getElem_cons hi, cnt_cons]
    by_cases hp : ps[i] = v0.1
    · have e : ref09_Can_L1 ps v0 ((i : Int), f) = some (.inl (((i + 1 : Nat) : Int), f - 1)) := by
        unfold ref09_Can_L1
        rw [if_pos (by rw [lenI_eq]; simpa using hi), gi_cast hi]
        simp only [Option.bind_some, hp, beq_self_eq_true, if_true]
        rw [w64_add1 (by omega), w64_id (by omega) (by omega)]
      rw [itN_go e, Can_L1 ps hle v0 n (i + 1) (f - 1) (by omega) (by push_cast; omega) (by omega), if_pos hp]
      congr 1; omega
    · have e : ref09_Can_L1 ps v0 ((i : Int), f) = some (.inl (((i + 1 : Nat) : Int), f)) := by
        unfold ref09_Can_L1
        rw [if_pos (by rw [lenI_eq]; simpa using hi), gi_cast hi]
        simp only [Option.bind_some]
        rw [if_neg (by simpa using hp), w64_add1 (by omega)]
      rw [itN_go e, Can_L1 ps hle v0 n (i + 1) f (by omega) (by push_cast; omega) (by omega), if_neg hp, Int.add_zero]
/-- what is still to be taken -/
def rst9 (b : Int) (d : Nat) : List Int → Int
  | [] => 0
  | p :: l => (if (d : Int) ≤ p then b ^ (11 - p.toNat) else 0) + rst9 b d l
theorem rst_zero (b : Int) : ∀ (l : List Int), (∀ p ∈ l, 0 ≤ p ∧ p ≤ 11) → rst9 b 0 l = tak b l
  | [], _ => rfl
  | p :: l, h => by
    simp only [rst9, tak]
    rw [if_pos (by have := h p (by simp); simpa using this.1), rst_zero b l fun x hx => h x (by simp [hx])]
theorem rst_end (b : Int) : ∀ (l : List Int), (∀ p ∈ l, 0 ≤ p ∧ p ≤ 11) → rst9 b 12 l = 0
  | [], _ => rfl
  | p :: l, h => by
    simp only [rst9]
    rw [if_neg (by have := h p (by simp); omega), rst_end b l fun x hx => h x (by simp [hx])]; rfl
theorem rst_step (b : Int) (d : Nat) : ∀ (l : List Int), (∀ p ∈ l, 0 ≤ p ∧ p ≤ 11) → rst9 b d l = cnt d l * b ^ (11 - d) + rst9 b (d + 1) l
  | [], _ => by simp [rst9, cnt]
  | p :: l, h => by
    have hp := h p (by simp)
    simp only [rst9]
    rw [rst_step b d l fun x hx => h x (by simp [hx]), cnt_cons, Int.add_mul]
    rcases Int.lt_trichotomy p d with h1 | h1 | h1
    · rw [if_neg (by omega), if_neg (by omega), if_neg (by push_cast; omega)]; omega
    · rw [if_pos (by omega), if_pos h1, if_neg (by push_cast; omega), show p.toNat = d by omega]; omega
    · rw [if_pos (by omega), if_neg (by omega), if_pos (by push_cast; omega)]; omega
theorem rst_le {b : Int} (hb : 2 ≤ b ∧ b ≤ 8) (d : Nat) (hd : d ≤ 11) : ∀ (l : List Int), (∀ p ∈ l, 0 ≤ p ∧ p ≤ 11) → 0 ≤ rst9 b d l ∧ rst9 b d l ≤ l.length * b ^ (11 - d)
  | [], _ => by simp [rst9]
  | p :: l, h => by
    have hp := h p (by simp)
    have ih := rst_le hb d hd l fun x hx => h x (by simp [hx])
    have h1 := pow_rng hb (11 - p.toNat) (by omega)
    have h2 := pow_rng hb (11 - d) (by omega)
    simp only [rst9, List.length_cons]
    push_cast
    rw [Int.add_mul]
    split
    · rename_i hdp
      have : b ^ (11 - p.toNat) ≤ b ^ (11 - d) := by
        rw [show 11 - d = (11 - p.toNat) + (p.toNat - d) by omega, Int.pow_add]
        have h3 := pow_rng hb (p.toNat - d) (by omega)
        have := Int.mul_le_mul_of_nonneg_left h3.1 (show 0 ≤ b ^ (11 - p.toNat) by omega)
        omega
      omega
    · omega
theorem Can_L0 {b : Int} (hb : 2 ≤ b ∧ b ≤ 8) (ps : List Int) (hle : ps.length ≤ 12) (hp : ∀ p ∈ ps, 0 ≤ p ∧ p ≤ 11) : ∀ (n d : Nat) (f : Int), d + n = 12 → 0 ≤ f → f ≤ 100 →
    itN (ref09_Can_L0 ps b) (n + 1) ((d : Int), f) = some (if rst9 b d ps ≤ f * b ^ (11 - d) then .inr () else .inl false)
  | 0, d, f, h, h1, h2 => by
    have : d = 12 := by omega
    subst this
    rw [rst_end b ps hp, if_pos (by simpa using h1)]
    exact itN_stop (by unfold ref09_Can_L0; rw [if_neg (by simp)])
  | n + 1, d, f, h, h1, h2 => by
    have hin := Can_L1 ps hle ((d : Int), f) ps.length 0 f (by omega) (by omega) h2
    have hc := cnt_rng d ps
    rw [List.drop_zero] at hin
    simp only at hin
    have hpow := pow_rng hb (11 - d) (by omega)
    have hst := rst_step b d ps hp
    by_cases hx : f - cnt d ps < 0
    · rw [if_neg]
      · exact itN_stop (by
          unfold ref09_Can_L0
          rw [if_pos (by simp; omega), show ((0 : Int), f) = (((0 : Nat) : Int), f) from rfl, iter_of hin (by omega)]
          simp only [Option.bind_some]
          rw [if_pos (by simpa using hx)])
      · have h0 : 0 ≤ rst9 b (d + 1) ps := by
          by_cases hd : d + 1 ≤ 11
          · exact (rst_le hb (d + 1) hd ps hp).1
          · rw [show d + 1 = 12 by omega, rst_end b ps hp]; exact Int.le_refl _
        have : (f + 1) * b ^ (11 - d) ≤ cnt d ps * b ^ (11 - d) := Int.mul_le_mul_of_nonneg_right (by omega) (by omega)
        rw [Int.add_mul] at this
        omega
    · have hmul : 0 ≤ (f - cnt d ps) * b := Int.mul_nonneg (by omega) (by omega)
      have hmul2 : (f - cnt d ps) * b ≤ 100 * 8 := Int.mul_le_mul (by omega) hb.2 (by omega) (by omega)
      have e : ref09_Can_L0 ps b ((d : Int), f) = some (.inl (((d + 1 : Nat) : Int), imin ((f - cnt d ps) * b) 100)) := by
        unfold ref09_Can_L0
        rw [if_pos (by simp; omega), show ((0 : Int), f) = (((0 : Nat) : Int), f) from rfl, iter_of hin (by omega)]
        simp only [Option.bind_some]
        rw [if_neg (by simpa using hx), w64_add1 (by omega), w64_id (by omega) (by omega)]
      have hm : 0 ≤ imin ((f - cnt d ps) * b) 100 ∧ imin ((f - cnt d ps) * b) 100 ≤ 100 := by unfold imin; split <;> omega
      rw [itN_go e, Can_L0 hb ps hle hp n (d + 1) _ (by omega) hm.1 hm.2]
      congr 1
      have key : rst9 b (d + 1) ps ≤ imin ((f - cnt d ps) * b) 100 * b ^ (11 - (d + 1)) ↔ rst9 b d ps ≤ f * b ^ (11 - d) := by
        rw [hst]
        by_cases hd : d + 1 ≤ 11
        · have hp2 := pow_rng hb (11 - (d + 1)) (by omega)
          have hr := rst_le hb (d + 1) hd ps hp
          have ee : b ^ (11 - d) = b ^ (11 - (d + 1)) * b := by rw [← Int.pow_succ]; congr 1; omega
          have hr2 : rst9 b (d + 1) ps ≤ 12 * b ^ (11 - (d + 1)) := Int.le_trans hr.2 (Int.mul_le_mul_of_nonneg_right (by omega) (by omega))
          have e3 : (f - cnt d ps) * b * b ^ (11 - (d + 1)) = f * b ^ (11 - d) - cnt d ps * b ^ (11 - d) := by
            rw [ee, Int.sub_mul, Int.sub_mul]
            congr 1 <;> rw [Int.mul_assoc, Int.mul_comm b]
          unfold imin
          split
          · rename_i hlt
            have e4 : 100 * b ^ (11 - (d + 1)) ≤ (f - cnt d ps) * b * b ^ (11 - (d + 1)) := Int.mul_le_mul_of_nonneg_right (by omega) (by omega)
            constructor <;> intro _ <;> omega
          · rw [e3]; omega
        · have : d = 11 := by omega
          subst this
          rw [rst_end b ps hp]
          simp only [Nat.sub_self, Int.pow_zero, Int.mul_one]
          constructor
          · intro _; omega
          · intro _
            show (0 : Int) ≤ _ * b ^ 0
            simp; exact hm.1
      by_cases hk : rst9 b d ps ≤ f * b ^ (11 - d)
      · rw [if_pos hk, if_pos (key.2 hk)]
      · rw [if_neg hk, if_neg fun h => hk (key.1 h)]
theorem Can_eq {b : Int} (hb : 2 ≤ b ∧ b ≤ 8) (ps : List Int) (hle : ps.length ≤ 12) (hp : ∀ p ∈ ps, 0 ≤ p ∧ p ≤ 11) : ref09_Can ps b = some (decide (tak b ps ≤ b ^ 11)) := by
  have := Can_L0 hb ps hle hp 12 0 1 (by omega) (by omega) (by omega)
  unfold ref09_Can
  rw [show ((0 : Int), (1 : Int)) = (((0 : Nat) : Int), 1) from rfl, iter_of this (by omega), rst_zero b ps hp, Int.one_mul, Nat.sub_zero]
  by_cases h : tak b ps ≤ b ^ 11
  · rw [if_pos h]; simp [h]
  · rw [if_neg h]; simp [h]
/-- both ways of telling the cost -/
theorem Cost_same (cs ps : List Int) (b : Int) (hcs : cs.length ≤ 20) (hps : ps.length ≤ 20) : ∃ x, sort_Cost cs ps b = some x ∧ ref09_Cost cs ps b = some x := by
  unfold sort_Cost ref09_Cost
  rw [numbered_eq cs b (by omega), Numbers_eq cs b (by omega)]
  simp only [Option.bind_some]
  by_cases hn : numR cs b = true
  · have hb : 2 ≤ b ∧ b ≤ 8 := by unfold numR wi at hn; simp at hn; omega
    have hl : cs.length ≤ 12 := by unfold numR wi at hn; simp at hn; omega
    have hc : ∀ c ∈ cs, 0 ≤ c ∧ c ≤ 1000 := fun c hc => by
      unfold numR at hn
      simp only [Bool.and_eq_true] at hn
      have := List.all_eq_true.1 hn.2 c hc
      unfold wi at this; simpa using this
    simp only [hn, Bool.not_true, Bool.false_eq_true, if_false]
    by_cases he : lenI ps != lenI cs
    · exact ⟨(0, 2), by rw [if_pos he], by rw [if_pos he]⟩
    · have hlen : ps.length = cs.length := by
        have : (ps.length : Int) = cs.length := by simpa [lenI] using he
        omega
      rw [if_neg he, if_neg he, sort_from_eq 0 11 ps (by omega)]
      have h1 := refCost_L0 cs ps hlen (by omega) hc ps.length 0 0 (by omega) (by omega) (by omega)
      rw [List.drop_zero, List.drop_zero, Int.zero_add] at h1
      rw [show ((0 : Int), (0 : Int)) = (((0 : Nat) : Int), 0) from rfl, iter_of h1 (by omega)]
      simp only [Option.bind_some]
      by_cases hw : ps.all (wi 0 11) = true
      · have hp : ∀ p ∈ ps, 0 ≤ p ∧ p ≤ 11 := fun p hp => by
          have := List.all_eq_true.1 hw p hp
          unfold wi at this; simpa using this
        have h2 := Cost_L0 hb 11 0 (by omega)
        have h3 := Cost_L1 hb cs ps hlen (by omega) hc hp ps.length 0 (b ^ 11) 0 (by omega) (by have := pow_rng hb 11 (by omega); omega) (pow_rng hb 11 (by omega)).2 (by omega) (by omega)
        rw [List.drop_zero, List.drop_zero, Int.zero_add] at h3
        simp only [hw, Bool.not_true, Bool.false_eq_true, if_false, if_true]
        rw [show ((0 : Int), (1 : Int)) = (((0 : Nat) : Int), b ^ 0) by simp, iter_of h2 (by omega)]
        simp only [Option.bind_some]
        rw [show ((0 : Int), b ^ 11, (0 : Int)) = (((0 : Nat) : Int), b ^ 11, 0) from rfl, iter_of h3 (by omega), Can_eq hb ps (by omega) hp]
        simp only [Option.bind_some]
        by_cases ht : tak b ps ≤ b ^ 11
        · refine ⟨(csum cs ps, 0), ?_, ?_⟩
          · rw [if_neg (by simp; omega)]
          · simp [ht]
        · refine ⟨(0, 6), ?_, ?_⟩
          · rw [if_pos (by simp; omega)]
          · simp [ht]
      · rw [Bool.not_eq_true] at hw
        exact ⟨(0, 2), by simp [hw], by simp [hw]⟩
  · rw [Bool.not_eq_true] at hn
    exact ⟨(0, 2), by simp [hn], by simp [hn]⟩
end Go.Abs

/- Sort: piles are sorted. -/
set_option linter.unusedSimpArgs false
set_option linter.unusedVariables false
namespace Go.Abs
open Go

def okP9 (p : Pile) : Prop := 0 ≤ p.1 ∧ p.1 ≤ 12000 ∧ p.2.length ≤ 12
def K9 (p : Pile) : Int := 1000 * p.1 + p.2.length
abbrev how9 : Pile × Pile → Option Int := fun u0 => (sort_Plan_c1 u0.1 u0.2).bind fun u1 => some u1
theorem cmp_Or2 (a b : Int) : cmp_Or_int [a, b] = some (if a ≠ 0 then a else b) := by
  unfold cmp_Or_int
  rw [range_iter (F := cmp_Or_int_L0 [a, b]) [a, b] (by simp) (fun i x => if x != 0 then some x else none) (fun i hi => by
    unfold cmp_Or_int_L0
    have h2 : i < 2 := by simpa using hi
    rw [if_pos (by rw [lenI_eq]; simp; omega), gi_cast hi, w64_add1 (by omega)]
    simp only [Option.bind_some]
    by_cases h : ([a, b][i] != 0) = true <;> simp [h, nextL]) (by unfold cmp_Or_int_L0; rw [if_neg (by simp [lenI_eq])])]
  simp only [List.zipIdx_cons, List.zipIdx_nil, List.findSome?_cons, List.findSome?_nil]
  by_cases ha : a = 0
  · by_cases hb : b = 0 <;> simp [ha, hb, endL]
  · simp [ha, endL]
theorem how9_eq (a b : Pile) (ha : okP9 a) (hb : okP9 b) : ∃ v, how9 (a, b) = some v ∧ (v < 0 ↔ K9 a < K9 b) := by
  obtain ⟨a1, a2, a3⟩ := ha
  obtain ⟨b1, b2, b3⟩ := hb
  show ∃ v, ((sort_Plan_c1 a b).bind fun u1 => some u1) = some v ∧ _
  unfold sort_Plan_c1
  rw [cmp_Or2]
  refine ⟨_, rfl, ?_⟩
  rw [w64_id (x := a.1 - b.1) (by omega) (by omega), lenI_eq, lenI_eq, w64_id (x := (a.2.length : Int) - b.2.length) (by omega) (by omega)]
  unfold K9
  split <;> omega
def kf9 (l : List Pile) (x : Nat) : Int := K9 ((l[x]?).getD (0, []))
theorem kf_get {l : List Pile} {x : Nat} (h : x < l.length) : kf9 l x = K9 l[x] := by unfold kf9; rw [List.getElem?_eq_getElem h]; rfl
def swap9 (l : List Pile) (j : Nat) (a b : Pile) : List Pile := (l.set j b).set (j - 1) a
theorem kf_swap {l : List Pile} {j : Nat} (hj : 0 < j) (h : j < l.length) (a b : Pile) (x : Nat) : kf9 (swap9 l j a b) x = if x = j - 1 then K9 a else if x = j then K9 b else kf9 l x := by
  unfold kf9 swap9
  rw [List.getElem?_set, List.getElem?_set, List.length_set]
  by_cases h1 : x = j - 1
  · rw [if_pos h1.symm, if_pos (by omega), if_pos h1]; rfl
  · rw [if_neg (fun e => h1 e.symm), if_neg h1]
    by_cases h2 : x = j
    · rw [if_pos h2.symm, if_pos h, if_pos h2]; rfl
    · rw [if_neg (fun e => h2 e.symm), if_neg h2]
theorem swap_perm {l : List Pile} {j : Nat} (hj : 0 < j) (h : j < l.length) : (swap9 l j l[j] l[j - 1]).Perm l := by
  unfold swap9
  exact @List.set_set_perm _ l j (j - 1) h (by omega)
theorem ins_L1 (i : Nat) : ∀ (j : Nat) (l : List Pile), j ≤ i → i < l.length → l.length ≤ 1000 → (∀ p ∈ l, okP9 p) → (∀ x y, x < y → y ≤ i → y ≠ j → kf9 l x ≤ kf9 l y) →
    ∃ l', itN (slices_insertionSortCmpFunc_sort_pile_m0_L1 0 how9) (j + 1) ((j : Int), l) = some l' ∧ l'.Perm l ∧ ∀ x y, x < y → y ≤ i → kf9 l' x ≤ kf9 l' y
  | 0, l, hj, hi, hl, ho, hs => by
    refine ⟨l, itN_stop (by unfold slices_insertionSortCmpFunc_sort_pile_m0_L1; rw [if_neg (by simp)]), .refl _, fun x y hxy hy => hs x y hxy hy (by omega)⟩
  | j + 1, l, hj, hi, hl, ho, hs => by
    have h1 : j + 1 < l.length := by omega
    have h2 : j < l.length := by omega
    obtain ⟨v, hv, hlt⟩ := how9_eq l[j + 1] l[j] (ho _ (List.getElem_mem _)) (ho _ (List.getElem_mem _))
    have hw : w64 (((j + 1 : Nat) : Int) - 1) = (j : Int) := by rw [w64_id (by omega) (by omega)]; push_cast; omega
    by_cases hc : v < 0
    · have e : slices_insertionSortCmpFunc_sort_pile_m0_L1 0 how9 (((j + 1 : Nat) : Int), l) = some (.inl ((j : Int), swap9 l (j + 1) l[j + 1] l[j])) := by
        unfold slices_insertionSortCmpFunc_sort_pile_m0_L1
        rw [if_pos (by simp <;> omega)]
        simp only [hw, gi_cast h1, gi_cast h2, Option.bind_some, hv]
        rw [if_pos (by simpa using hc)]
        simp only [lset, Int.toNat_natCast]
        rw [gi_cast (by rw [List.length_set]; exact h2)]
        rfl
      have hp := swap_perm (l := l) (j := j + 1) (by omega) h1
      simp only [Nat.add_sub_cancel] at hp
      have hk := kf_swap (l := l) (j := j + 1) (by omega) h1 l[j + 1] l[j]
      simp only [Nat.add_sub_cancel] at hk
      have hlen : (swap9 l (j + 1) l[j + 1] l[j]).length = l.length := hp.length_eq
      obtain ⟨l', g1, g2, g3⟩ := ins_L1 i j (swap9 l (j + 1) l[j + 1] l[j]) (by omega) (by rw [hlen]; exact hi) (by rw [hlen]; exact hl) (fun p hp' => ho p (hp.mem_iff.1 hp')) (fun x y hxy hy hne => by
        have ka := kf_get h1
        have kb := kf_get h2
        have kab := hlt.1 hc
        rw [hk, hk]
        by_cases y1 : y = j + 1
        · rw [if_neg (show ¬ y = j from hne), if_pos y1]
          by_cases x1 : x = j
          · rw [if_pos x1]; omega
          · rw [if_neg x1, if_neg (by omega)]
            have := hs x j (by omega) (by omega) (by omega)
            omega
        · rw [if_neg (show ¬ y = j from hne), if_neg y1]
          by_cases x1 : x = j
          · rw [if_pos x1]
            have := hs (j + 1) y (by omega) hy y1
            omega
          · rw [if_neg x1]
            by_cases x2 : x = j + 1
            · rw [if_pos x2]
              have := hs j y (by omega) hy y1
              omega
            · rw [if_neg x2]; exact hs x y hxy hy y1)
      exact ⟨l', by rw [itN_go e]; exact g1, g2.trans hp, g3⟩
    · refine ⟨l, itN_stop ?_, .refl _, fun x y hxy hy => ?_⟩
      · unfold slices_insertionSortCmpFunc_sort_pile_m0_L1
        rw [if_pos (by simp <;> omega)]
        simp only [hw, gi_cast h1, gi_cast h2, Option.bind_some, hv]
        rw [if_neg (by simpa using hc)]
      · by_cases hyj : y = j + 1
        · subst hyj
          have kab : K9 l[j] ≤ K9 l[j + 1] := Int.not_lt.1 fun h => hc (hlt.2 h)
          rw [← kf_get h1, ← kf_get h2] at kab
          by_cases hx : x = j
          · subst hx; exact kab
          · exact Int.le_trans (hs x j (by omega) (by omega) (by omega)) kab
        · exact hs x y hxy hy hyj
theorem ins_L0 (N : Nat) (hN : N ≤ 1000) : ∀ (m i : Nat) (l : List Pile), i + m = N → l.length = N → 1 ≤ i → (∀ p ∈ l, okP9 p) → (∀ x y, x < y → y < i → kf9 l x ≤ kf9 l y) →
    ∃ l', itN (slices_insertionSortCmpFunc_sort_pile_m0_L0 0 N how9) (m + 1) ((i : Int), l) = some l' ∧ l'.Perm l ∧ ∀ x y, x < y → y < N → kf9 l' x ≤ kf9 l' y
  | 0, i, l, h, hl, h1, ho, hs => by
    have : i = N := by omega
    subst this
    exact ⟨l, itN_stop (by unfold slices_insertionSortCmpFunc_sort_pile_m0_L0; rw [if_neg (by simp)]), .refl _, hs⟩
  | m + 1, i, l, h, hl, h1, ho, hs => by
    obtain ⟨l1, g1, g2, g3⟩ := ins_L1 i i l (Nat.le_refl _) (by omega) (by omega) ho (fun x y hxy hy hne => hs x y hxy (by omega))
    have e : slices_insertionSortCmpFunc_sort_pile_m0_L0 0 N how9 ((i : Int), l) = some (.inl (((i + 1 : Nat) : Int), l1)) := by
      unfold slices_insertionSortCmpFunc_sort_pile_m0_L0
      rw [if_pos (by simp <;> omega), iter_of g1 (by omega), w64_add1 (by omega)]; rfl
    obtain ⟨l', g4, g5, g6⟩ := ins_L0 N hN m (i + 1) l1 (by omega) (by rw [g2.length_eq]; exact hl) (by omega) (fun p hp => ho p (g2.mem_iff.1 hp)) (fun x y hxy hy => g3 x y hxy (by omega))
    exact ⟨l', by rw [itN_go e]; exact g4, g5.trans g2, g6⟩
theorem ordered_eq (l : List Pile) (h1 : 1 ≤ l.length) (h2 : l.length ≤ 18) (ho : ∀ p ∈ l, okP9 p) : ∃ l', sort_ordered_sort_pile_m6 how9 l = some l' ∧ l'.Perm l ∧ l'.Pairwise fun a b => a.1 ≤ b.1 := by
  obtain ⟨l', g1, g2, g3⟩ := ins_L0 l.length (by omega) (l.length - 1) 1 l (by omega) rfl (Nat.le_refl _) ho (fun x y hxy hy => by omega)
  refine ⟨l', ?_, g2, ?_⟩
  · have m0 : slices_insertionSortCmpFunc_sort_pile_m0 0 (l.length : Int) how9 l = some l' := by
      unfold slices_insertionSortCmpFunc_sort_pile_m0
      rw [show w64 ((0 : Int) + 1) = ((1 : Nat) : Int) from rfl, iter_of g1 (by omega)]; rfl
    unfold sort_ordered_sort_pile_m6 slices_SortStableFunc_s_sort_pile_sort_pile_m5 slices_stableCmpFunc_sort_pile_m4
    rw [lenI_eq]
    have e0 : itN (slices_stableCmpFunc_sort_pile_m4_L0 (l.length : Int) how9) (0 + 1) (20, 0, l) = some (0, l) := itN_stop (by unfold slices_stableCmpFunc_sort_pile_m4_L0; rw [if_neg (by simp; omega)])
    have e1 : itN (slices_stableCmpFunc_sort_pile_m4_L1 (l.length : Int) how9) (0 + 1) (20, l') = some l' := itN_stop (by unfold slices_stableCmpFunc_sort_pile_m4_L1; rw [if_neg (by simp; omega)])
    rw [iter_of e0 (by omega)]
    simp only [Option.bind_some]
    rw [m0]
    simp only [Option.bind_some]
    rw [iter_of e1 (by omega)]; rfl
  · refine List.pairwise_iff_getElem.2 fun i j hi hj hij => ?_
    have hk := g3 i j hij (by rw [← g2.length_eq]; exact hj)
    rw [kf_get hi, kf_get hj] at hk
    have oi := ho _ (g2.mem_iff.1 (List.getElem_mem hi))
    have oj := ho _ (g2.mem_iff.1 (List.getElem_mem hj))
    unfold K9 at hk
    obtain ⟨_, _, a3⟩ := oi
    obtain ⟨_, _, b3⟩ := oj
    omega
end Go.Abs

/- Sort: a round of a plan, and of the document's way. -/
set_option linter.unusedSimpArgs false
set_option linter.unusedVariables false
namespace Go.Abs
open Go

def sc : List Pile → Int
  | [] => 0
  | x :: l => x.1 + sc l
def kd : List Pile → List Int
  | [] => []
  | x :: l => x.2 ++ kd l
def sI : List Int → Int
  | [] => 0
  | x :: l => x + sI l
theorem sc_append : ∀ (a b : List Pile), sc (a ++ b) = sc a + sc b
  | [], b => by simp [sc]
  | x :: a, b => by simp only [List.cons_append, sc, sc_append a b]; omega
theorem kd_append : ∀ (a b : List Pile), kd (a ++ b) = kd a ++ kd b
  | [], b => by simp [kd]
  | x :: a, b => by simp only [List.cons_append, kd, kd_append a b, List.append_assoc]
theorem sI_append : ∀ (a b : List Int), sI (a ++ b) = sI a + sI b
  | [], b => by simp [sI]
  | x :: a, b => by simp only [List.cons_append, sI, sI_append a b]; omega
theorem sc_sI : ∀ (a : List Pile), sc a = sI (a.map (·.1))
  | [] => rfl
  | x :: a => by simp only [List.map_cons, sc, sI, sc_sI a]
theorem sc_nn : ∀ {l : List Pile}, (∀ x ∈ l, 0 ≤ x.1) → 0 ≤ sc l
  | [], _ => Int.le_refl _
  | x :: l, h => by
    have := h x (by simp)
    have := sc_nn (l := l) fun y hy => h y (by simp [hy])
    simp only [sc]; omega
/-- what holds of piles all the time -/
structure PI (n : Nat) (b : Nat) (p : List Pile) : Prop where
  s : p.Pairwise fun a b => a.1 ≤ b.1
  nn : ∀ x ∈ p, 0 ≤ x.1
  tot : sc p ≤ 12000
  kin : ∀ k ∈ kd p, 0 ≤ k ∧ k < n
  kl : (kd p).length ≤ 12
  len : 1 ≤ p.length ∧ p.length ≤ 18
  md : (p.length - 1) % (b - 1) = 0
theorem split_at {α : Type} {l : List α} {i : Nat} (h : i < l.length) : l = l.take i ++ l[i] :: l.drop (i + 1) := by
  conv => lhs; rw [← List.take_append_drop i l, List.drop_eq_getElem_cons h]
theorem PI.ok {n b : Nat} {p : List Pile} (h : PI n b p) : ∀ x ∈ p, okP9 x := fun x hx => by
  obtain ⟨i, hi, rfl⟩ := List.mem_iff_getElem.1 hx
  have e := split_at hi
  have h1 : sc p = sc (p.take i) + (p[i].1 + sc (p.drop (i + 1))) := by
    conv => lhs; rw [e]
    rw [sc_append]; rfl
  have h2 : (kd p).length = (kd (p.take i)).length + (p[i].2.length + (kd (p.drop (i + 1))).length) := by
    conv => lhs; rw [e]
    rw [kd_append]; simp [kd]
  have n1 := sc_nn (l := p.take i) fun y hy => h.nn y (List.mem_of_mem_take hy)
  have n2 := sc_nn (l := p.drop (i + 1)) fun y hy => h.nn y (List.mem_of_mem_drop hy)
  have := h.tot
  have := h.kl
  have := h.nn p[i] hx
  exact ⟨by omega, by omega, by omega⟩
theorem take_snoc {α : Type} {l : List α} {i : Nat} (h : i < l.length) : l.take (i + 1) = l.take i ++ [l[i]] := by
  rw [List.take_add_one, List.getElem?_eq_getElem h]; rfl
theorem part_le {n b : Nat} {p : List Pile} (h : PI n b p) (i : Nat) : 0 ≤ sc (p.take i) ∧ sc (p.take i) ≤ 12000 ∧ (kd (p.take i)).length ≤ 12 := by
  have e : sc p = sc (p.take i) + sc (p.drop i) := by rw [← sc_append, List.take_append_drop]
  have e2 : (kd p).length = (kd (p.take i)).length + (kd (p.drop i)).length := by rw [← List.length_append, ← kd_append, List.take_append_drop]
  have n1 := sc_nn (l := p.take i) fun y hy => h.nn y (List.mem_of_mem_take hy)
  have n2 := sc_nn (l := p.drop i) fun y hy => h.nn y (List.mem_of_mem_drop hy)
  have := h.tot
  have := h.kl
  exact ⟨n1, by omega, by omega⟩
/-- the first piles together -/
theorem L3_eq {n b : Nat} {p : List Pile} (h : PI n b p) (hb : b ≤ 8) (hbp : b ≤ p.length) (c : Int) (ps : List Int) : ∀ (m i : Nat), i + m = b → itN (sort_Plan_L3 (b : Int) (c, p, ps)) (m + 1) ((i : Int), sc (p.take i), kd (p.take i)) = some (sc (p.take b), kd (p.take b))
  | 0, i, hm => by
    have : i = b := by omega
    subst this
    exact itN_stop (by unfold sort_Plan_L3; rw [if_neg (by simp)])
  | m + 1, i, hm => by
    have hi : i < p.length := by omega
    have h1 := part_le h i
    have h2 := part_le h (i + 1)
    have et := take_snoc hi
    have es : sc (p.take (i + 1)) = sc (p.take i) + p[i].1 := by rw [et, sc_append]; simp [sc]
    have ek : kd (p.take (i + 1)) = kd (p.take i) ++ p[i].2 := by rw [et, kd_append]; simp [kd]
    have e : sort_Plan_L3 (b : Int) (c, p, ps) ((i : Int), sc (p.take i), kd (p.take i)) = some (.inl (((i + 1 : Nat) : Int), sc (p.take (i + 1)), kd (p.take (i + 1)))) := by
      have hg : gmi 0 ((b : Int) - 0) (i : Int) = some (i : Int) := by unfold gmi; rw [if_pos (by omega)]; simp
      unfold sort_Plan_L3
      rw [if_pos (by simp <;> omega)]
      simp only [hg, Option.bind_some, gi_cast hi]
      rw [gapp_some (by rw [← List.length_append, ← ek]; omega), w64_add1 (by omega), w64_id (by omega) (by omega), ← es, ← ek]; rfl
    rw [itN_go e]
    exact L3_eq h hb hbp c ps m (i + 1) (by omega)
theorem L4_eq (S : Int) (ks : List Int) (n : Nat) (hk : ∀ k ∈ ks, 0 ≤ k ∧ k < n) (hl : ks.length ≤ 1000) : ∀ (m i : Nat) (ps : List Int), i + m = ks.length → ps.length = n → ∃ ps', itN (sort_Plan_L4 (S, ks)) (m + 1) ((i : Int), ps) = some ps' ∧ ps'.length = n
  | 0, i, ps, hm, hp => by
    refine ⟨ps, itN_stop (by unfold sort_Plan_L4; rw [if_neg (by rw [lenI_eq]; simp; omega)]), hp⟩
  | m + 1, i, ps, hm, hp => by
    have hi : i < ks.length := by omega
    have hki := hk _ (List.getElem_mem hi)
    have hg : ∃ v, gi ps ks[i] = some v := ⟨_, gi_some hki.1 (by omega)⟩
    obtain ⟨v, hv⟩ := hg
    have e : sort_Plan_L4 (S, ks) ((i : Int), ps) = some (.inl (((i + 1 : Nat) : Int), lset ps ks[i] (w64 (v + 1)))) := by
      unfold sort_Plan_L4
      rw [if_pos (by rw [lenI_eq]; simpa using hi)]
      simp only [gi_cast hi, Option.bind_some, hv]
      rw [w64_add1 (by omega)]
    obtain ⟨ps', g1, g2⟩ := L4_eq S ks n hk hl m (i + 1) (lset ps ks[i] (w64 (v + 1))) (by omega) (by simp [lset, hp])
    exact ⟨ps', by rw [itN_go e]; exact g1, g2⟩
/-- where it is put -/
theorem bs_L0 (r : List Pile) (x : Pile) (hr : ∀ y ∈ r, okP9 y) (hx : okP9 x) (hl : r.length ≤ 1000) : ∀ (m i j : Nat), j - i ≤ m → i ≤ j → j ≤ r.length → (∀ h : 0 < i, (r[i - 1]?.getD x).1 ≤ x.1) → (∀ h : j < r.length, x.1 ≤ (r[j]?.getD x).1) →
    ∃ at' : Nat, itN (slices_BinarySearchFunc_s_sort_pile_sort_pile_sort_pile_L0 r x how9) (m + 1) ((i : Int), (j : Int)) = some (at' : Int) ∧ at' ≤ r.length ∧ (∀ h : 0 < at', (r[at' - 1]?.getD x).1 ≤ x.1) ∧ ∀ h : at' < r.length, x.1 ≤ (r[at']?.getD x).1
  | m, i, j, hm, hij, hj, h1, h2 => by
    by_cases hlt : i < j
    · cases m with
      | zero => omega
      | succ m =>
        have hv : gshr .u64 (IntKind.wrap .u64 (w64 ((i : Int) + j))) 1 = some (((i + j) / 2 : Nat) : Int) := by
          rw [w64_id (by omega) (by omega)]
          have hw : IntKind.wrap .u64 ((i : Int) + j) = (i : Int) + j := by
            simp only [IntKind.wrap, IntKind.signed, IntKind.bits]
            simp
            omega
          rw [hw]
          unfold gshr
          rw [if_pos (by omega)]
          simp only [IntKind.bits]
          rw [show min (Int.toNat 1) 64 = 1 from rfl]
          congr 1
          rw [Int.fdiv_eq_ediv_of_nonneg _ (by decide)]
          push_cast; rfl
        have hh : (i + j) / 2 < r.length := by omega
        obtain ⟨v, hv2, hlt2⟩ := how9_eq r[(i + j) / 2] x (hr _ (List.getElem_mem _)) hx
        have ok := hr _ (List.getElem_mem hh)
        have hw2 : w64 (((i + j) / 2 : Nat) : Int) = (((i + j) / 2 : Nat) : Int) := w64_id (by omega) (by omega)
        by_cases hc : v < 0
        · have e : slices_BinarySearchFunc_s_sort_pile_sort_pile_sort_pile_L0 r x how9 ((i : Int), (j : Int)) = some (.inl ((((i + j) / 2 + 1 : Nat) : Int), (j : Int))) := by
            unfold slices_BinarySearchFunc_s_sort_pile_sort_pile_sort_pile_L0
            rw [if_pos (by simpa using hlt)]
            simp only [hv, Option.bind_some, hw2, gi_cast hh, hv2]
            rw [if_pos (by simpa using hc), w64_add1 (by omega)]
          rw [itN_go e]
          refine bs_L0 r x hr hx hl m ((i + j) / 2 + 1) j (by omega) (by omega) hj (fun _ => ?_) h2
          rw [Nat.add_sub_cancel, List.getElem?_eq_getElem hh, Option.getD_some]
          have := hlt2.1 hc
          unfold K9 at this
          obtain ⟨_, _, a3⟩ := ok
          obtain ⟨_, _, b3⟩ := hx
          omega
        · have e : slices_BinarySearchFunc_s_sort_pile_sort_pile_sort_pile_L0 r x how9 ((i : Int), (j : Int)) = some (.inl ((i : Int), (((i + j) / 2 : Nat) : Int))) := by
            unfold slices_BinarySearchFunc_s_sort_pile_sort_pile_sort_pile_L0
            rw [if_pos (by simpa using hlt)]
            simp only [hv, Option.bind_some, hw2, gi_cast hh, hv2]
            rw [if_neg (by simpa using hc)]
          rw [itN_go e]
          refine bs_L0 r x hr hx hl m i ((i + j) / 2) (by omega) (by omega) (by omega) h1 (fun _ => ?_)
          rw [List.getElem?_eq_getElem hh, Option.getD_some]
          have : K9 x ≤ K9 r[(i + j) / 2] := Int.not_lt.1 fun h => hc (hlt2.2 h)
          unfold K9 at this
          obtain ⟨_, _, a3⟩ := ok
          obtain ⟨_, _, b3⟩ := hx
          omega
    · have : i = j := by omega
      subst this
      refine ⟨i, ?_, hj, h1, h2⟩
      exact itN_stop (by unfold slices_BinarySearchFunc_s_sort_pile_sort_pile_sort_pile_L0; rw [if_neg (by simp)])
theorem bs_eq (r : List Pile) (x : Pile) (hr : ∀ y ∈ r, okP9 y) (hx : okP9 x) (hl : r.length ≤ 1000) : ∃ (at' : Nat) (f : Bool), slices_BinarySearchFunc_s_sort_pile_sort_pile_sort_pile r x how9 = some ((at' : Int), f) ∧ at' ≤ r.length ∧ (∀ h : 0 < at', (r[at' - 1]?.getD x).1 ≤ x.1) ∧ ∀ h : at' < r.length, x.1 ≤ (r[at']?.getD x).1 := by
  obtain ⟨a, g1, g2, g3, g4⟩ := bs_L0 r x hr hx hl r.length 0 r.length (by omega) (by omega) (Nat.le_refl _) (fun h => by omega) (fun h => by omega)
  unfold slices_BinarySearchFunc_s_sort_pile_sort_pile_sort_pile
  rw [lenI_eq, show ((0 : Int), ((r.length : Nat) : Int)) = (((0 : Nat) : Int), (r.length : Int)) from rfl, iter_of g1 (by omega)]
  simp only [Option.bind_some]
  by_cases h : a < r.length
  · obtain ⟨v, hv, _⟩ := how9_eq r[a] x (hr _ (List.getElem_mem _)) hx
    refine ⟨a, v == 0, ?_, g2, g3, g4⟩
    rw [if_pos (by simpa using h), gi_cast h]
    simp only [Option.bind_some]
    rw [hv]; rfl
  · exact ⟨a, false, by rw [if_neg (by simpa using h)], g2, g3, g4⟩
/-- the copies make one list of it -/
theorem put_eq {α : Type} (r : List α) (z x : α) (a : Nat) (ha : a ≤ r.length) :
    lcopy2 ((lcopy (List.replicate (r.length + 1) z) 0 (lenI (List.replicate (r.length + 1) z)) (r.take a)).set a x) ((a : Int) + 1, ((r.length + 1 : Nat) : Int) - ((a : Int) + 1)) (r.drop a) = r.take a ++ x :: r.drop a := by
  have e1 : lcopy (List.replicate (r.length + 1) z) 0 (lenI (List.replicate (r.length + 1) z)) (r.take a) = r.take a ++ List.replicate (r.length + 1 - a) z := by
    unfold lcopy
    rw [lenI_eq]
    simp only [Int.toNat_natCast, List.length_replicate, List.length_take, Int.toNat_zero, List.take_zero, List.nil_append, Nat.zero_add, List.drop_replicate, List.take_take]
    congr 1
    · congr 1; omega
    · congr 1; omega
  rw [e1]
  have l1 : (r.take a).length = a := by rw [List.length_take]; omega
  have e2 : (r.take a ++ List.replicate (r.length + 1 - a) z).set a x = r.take a ++ x :: List.replicate (r.length - a) z := by
    rw [List.set_append_right _ _ (by omega), l1, Nat.sub_self, show r.length + 1 - a = (r.length - a) + 1 by omega, List.replicate_succ]; rfl
  rw [e2]
  unfold lcopy2 lcopy
  have t1 : Int.toNat ((a : Int) + 1) = a + 1 := by omega
  have t2 : min (r.drop a).length (Int.toNat (((r.length + 1 : Nat) : Int) - ((a : Int) + 1))) = r.length - a := by rw [List.length_drop]; omega
  simp only [t1, t2]
  rw [show (r.drop a).take (r.length - a) = r.drop a by rw [List.take_of_length_le]; rw [List.length_drop]; exact Nat.le_refl _]
  have e3 : (r.take a ++ x :: List.replicate (r.length - a) z).take (a + 1) = r.take a ++ [x] := by
    rw [List.take_append, l1, List.take_of_length_le (by omega), show a + 1 - a = 1 by omega]; rfl
  have e4 : (r.take a ++ x :: List.replicate (r.length - a) z).drop (a + 1 + (r.length - a)) = [] := by
    rw [List.drop_eq_nil_of_le]; simp only [List.length_append, l1, List.length_cons, List.length_replicate]; omega
  rw [e3, e4, List.append_nil, List.append_assoc]; rfl
end Go.Abs

/- Sort: plans cost what the document says; the law SortCosts. -/
set_option linter.unusedSimpArgs false
set_option linter.unusedVariables false
namespace Go.Abs
open Go

theorem PI.big {n b : Nat} {p : List Pile} (h : PI n b p) (hb : 2 ≤ b) (hl : 1 < p.length) : b ≤ p.length := by
  have hd := Nat.dvd_of_mod_eq_zero h.md
  have := Nat.le_of_dvd (by omega) hd
  omega
theorem gsl_ok {α : Type} {l : List α} {a c : Int} (h1 : 0 ≤ a) (h2 : a ≤ c) (h3 : c ≤ l.length) : ∃ v, gsl l a c = some v := by
  unfold gsl; rw [if_pos ⟨h1, h2, h3⟩]; exact ⟨_, rfl⟩
theorem gmb_ok {n a c : Int} (h1 : 0 ≤ a) (h2 : a ≤ c) (h3 : c ≤ n) : gmb n a c = some () := by
  unfold gmb; rw [if_pos ⟨h1, h2, h3⟩]
theorem plan_round {n b : Nat} {p : List Pile} (h : PI n b p) (hb : 2 ≤ b ∧ b ≤ 8) (hl : 1 < p.length) (c : Int) (hc : 0 ≤ c ∧ c ≤ 1000000) (ps : List Int) (hps : ps.length = n) :
    ∃ p' ps', sort_Plan_L2 (b : Int) (c, p, ps) = some (.inl (c + sc (p.take b), p', ps')) ∧ ps'.length = n ∧ PI n b p' ∧ p'.length + b = p.length + 1 ∧ (p'.map (·.1)).Perm ((p.drop b).map (·.1) ++ [sc (p.take b)]) := by
  have hbp := h.big hb.1 hl
  have hok := h.ok
  have h18 := h.len.2
  have hpart := part_le h b
  have e3 := L3_eq h hb.2 hbp c ps b 0 (by omega)
  have hkin : ∀ k ∈ kd (p.take b), 0 ≤ k ∧ k < n := fun k hk => h.kin k (by
    rw [← List.take_append_drop b p, kd_append]; exact List.mem_append.2 (.inl hk))
  obtain ⟨ps', e4, hps'⟩ := L4_eq (sc (p.take b)) (kd (p.take b)) n hkin (by omega) (kd (p.take b)).length 0 ps (by omega) hps
  have hokx : okP9 (sc (p.take b), kd (p.take b)) := ⟨hpart.1, hpart.2.1, hpart.2.2⟩
  have hrok : ∀ y ∈ p.drop b, okP9 y := fun y hy => hok y (List.mem_of_mem_drop hy)
  have hrl : (p.drop b).length = p.length - b := List.length_drop ..
  obtain ⟨a, f, e5, ha, hlo, hhi⟩ := bs_eq (p.drop b) (sc (p.take b), kd (p.take b)) hrok hokx (by omega)
  generalize hr : p.drop b = r at *
  generalize hS : sc (p.take b) = S at *
  generalize hks : kd (p.take b) = ks at *
  refine ⟨r.take a ++ (S, ks) :: r.drop a, ps', ?_, hps', ?_, ?_, ?_⟩
  · unfold sort_Plan_L2
    rw [if_pos (by rw [lenI_eq]; simp; omega)]
    obtain ⟨v12, g12⟩ := gsl_ok (l := p) (a := 0) (c := (b : Int)) (by omega) (by omega) (by omega)
    obtain ⟨v25, g25⟩ := gsl_ok (l := p) (a := (b : Int)) (c := lenI p) (by omega) (by rw [lenI_eq]; omega) (by rw [lenI_eq]; omega)
    simp only [g12, Option.bind_some]
    rw [show ((0 : Int), (0 : Int), ([] : List Int)) = (((0 : Nat) : Int), sc (p.take 0), kd (p.take 0)) from rfl, iter_of e3 (by omega)]
    simp only [Option.bind_some]
    rw [show ((0 : Int), ps) = (((0 : Nat) : Int), ps) from rfl, iter_of e4 (by omega)]
    simp only [Option.bind_some, g25]
    have er : (List.drop (Int.toNat (b : Int)) p).take (Int.toNat ((lenI p) - (b : Int))) = r := by
      rw [Int.toNat_natCast, hr, List.take_of_length_le]
      rw [lenI_eq]; omega
    rw [er, show slices_BinarySearchFunc_s_sort_pile_sort_pile_sort_pile r (S, ks) (fun u0 => (sort_Plan_c1 u0.1 u0.2).bind fun u1 => some u1) = _ from e5]
    simp only [Option.bind_some]
    have emk : gmk (w64 (((lenI p) - (b : Int)) + 1)) ((0, []) : Pile) = some (List.replicate (r.length + 1) (0, [])) := by
      rw [lenI_eq, w64_id (by omega) (by omega)]
      unfold gmk
      rw [if_pos (by omega)]
      congr 2; omega
    rw [emk]
    simp only [Option.bind_some]
    rw [gmb_ok (by omega) (by omega) (by rw [lenI_eq]; omega)]
    simp only [Option.bind_some]
    have et : (List.drop (Int.toNat ((b : Int) + 0)) p).take (Int.toNat ((a : Int) - 0)) = r.take a := by
      rw [show Int.toNat ((b : Int) + 0) = b by omega, show Int.toNat ((a : Int) - 0) = a by omega, hr]
    have ed : (List.drop (Int.toNat ((b : Int) + (a : Int))) p).take (Int.toNat (((lenI p) - (b : Int)) - (a : Int))) = r.drop a := by
      rw [show Int.toNat ((b : Int) + (a : Int)) = b + a by omega, ← List.drop_drop, hr, List.take_of_length_le]
      rw [List.length_drop, lenI_eq]; omega
    rw [et, ed]
    have hlc : (lcopy (List.replicate (r.length + 1) ((0, []) : Pile)) 0 (lenI (List.replicate (r.length + 1) ((0, []) : Pile))) (r.take a)).length = r.length + 1 := by
      unfold lcopy
      simp only [lenI_eq, Int.toNat_natCast, Int.toNat_zero, List.take_zero, List.nil_append, List.length_append, List.length_take, List.length_drop, List.length_replicate]
      omega
    rw [gi_cast (by rw [hlc]; omega)]
    simp only [Option.bind_some, lset, Int.toNat_natCast]
    have hset := put_eq r ((0, []) : Pile) (S, ks) a ha
    obtain ⟨v30, g30⟩ := gsl_ok (l := (lcopy (List.replicate (r.length + 1) ((0, []) : Pile)) 0 (lenI (List.replicate (r.length + 1) ((0, []) : Pile))) (r.take a)).set a (S, ks)) (a := w64 ((a : Int) + 1)) (c := lenI ((lcopy (List.replicate (r.length + 1) ((0, []) : Pile)) 0 (lenI (List.replicate (r.length + 1) ((0, []) : Pile))) (r.take a)).set a (S, ks)))
      (by rw [w64_id (by omega) (by omega)]; omega) (by rw [w64_id (by omega) (by omega), lenI_eq, List.length_set, hlc]; omega) (by rw [lenI_eq]; omega)
    rw [g30]
    simp only [Option.bind_some]
    rw [gmb_ok (by omega) (by rw [lenI_eq]; omega) (Int.le_refl _)]
    simp only [Option.bind_some]
    have hlen2 : lenI ((lcopy (List.replicate (r.length + 1) ((0, []) : Pile)) 0 (lenI (List.replicate (r.length + 1) ((0, []) : Pile))) (r.take a)).set a (S, ks)) = ((r.length + 1 : Nat) : Int) := by rw [lenI_eq, List.length_set, hlc]
    rw [hlen2, w64_id (x := (a : Int) + 1) (by omega) (by omega), hset, w64_id (by omega) (by omega)]
  · have hrs : r.Pairwise fun a b => a.1 ≤ b.1 := by rw [← hr]; exact h.s.sublist (List.drop_sublist b p)
    have esc : sc p = S + sc r := by rw [← hS, ← hr, ← sc_append, List.take_append_drop]
    have ekd : kd p = ks ++ kd r := by rw [← hks, ← hr, ← kd_append, List.take_append_drop]
    have esr : sc r = sc (r.take a) + sc (r.drop a) := by rw [← sc_append, List.take_append_drop]
    have ekr : kd r = kd (r.take a) ++ kd (r.drop a) := by rw [← kd_append, List.take_append_drop]
    refine ⟨?_, fun x hx => ?_, ?_, fun k hk => ?_, ?_, ?_, ?_⟩
    · refine List.pairwise_append.2 ⟨hrs.sublist (List.take_sublist a r), List.pairwise_cons.2 ⟨fun y hy => ?_, hrs.sublist (List.drop_sublist a r)⟩, fun x hx y hy => ?_⟩
      · obtain ⟨i, hi, rfl⟩ := List.mem_iff_getElem.1 hy
        rw [List.length_drop] at hi
        have h0 := hhi (by omega)
        rw [List.getElem?_eq_getElem (by omega), Option.getD_some] at h0
        rw [List.getElem_drop]
        by_cases hi0 : i = 0
        · subst hi0; exact h0
        · exact Int.le_trans h0 (List.pairwise_iff_getElem.1 hrs a (a + i) (by omega) (by omega) (by omega))
      · have hxS : x.1 ≤ S := by
          obtain ⟨i, hi, rfl⟩ := List.mem_iff_getElem.1 hx
          rw [List.length_take] at hi
          have h0 := hlo (by omega)
          rw [List.getElem?_eq_getElem (by omega), Option.getD_some] at h0
          rw [List.getElem_take]
          by_cases hi0 : i = a - 1
          · subst hi0; exact h0
          · exact Int.le_trans (List.pairwise_iff_getElem.1 hrs i (a - 1) (by omega) (by omega) (by omega)) h0
        rcases List.mem_cons.1 hy with rfl | hy
        · exact hxS
        · obtain ⟨i, hi, rfl⟩ := List.mem_iff_getElem.1 hx
          obtain ⟨j, hj, rfl⟩ := List.mem_iff_getElem.1 hy
          rw [List.length_take] at hi
          rw [List.length_drop] at hj
          rw [List.getElem_take, List.getElem_drop]
          exact List.pairwise_iff_getElem.1 hrs i (a + j) (by omega) (by omega) (by omega)
    · have hin : ∀ y ∈ r, 0 ≤ y.1 := fun y hy => h.nn y (by rw [← hr] at hy; exact List.mem_of_mem_drop hy)
      rcases List.mem_append.1 hx with hx | hx
      · exact hin x (List.mem_of_mem_take hx)
      · rcases List.mem_cons.1 hx with rfl | hx
        · exact hpart.1
        · exact hin x (List.mem_of_mem_drop hx)
    · have := h.tot
      rw [sc_append]
      simp only [sc]; omega
    · refine h.kin k ?_
      rw [ekd, ekr]
      rw [kd_append] at hk
      simp only [kd, List.mem_append] at hk ⊢
      rcases hk with hk | hk | hk
      · exact .inr (.inl hk)
      · exact .inl hk
      · exact .inr (.inr hk)
    · have := h.kl
      rw [ekd, ekr] at this
      rw [kd_append]
      simp only [kd, List.length_append] at this ⊢; omega
    · simp only [List.length_append, List.length_cons, List.length_take, List.length_drop]; omega
    · have hd := Nat.dvd_of_mod_eq_zero h.md
      refine Nat.mod_eq_zero_of_dvd ?_
      have e : (r.take a ++ (S, ks) :: r.drop a).length - 1 = (p.length - 1) - (b - 1) := by
        simp only [List.length_append, List.length_cons, List.length_take, List.length_drop]; omega
      rw [e]
      exact Nat.dvd_sub hd (Nat.dvd_refl _)
  · simp only [List.length_append, List.length_cons, List.length_take, List.length_drop]; omega
  · rw [List.map_append, List.map_cons]
    have : r.map (·.1) = (r.take a).map (·.1) ++ (r.drop a).map (·.1) := by rw [← List.map_append, List.take_append_drop]
    rw [this]
    exact List.perm_middle.trans ((List.perm_append_comm (l₁ := [S])).trans (.refl _))
end Go.Abs

/- Sort: the document's least cost; the law SortCosts. -/
set_option linter.unusedSimpArgs false
set_option linter.unusedVariables false
namespace Go.Abs
open Go

theorem min_L3 (i S : Int) (l : List Int) (hl : l.length ≤ 1000) : ∀ (m k a : Nat), k + m = l.length → (ha : a < l.length) → (∀ x, (hx : x < l.length) → x < k → l[a] ≤ l[x]) → ∃ a' : Nat, itN (ref09_Cheapest_L3 (i, S, l)) (m + 1) ((k : Int), (a : Int)) = some (a' : Int) ∧ ∃ h : a' < l.length, ∀ x ∈ l, l[a'] ≤ x
  | 0, k, a, hm, ha, h => by
    refine ⟨a, itN_stop (by unfold ref09_Cheapest_L3; rw [if_neg (by rw [lenI_eq]; simp; omega)]), ha, fun x hx => ?_⟩
    obtain ⟨j, hj, rfl⟩ := List.mem_iff_getElem.1 hx
    exact h j hj (by omega)
  | m + 1, k, a, hm, ha, h => by
    have hk : k < l.length := by omega
    by_cases hc : l[k] < l[a]
    · have e : ref09_Cheapest_L3 (i, S, l) ((k : Int), (a : Int)) = some (.inl (((k + 1 : Nat) : Int), (k : Int))) := by
        unfold ref09_Cheapest_L3
        rw [if_pos (by rw [lenI_eq]; simpa using hk)]
        simp only [gi_cast hk, gi_cast ha, Option.bind_some]
        rw [if_pos (by simpa using hc), w64_add1 (by omega)]
      rw [itN_go e]
      refine min_L3 i S l hl m (k + 1) k (by omega) hk fun x hx hlt => ?_
      by_cases hxk : x = k
      · subst hxk; exact Int.le_refl _
      · have := h x hx (by omega); omega
    · have e : ref09_Cheapest_L3 (i, S, l) ((k : Int), (a : Int)) = some (.inl (((k + 1 : Nat) : Int), (a : Int))) := by
        unfold ref09_Cheapest_L3
        rw [if_pos (by rw [lenI_eq]; simpa using hk)]
        simp only [gi_cast hk, gi_cast ha, Option.bind_some]
        rw [if_neg (by simpa using hc), w64_add1 (by omega)]
      rw [itN_go e]
      refine min_L3 i S l hl m (k + 1) a (by omega) ha fun x hx hlt => ?_
      by_cases hxk : x = k
      · subst hxk; omega
      · exact h x hx (by omega)
theorem rem_L2 (b : Nat) (hb : b ≤ 8) : ∀ (m i : Nat) (S : Int) (l cs : List Int), i + m = b → cs.Pairwise (· ≤ ·) → l.Perm cs → m ≤ cs.length → l.length ≤ 100 → (∀ x ∈ cs, 0 ≤ x ∧ x ≤ 12000) → 0 ≤ S → S ≤ 12000 * i →
    ∃ l', itN (ref09_Cheapest_L2 (b : Int)) (m + 1) ((i : Int), S, l) = some (S + sI (cs.take m), l') ∧ l'.Perm (cs.drop m)
  | 0, i, S, l, cs, hm, hs, hp, hmc, hl, hx, h0, h1 => by
    refine ⟨l, ?_, by simpa using hp⟩
    simp only [List.take_zero, sI, Int.add_zero]
    exact itN_stop (by unfold ref09_Cheapest_L2; rw [if_neg (by simp; omega)])
  | m + 1, i, S, l, cs, hm, hs, hp, hmc, hl, hx, h0, h1 => by
    cases cs with
    | nil => simp at hmc
    | cons c cs =>
      have hlen := hp.length_eq
      simp only [List.length_cons] at hlen
      have hpos : 0 < l.length := by omega
      obtain ⟨a, e1, ha, hmin⟩ := min_L3 (i : Int) S l (by omega) l.length 0 0 (by omega) hpos (fun x hx hlt => by omega)
      simp only [List.pairwise_cons] at hs
      have hca : l[a] = c := by
        have m1 := hmin c (hp.mem_iff.2 (by simp))
        have m2 : c ≤ l[a] := by
          have := hp.mem_iff.1 (List.getElem_mem ha)
          rcases List.mem_cons.1 this with e | hin
          · rw [e]; exact Int.le_refl _
          · exact hs.1 _ hin
        omega
      have hc := hx c (by simp)
      have hperm : (l.take a ++ l.drop (a + 1)).Perm cs := by
        have e : l.Perm (c :: (l.take a ++ l.drop (a + 1))) := by
          have := split_at ha
          rw [hca] at this
          conv => lhs; rw [this]
          exact List.perm_middle
        exact (e.symm.trans hp).cons_inv
      have e : ref09_Cheapest_L2 (b : Int) ((i : Int), S, l) = some (.inl (((i + 1 : Nat) : Int), S + c, l.take a ++ l.drop (a + 1))) := by
        unfold ref09_Cheapest_L2
        rw [if_pos (by simp; omega), show ((0 : Int), (0 : Int)) = (((0 : Nat) : Int), ((0 : Nat) : Int)) from rfl, iter_of e1 (by omega)]
        obtain ⟨v15, g15⟩ := gsl_ok (l := l) (a := 0) (c := (a : Int)) (by omega) (by omega) (by omega)
        have hw : w64 ((a : Int) + 1) = (a : Int) + 1 := w64_id (by omega) (by omega)
        obtain ⟨v17, g17⟩ := gsl_ok (l := l) (a := (a : Int) + 1) (c := lenI l) (by omega) (by rw [lenI_eq]; omega) (by rw [lenI_eq]; omega)
        simp only [Option.bind_some, gi_cast ha, g15]
        have et : (List.drop (Int.toNat 0) l).take (Int.toNat ((a : Int) - 0)) = l.take a := by
          rw [show Int.toNat ((a : Int) - 0) = a by omega]; rfl
        rw [et, gapp_some (by simp only [List.length_nil, List.length_take]; omega)]
        simp only [Option.bind_some, List.nil_append]
        rw [hw, g17]
        simp only [Option.bind_some]
        have ed : (List.drop (Int.toNat ((a : Int) + 1)) l).take (Int.toNat ((lenI l) - ((a : Int) + 1))) = l.drop (a + 1) := by
          rw [show Int.toNat ((a : Int) + 1) = a + 1 by omega, List.take_of_length_le]
          rw [List.length_drop, lenI_eq]; omega
        rw [ed, gapp_some (by simp only [List.length_take, List.length_drop]; omega)]
        simp only [Option.bind_some]
        rw [w64_add1 (by omega), hca, w64_id (by omega) (by omega)]
      obtain ⟨l', g1, g2⟩ := rem_L2 b hb m (i + 1) (S + c) (l.take a ++ l.drop (a + 1)) cs (by omega) hs.2 hperm (by simpa using hmc) (by simp only [List.length_append, List.length_take, List.length_drop]; omega) (fun x h => hx x (by simp [h])) (by omega) (by push_cast; omega)
      refine ⟨l', ?_, by simpa using g2⟩
      rw [itN_go e, g1]
      simp only [List.take_succ_cons, sI]
      congr 2; omega
/-- both go on alike -/
theorem rounds {n b : Nat} (hb : 2 ≤ b ∧ b ≤ 8) : ∀ (m : Nat) (p : List Pile) (l : List Int) (c : Int) (ps : List Int), p.length ≤ m + 1 → PI n b p → (p.map (·.1)).Perm l → ps.length = n → 0 ≤ c → c ≤ 12000 * (18 - p.length) →
    ∃ c' ps', itN (sort_Plan_L2 (b : Int)) (m + 1) (c, p, ps) = some (c', ps') ∧ itN (ref09_Cheapest_L1 (b : Int)) (m + 1) (c, l) = some c' := by
  intro m
  induction m with
  | zero =>
    intro p l c ps hm h hp hps h0 h1
    have hl : ¬ (1 : Int) < lenI p := by rw [lenI_eq]; omega
    have hl2 : ¬ (1 : Int) < lenI l := by rw [lenI_eq, ← hp.length_eq, List.length_map]; omega
    exact ⟨c, ps, itN_stop (by unfold sort_Plan_L2; rw [if_neg (by simpa using hl)]), itN_stop (by unfold ref09_Cheapest_L1; rw [if_neg (by simpa using hl2)])⟩
  | succ m ih =>
    intro p l c ps hm h hp hps h0 h1
    have hll : l.length = p.length := by rw [← hp.length_eq, List.length_map]
    by_cases hl : 1 < p.length
    · have hbp := h.big hb.1 hl
      have h18 := h.len.2
      obtain ⟨p', ps', e1, e2, e3, e4, e5⟩ := plan_round h hb hl c ⟨h0, by omega⟩ ps hps
      have hpart := part_le h b
      have hsorted : (p.map (·.1)).Pairwise (· ≤ ·) := List.pairwise_map.2 h.s
      obtain ⟨l', g1, g2⟩ := rem_L2 b hb.2 b 0 0 l (p.map (·.1)) (by omega) hsorted hp.symm (by rw [List.length_map]; exact hbp) (by omega) (fun x hx => by
        obtain ⟨y, hy, rfl⟩ := List.mem_map.1 hx
        have := h.ok y hy
        exact ⟨this.1, this.2.1⟩) (Int.le_refl _) (by omega)
      rw [← List.map_take, ← sc_sI, Int.zero_add] at g1
      rw [← List.map_drop] at g2
      have hl'len : l'.length ≤ 100 := by rw [g2.length_eq, List.length_map, List.length_drop]; omega
      have e6 : ref09_Cheapest_L1 (b : Int) (c, l) = some (.inl (c + sc (p.take b), l' ++ [sc (p.take b)])) := by
        unfold ref09_Cheapest_L1
        rw [if_pos (by rw [lenI_eq]; simp; omega), show ((0 : Int), (0 : Int), l) = (((0 : Nat) : Int), (0 : Int), l) from rfl, iter_of g1 (by omega)]
        simp only [Option.bind_some]
        rw [gapp_some (by simp only [List.length_singleton]; omega)]
        simp only [Option.bind_some]
        rw [w64_id (by omega) (by omega)]
      obtain ⟨c', ps'', k1, k2⟩ := ih p' (l' ++ [sc (p.take b)]) (c + sc (p.take b)) ps' (by omega) e3 (e5.trans (g2.symm.append_right _)) e2 (by omega) (by omega)
      exact ⟨c', ps'', by rw [itN_go e1]; exact k1, by rw [itN_go e6]; exact k2⟩
    · have hl1 : ¬ (1 : Int) < lenI p := by rw [lenI_eq]; omega
      have hl2 : ¬ (1 : Int) < lenI l := by rw [lenI_eq]; omega
      exact ⟨c, ps, itN_stop (by unfold sort_Plan_L2; rw [if_neg (by simpa using hl1)]), itN_stop (by unfold ref09_Cheapest_L1; rw [if_neg (by simpa using hl2)])⟩
/-- so that it comes out even -/
theorem pads {b : Nat} (hb : 2 ≤ b ∧ b ≤ 8) : ∀ (f : Nat) (p : List Pile) (l : List Int), p.length = l.length → 1 ≤ l.length → l.length + f ≤ 100 → (l.length - 1 + f) % (b - 1) = 0 →
    ∃ k, k ≤ f ∧ itN (sort_Plan_L1 (b : Int)) (f + 1) p = some (p ++ List.replicate k (0, [])) ∧ itN (ref09_Cheapest_L0 (b : Int)) (f + 1) l = some (l ++ List.replicate k 0) ∧ (l.length + k - 1) % (b - 1) = 0 := by
  intro f
  have rem : ∀ L : Nat, 1 ≤ L → L ≤ 100 → grem (w64 ((L : Int) - 1)) (w64 ((b : Int) - 1)) = some (((L - 1) % (b - 1) : Nat) : Int) := fun L h1 h2 => by
    rw [w64_id (by omega) (by omega), w64_id (by omega) (by omega)]
    unfold grem
    rw [if_neg (by omega), Int.tmod_eq_emod_of_nonneg (by omega), show (L : Int) - 1 = ((L - 1 : Nat) : Int) by omega, show (b : Int) - 1 = ((b - 1 : Nat) : Int) by omega]
    rfl
  induction f with
  | zero =>
    intro p l hpl h1 h2 h3
    rw [Nat.add_zero] at h3
    refine ⟨0, Nat.le_refl _, ?_, ?_, by simpa using h3⟩
    · rw [List.replicate_zero, List.append_nil]
      exact itN_stop (by unfold sort_Plan_L1; rw [lenI_eq, hpl, rem _ h1 (by omega), h3]; rfl)
    · rw [List.replicate_zero, List.append_nil]
      exact itN_stop (by unfold ref09_Cheapest_L0; rw [lenI_eq, rem _ h1 (by omega), h3]; rfl)
  | succ f ih =>
    intro p l hpl h1 h2 h3
    by_cases hz : (l.length - 1) % (b - 1) = 0
    · refine ⟨0, by omega, ?_, ?_, by simpa using hz⟩
      · rw [List.replicate_zero, List.append_nil]
        exact itN_stop (by unfold sort_Plan_L1; rw [lenI_eq, hpl, rem _ h1 (by omega), hz]; rfl)
      · rw [List.replicate_zero, List.append_nil]
        exact itN_stop (by unfold ref09_Cheapest_L0; rw [lenI_eq, rem _ h1 (by omega), hz]; rfl)
    · have hne : ((((l.length - 1) % (b - 1) : Nat) : Int) != 0) = true := by simp; omega
      obtain ⟨k, g1, g2, g3, g4⟩ := ih (p ++ [(0, [])]) (l ++ [0]) (by simp [hpl]) (by simp) (by simp; omega) (by simp only [List.length_append, List.length_singleton]; rw [show l.length + 1 - 1 + f = l.length - 1 + (f + 1) by omega]; exact h3)
      refine ⟨k + 1, by omega, ?_, ?_, by simp only [List.length_append, List.length_singleton] at g4; rw [show l.length + (k + 1) - 1 = l.length + 1 + k - 1 by omega]; exact g4⟩
      · have e : sort_Plan_L1 (b : Int) p = some (.inl (p ++ [(0, [])])) := by
          unfold sort_Plan_L1
          rw [lenI_eq, hpl, rem _ h1 (by omega)]
          simp only [Option.bind_some]
          rw [if_pos hne, gapp_some (by simp only [List.length_singleton]; omega)]; rfl
        rw [itN_go e, g2, List.append_assoc, List.replicate_succ]; rfl
      · have e : ref09_Cheapest_L0 (b : Int) l = some (.inl (l ++ [0])) := by
          unfold ref09_Cheapest_L0
          rw [lenI_eq, rem _ h1 (by omega)]
          simp only [Option.bind_some]
          rw [if_pos hne, gapp_some (by simp only [List.length_singleton]; omega)]; rfl
        rw [itN_go e, g3, List.append_assoc, List.replicate_succ]; rfl
theorem start_L0 (cs : List Int) (hl : cs.length ≤ 12) : ∀ (m i : Nat) (p : List Pile), i + m = cs.length → p.map (·.1) = cs.take i → (∀ k ∈ kd p, 0 ≤ k ∧ k < i) → (kd p).length = i →
    ∃ p', itN (sort_Plan_L0 cs) (m + 1) ((i : Int), p) = some p' ∧ p'.map (·.1) = cs ∧ (∀ k ∈ kd p', 0 ≤ k ∧ k < cs.length) ∧ (kd p').length = cs.length
  | 0, i, p, hm, h1, h2, h3 => by
    have : i = cs.length := by omega
    subst this
    exact ⟨p, itN_stop (by unfold sort_Plan_L0; rw [if_neg (by rw [lenI_eq]; simp)]), by rw [h1, List.take_length], h2, h3⟩
  | m + 1, i, p, hm, h1, h2, h3 => by
    have hi : i < cs.length := by omega
    have hpl : p.length = i := by rw [← List.length_map (f := (·.1)), h1, List.length_take]; omega
    have e : sort_Plan_L0 cs ((i : Int), p) = some (.inl (((i + 1 : Nat) : Int), p ++ [(cs[i], [(i : Int)])])) := by
      unfold sort_Plan_L0
      rw [if_pos (by rw [lenI_eq]; simpa using hi), gi_cast hi]
      simp only [Option.bind_some]
      rw [gapp_some (by simp only [List.length_singleton]; omega), w64_add1 (by omega)]; rfl
    rw [itN_go e]
    refine start_L0 cs hl m (i + 1) _ (by omega) (by rw [List.map_append, h1, take_snoc hi]; rfl) (fun k hk => ?_) (by rw [kd_append]; simp [kd, h3])
    rw [kd_append] at hk
    rcases List.mem_append.1 hk with hk | hk
    · have := h2 k hk; omega
    · simp [kd] at hk; omega
theorem sc_perm {a b : List Pile} (h : a.Perm b) : sc a = sc b := by
  induction h with
  | nil => rfl
  | cons x _ ih => simp only [sc, ih]
  | swap x y l => simp only [sc]; omega
  | trans _ _ h1 h2 => exact h1.trans h2
theorem kd_perm {a b : List Pile} (h : a.Perm b) : (kd a).Perm (kd b) := by
  induction h with
  | nil => exact .refl _
  | cons x _ ih => exact ih.append_left _
  | swap x y l =>
    simp only [kd, ← List.append_assoc]
    exact List.perm_append_comm.append_right _
  | trans _ _ h1 h2 => exact h1.trans h2
theorem kd_pad (k : Nat) : kd (List.replicate k ((0, []) : Pile)) = [] := by
  induction k with
  | zero => rfl
  | succ k ih => rw [List.replicate_succ]; simp [kd, ih]
theorem sc_pad (k : Nat) : sc (List.replicate k ((0, []) : Pile)) = 0 := by
  induction k with
  | zero => rfl
  | succ k ih => rw [List.replicate_succ]; simp [sc, ih]
theorem sI_le : ∀ (l : List Int), (∀ x ∈ l, 0 ≤ x ∧ x ≤ 1000) → sI l ≤ 1000 * l.length
  | [], _ => by simp [sI]
  | x :: l, h => by
    have := h x (by simp)
    have := sI_le l fun y hy => h y (by simp [hy])
    simp only [sI, List.length_cons]; push_cast; omega
theorem Plan_ok (cs : List Int) (b : Int) (hn : numR cs b = true) : ∃ ps c, sort_Plan cs b = some (ps, c, 0) ∧ ref09_Cheapest cs b = some c := by
  have hb : 2 ≤ b ∧ b ≤ 8 := by unfold numR wi at hn; simp at hn; omega
  have hl : 1 ≤ cs.length ∧ cs.length ≤ 12 := by unfold numR wi at hn; simp at hn; omega
  have hc : ∀ c ∈ cs, 0 ≤ c ∧ c ≤ 1000 := fun c hc => by
    unfold numR at hn
    simp only [Bool.and_eq_true] at hn
    have := List.all_eq_true.1 hn.2 c hc
    unfold wi at this; simpa using this
  obtain ⟨B, hB⟩ : ∃ B : Nat, (B : Int) = b := ⟨b.toNat, by omega⟩
  subst hB
  have hB : 2 ≤ B ∧ B ≤ 8 := by omega
  obtain ⟨p0, e0, m0, k0, l0⟩ := start_L0 cs hl.2 cs.length 0 [] (by omega) rfl (fun k hk => by simp [kd] at hk) rfl
  have hp0 : p0.length = cs.length := by rw [← List.length_map (f := (·.1)), m0]
  -- how many are missing
  have hpad : ∃ f, f ≤ 6 ∧ (cs.length - 1 + f) % (B - 1) = 0 := by
    have hlt := Nat.mod_lt (cs.length - 1) (show 0 < B - 1 by omega)
    by_cases hz : (cs.length - 1) % (B - 1) = 0
    · exact ⟨0, by omega, by simpa using hz⟩
    · refine ⟨B - 1 - (cs.length - 1) % (B - 1), by omega, ?_⟩
      have h1 := Nat.mod_add_div (cs.length - 1) (B - 1)
      refine Nat.mod_eq_zero_of_dvd ⟨(cs.length - 1) / (B - 1) + 1, ?_⟩
      rw [Nat.mul_add]; omega
  obtain ⟨f, hf, hmod⟩ := hpad
  obtain ⟨k, hk, e1, e2, hm⟩ := pads hB f p0 cs hp0 hl.1 (by omega) hmod
  have hmap : (p0 ++ List.replicate k ((0, []) : Pile)).map (·.1) = cs ++ List.replicate k 0 := by rw [List.map_append, m0, List.map_replicate]
  have hnn : ∀ x ∈ p0 ++ List.replicate k ((0, []) : Pile), 0 ≤ x.1 ∧ x.1 ≤ 1000 := fun x hx => by
    have hx : x.1 ∈ cs ++ List.replicate k 0 := by rw [← hmap]; exact List.mem_map.2 ⟨x, hx, rfl⟩
    rcases List.mem_append.1 hx with hx | hx
    · exact hc _ hx
    · have := (List.mem_replicate.1 hx).2; omega
  have hkd : kd (p0 ++ List.replicate k ((0, []) : Pile)) = kd p0 := by rw [kd_append, kd_pad, List.append_nil]
  have hlen1 : (p0 ++ List.replicate k ((0, []) : Pile)).length = cs.length + k := by rw [List.length_append, List.length_replicate, hp0]
  have hsc : sc (p0 ++ List.replicate k ((0, []) : Pile)) ≤ 12000 := by
    rw [sc_append, sc_pad, sc_sI, m0]
    have := sI_le cs hc
    omega
  have hok : ∀ x ∈ p0 ++ List.replicate k ((0, []) : Pile), okP9 x := fun x hx => by
    have h1 := hnn x hx
    refine ⟨h1.1, by omega, ?_⟩
    obtain ⟨i, hi, rfl⟩ := List.mem_iff_getElem.1 hx
    have e := split_at hi
    have h2 : (kd (p0 ++ List.replicate k ((0, []) : Pile))).length = (kd ((p0 ++ List.replicate k ((0, []) : Pile)).take i)).length + ((p0 ++ List.replicate k ((0, []) : Pile))[i].2.length + (kd ((p0 ++ List.replicate k ((0, []) : Pile)).drop (i + 1))).length) := by
      conv => lhs; rw [e]
      rw [kd_append]; simp [kd]
    rw [hkd, l0] at h2
    omega
  obtain ⟨p2, e3, hperm, hsorted⟩ := ordered_eq _ (by rw [hlen1]; omega) (by rw [hlen1]; omega) hok
  have hlen2 := hperm.length_eq
  have hPI : PI cs.length B p2 := by
    refine ⟨hsorted, fun x hx => (hnn x (hperm.mem_iff.1 hx)).1, by rw [sc_perm hperm]; exact hsc, fun j hj => k0 j (by rw [← hkd]; exact (kd_perm hperm).mem_iff.1 hj), by rw [(kd_perm hperm).length_eq, hkd, l0]; exact hl.2, by rw [hlen2, hlen1]; omega, by rw [hlen2, hlen1]; exact hm⟩
  obtain ⟨c', ps', r1, r2⟩ := rounds hB 20 p2 (cs ++ List.replicate k 0) 0 (List.replicate cs.length 0) (by rw [hlen2, hlen1]; omega) hPI (by rw [← hmap]; exact hperm.map _) (by simp) (Int.le_refl _) (by rw [hlen2, hlen1]; push_cast; omega)
  refine ⟨ps', c', ?_, ?_⟩
  · unfold sort_Plan
    rw [numbered_eq cs _ (by omega), hn]
    simp only [Option.bind_some, Bool.not_true, Bool.false_eq_true, if_false]
    rw [show ((0 : Int), ([] : List Pile)) = (((0 : Nat) : Int), []) from rfl, iter_of e0 (by omega)]
    simp only [Option.bind_some]
    rw [iter_of e1 (by omega)]
    simp only [Option.bind_some]
    have emk : gmk (lenI cs) (0 : Int) = some (List.replicate cs.length 0) := by
      unfold gmk
      rw [lenI_eq, if_pos (by omega)]; rfl
    rw [emk]
    simp only [Option.bind_some]
    rw [show sort_ordered_sort_pile_m6 (fun u0 => (sort_Plan_c1 u0.1 u0.2).bind fun u1 => some u1) (p0 ++ List.replicate k (0, [])) = _ from e3]
    simp only [Option.bind_some]
    rw [iter_of r1 (by omega)]; rfl
  · unfold ref09_Cheapest
    rw [gapp_some (by simp only [List.length_nil]; omega)]
    simp only [Option.bind_some, List.nil_append]
    rw [iter_of e2 (by omega)]
    simp only [Option.bind_some]
    rw [iter_of r2 (by omega)]; rfl
theorem law09_SortCosts_eq (cs ps : List Int) (b : Int) : law09_SortCosts cs ps b = some true := by
  unfold law09_SortCosts
  by_cases h1 : (20 : Int) < lenI cs
  · rw [if_pos (by simpa using h1)]
  · rw [if_neg (by simpa using h1)]
    by_cases h2 : (20 : Int) < lenI ps
    · rw [if_pos (by simpa using h2)]
    · rw [if_neg (by simpa using h2)]
      rw [lenI_eq] at h1 h2
      obtain ⟨x, e1, e2⟩ := Cost_same cs ps b (by omega) (by omega)
      rw [e1, e2]
      simp only [Option.bind_some]
      by_cases hn : numR cs b = true
      · obtain ⟨l, c, e3, e4⟩ := Plan_ok cs b hn
        rw [e3]
        simp [Numbers_eq cs b (by omega), hn, e4]
      · rw [Bool.not_eq_true] at hn
        have e3 : sort_Plan cs b = some ([], 0, 2) := by
          unfold sort_Plan
          rw [numbered_eq cs b (by omega), hn]; rfl
        rw [e3]
        simp [Numbers_eq cs b (by omega), hn, lenI]
end Go.Abs
