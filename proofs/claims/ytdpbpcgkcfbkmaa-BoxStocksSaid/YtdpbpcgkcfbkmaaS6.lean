/- The functions and the law, part 6. -/
import Derived.Test.YtdpbpcgkcfbkmaaProg
import Derived.Test.YtdpbpcgkcfbkmaaZ2
import Derived.Test.YtdpbpcgkcfbkmaaZ4
import Derived.Test.YtdpbpcgkcfbkmaaZ5
set_option linter.constructorNameAsVariable false
set_option linter.unusedVariables false
set_option linter.unusedSimpArgs false
/- The Go functions as Lean functions. -/
set_option linter.unusedVariables false
namespace Go.Abs
open Go
@[reducible] def tBoundsError : Ty := (.pr (.i .i64) (.pr (.i .i64) (.pr .b (.i .u8))))
abbrev BoundsError := (Int × Int × Bool × Int)
@[reducible] def tFilled : Ty := (.pr (.i .i64) (.sl (.i .i64)))
abbrev Filled := (Int × (List Int))
@[reducible] def tChoice : Ty := (.pr (.sl (.i .i64)) (.pr (.i .i64) (.sl (.pr (.i .i64) (.pr (.i .u8) (.i .i64))))))
abbrev Choice := ((List Int) × Int × (List (Int × Int × Int)))
@[reducible] def tBill : Ty := (.pr (.sl (.i .i64)) (.pr (.sl (.pr (.i .i64) (.pr (.i .u8) (.i .i64)))) (.i .i64)))
abbrev Bill := ((List Int) × (List (Int × Int × Int)) × Int)
@[reducible] def tFlow : Ty := (.pr (.sl (.sl .b)) (.pr (.sl (.sl (.i .i64))) (.sl (.i .i64))))
abbrev Flow := ((List (List Bool)) × (List (List Int)) × (List Int))
@[reducible] def tFlow5 : Ty := (.pr (.sl (.pr (.i .i64) (.pr (.i .u8) (.i .i64)))) (.pr (.sl (.sl (.i .i64))) (.pr (.sl (.sl (.i .i64))) (.sl (.i .i64)))))
abbrev Flow5 := ((List (Int × Int × Int)) × (List (List Int)) × (List (List Int)) × (List Int))
@[reducible] def tSwap : Ty := (.pr (.i .i64) (.pr (.i .u8) (.pr (.i .i64) (.i .u8))))
abbrev Swap := (Int × Int × Int × Int)
@[reducible] def tLine : Ty := (.pr (.i .i64) (.pr (.i .i64) (.pr (.i .i64) (.pr (.pr (.i .i64) (.i .u8)) .b))))
abbrev Line := (Int × Int × Int × (Int × Int) × Bool)

def ref08_within (x0 : Int) (x1 : Int) (x2 : Int) : Option Bool :=
  (if (decide (x1 ≤ x0)) = true then (some (decide (x0 ≤ x2))) else (some false))

def ref08_Lots_L0 (x0 : (List (Int × Int × Int))) (v0 : (Int × Int)) : Option ((Int × Int) ⊕ Int) :=
  (if (decide (v0.1 < (lenI x0))) = true then ((gi x0 v0.1).bind fun v1 => ((ref08_within v1.2.2 0 1000).bind fun v2 => (if v2 = true then ((gi x0 v0.1).bind fun v3 => (some (.inl ((w64 (v0.1 + 1)), (w64 (v0.2 + v3.2.2)))))) else (some (.inl ((w64 (v0.1 + 1)), v0.2)))))) else (some (.inr v0.2)))

def ref08_Lots (x0 : (List (Int × Int × Int))) : Option Bool :=
  (if (decide (40 < (lenI x0))) = true then (some true) else ((iter (ref08_Lots_L0 x0) (0, 0)).bind fun v4 => (some (decide (8000 < v4)))))

def law08_lots_L0 (x0 : (List (List (Int × Int × Int)))) (v0 : Int) : Option (Int ⊕ (Bool ⊕ Unit)) :=
  (if (decide (v0 < (lenI x0))) = true then ((gi x0 v0).bind fun v1 => ((ref08_Lots v1).bind fun v2 => (if v2 = true then (some (.inr (.inl true))) else (some (.inl (w64 (v0 + 1))))))) else (some (.inr (.inr ()))))

def law08_lots (x0 : (List (List (Int × Int × Int)))) : Option Bool :=
  ((iter (law08_lots_L0 x0) 0).bind fun v3 => (match v3 with | .inl v4 => (some v4) | .inr v5 => (some false)))

def box_from (x0 : Int) (x1 : Int) (x2 : Int) : Option Bool :=
  (if (decide (x0 ≤ x2)) = true then (some (decide (x2 ≤ x1))) else (some false))

def box_Check_c1 (x0 : (Int × Int × Int)) : Option Bool :=
  ((box_from 1 1000 x0.2.2).bind fun v0 => (some (!v0)))

def box_part_valid (x0 : (Int × Int)) : Option Bool :=
  ((box_from 0 15 x0.1).bind fun v0 => (if v0 = true then (some (decide (x0.2 ≤ 15))) else (some false)))

def cmp_isNaN_int (x0 : Int) : Option Bool :=
  (some (x0 != x0))

def cmp_Compare_int (x0 : Int) (x1 : Int) : Option Int :=
  ((cmp_isNaN_int x0).bind fun v0 => ((cmp_isNaN_int x1).bind fun v1 => (if v0 = true then (if v1 = true then (some 0) else (some (-1))) else (if v1 = true then (some 1) else (if (decide (x0 < x1)) = true then (some (-1)) else (if (decide (x1 < x0)) = true then (some 1) else (some 0)))))))

def cmp_isNaN_uint8 (x0 : Int) : Option Bool :=
  (some (x0 != x0))

def cmp_Compare_uint8 (x0 : Int) (x1 : Int) : Option Int :=
  ((cmp_isNaN_uint8 x0).bind fun v0 => ((cmp_isNaN_uint8 x1).bind fun v1 => (if v0 = true then (if v1 = true then (some 0) else (some (-1))) else (if v1 = true then (some 1) else (if (decide (x0 < x1)) = true then (some (-1)) else (if (decide (x1 < x0)) = true then (some 1) else (some 0)))))))

def cmp_Or_int_L0 (x0 : (List Int)) (v0 : Int) : Option (Int ⊕ (Int ⊕ Unit)) :=
  (if (decide (v0 < (lenI x0))) = true then ((gi x0 v0).bind fun v1 => (if (v1 != 0) = true then (some (.inr (.inl v1))) else (some (.inl (w64 (v0 + 1)))))) else (some (.inr (.inr ()))))

def cmp_Or_int (x0 : (List Int)) : Option Int :=
  ((iter (cmp_Or_int_L0 x0) 0).bind fun v2 => (match v2 with | .inl v3 => (some v3) | .inr v4 => (some 0)))

def box_order (x0 : (Int × Int)) (x1 : (Int × Int)) : Option Int :=
  ((cmp_Compare_int x0.1 x1.1).bind fun v0 => ((cmp_Compare_uint8 x0.2 x1.2).bind fun v1 => ((cmp_Or_int [v0, v1]).bind fun v2 => (some v2))))

def box_ordered_api_Item_L0 (x0 : (List (Int × Int × Int))) (x2 : ((Int × Int × Int) → Option (Int × Int))) (v0 : Int) : Option (Int ⊕ (Bool ⊕ Unit)) :=
  (if (decide (v0 < (lenI x0))) = true then ((gi x0 v0).bind fun v1 => ((x2 v1).bind fun v2 => ((box_part_valid v2).bind fun v3 => (if (!v3) = true then (some (.inr (.inl false))) else (if (decide (0 < v0)) = true then ((gi x0 (w64 (v0 - 1))).bind fun v4 => ((x2 v4).bind fun v5 => ((x2 v1).bind fun v6 => ((box_order v5 v6).bind fun v7 => (if (decide (0 ≤ v7)) = true then (some (.inr (.inl false))) else (some (.inl (w64 (v0 + 1))))))))) else (some (.inl (w64 (v0 + 1))))))))) else (some (.inr (.inr ()))))

def box_ordered_api_Item (x0 : (List (Int × Int × Int))) (x1 : Int) (x2 : ((Int × Int × Int) → Option (Int × Int))) : Option Bool :=
  ((iter (box_ordered_api_Item_L0 x0 x2) 0).bind fun v8 => (match v8 with | .inl v9 => (some v9) | .inr v10 => (some (decide ((lenI x0) ≤ x1)))))

def box_ofItem (x0 : (Int × Int × Int)) : Option (Int × Int) :=
  (some (x0.1, x0.2.1))

def slices_IndexFunc_s_api_Item_api_Item_L0 (x0 : (List (Int × Int × Int))) (x1 : ((Int × Int × Int) → Option Bool)) (v0 : Int) : Option (Int ⊕ (Int ⊕ Unit)) :=
  (if (decide (v0 < (lenI x0))) = true then ((gi x0 v0).bind fun v1 => ((x1 v1).bind fun v2 => (if v2 = true then (some (.inr (.inl v0))) else (some (.inl (w64 (v0 + 1))))))) else (some (.inr (.inr ()))))

def slices_IndexFunc_s_api_Item_api_Item (x0 : (List (Int × Int × Int))) (x1 : ((Int × Int × Int) → Option Bool)) : Option Int :=
  ((iter (slices_IndexFunc_s_api_Item_api_Item_L0 x0 x1) 0).bind fun v3 => (match v3 with | .inl v4 => (some v4) | .inr v5 => (some (-1))))

def slices_ContainsFunc_s_api_Item_api_Item (x0 : (List (Int × Int × Int))) (x1 : ((Int × Int × Int) → Option Bool)) : Option Bool :=
  ((slices_IndexFunc_s_api_Item_api_Item x0 x1).bind fun v0 => (some (decide (0 ≤ v0))))

def box_Check (x0 : (List (Int × Int × Int))) : Option Int :=
  ((box_ordered_api_Item x0 30 (fun (u0 : (Int × Int × Int)) => ((box_ofItem u0).bind fun u1 => (some u1)))).bind fun v0 => (if (!v0) = true then (some 8) else ((slices_ContainsFunc_s_api_Item_api_Item x0 (fun (u0 : (Int × Int × Int)) => ((box_Check_c1 u0).bind fun u1 => (some u1)))).bind fun v1 => (if v1 = true then (some 8) else (some 0)))))

def box_checked_L0 (x0 : (List (List (Int × Int × Int)))) (v0 : Int) : Option (Int ⊕ (Int ⊕ Unit)) :=
  (if (decide (v0 < (lenI x0))) = true then ((gi x0 v0).bind fun v1 => ((box_Check v1).bind fun v2 => (if (v2 != 0) = true then (some (.inr (.inl v2))) else (some (.inl (w64 (v0 + 1))))))) else (some (.inr (.inr ()))))

def box_checked (x0 : (List (List (Int × Int × Int)))) : Option Int :=
  ((iter (box_checked_L0 x0) 0).bind fun v3 => (match v3 with | .inl v4 => (some v4) | .inr v5 => (some 0)))

def box_compare (x0 : (List (Int × Int × Int))) (x1 : (List (Int × Int × Int))) : Option Int :=
  (if ((lenI x0) == 0) = true then (some 1) else (if ((lenI x1) == 0) = true then (some (-1)) else ((gi x0 0).bind fun v0 => ((box_ofItem v0).bind fun v1 => ((gi x1 0).bind fun v2 => ((box_ofItem v2).bind fun v3 => ((box_order v1 v3).bind fun v4 => (some v4))))))))

def box_merged_L0 (x2 : ((Int × Int) → Option Int)) (v0 : ((List (Int × Int × Int)) × (List (Int × Int × Int)) × (List (Int × Int × Int)))) : Option (((List (Int × Int × Int)) × (List (Int × Int × Int)) × (List (Int × Int × Int))) ⊕ (List (Int × Int × Int))) :=
  ((if (decide (0 < (lenI v0.1))) = true then (some true) else (some (decide (0 < (lenI v0.2.1))))).bind fun v1 => (if v1 = true then ((box_compare v0.1 v0.2.1).bind fun v2 => ((if (decide (v2 ≤ 0)) = true then ((gi v0.1 0).bind fun v3 => ((gi v0.1 0).bind fun v4 => ((gsl v0.1 1 (lenI v0.1)).bind fun v5 => ((if (v2 == 0) = true then ((gi v0.2.1 0).bind fun v6 => ((gsl v0.2.1 1 (lenI v0.2.1)).bind fun v7 => (some (v6.2.2, v7)))) else (some (0, v0.2.1))).bind fun v8 => (some (v4.2.2, v8.1, v5, v8.2, v3)))))) else ((gi v0.2.1 0).bind fun v9 => ((gi v0.2.1 0).bind fun v10 => ((gsl v0.2.1 1 (lenI v0.2.1)).bind fun v11 => (some (0, v10.2.2, v0.1, v11, v9)))))).bind fun v12 => ((x2 (v12.1, v12.2.1)).bind fun v13 => (if (v13 != 0) = true then ((gapp v0.2.2 [(v12.2.2.2.2.1, v12.2.2.2.2.2.1, v13)]).bind fun v14 => (some (.inl (v12.2.2.1, v12.2.2.2.1, v14)))) else (some (.inl (v12.2.2.1, v12.2.2.2.1, v0.2.2))))))) else (some (.inr v0.2.2))))

def box_merged (x0 : (List (Int × Int × Int))) (x1 : (List (Int × Int × Int))) (x2 : ((Int × Int) → Option Int)) : Option (List (Int × Int × Int)) :=
  ((iter (box_merged_L0 x2) (x0, x1, [])).bind fun v15 => (some v15))

def box_Add_c1 (x0 : Int) (x1 : Int) : Option Int :=
  (some (w64 (x0 + x1)))

def box_Add (x0 : (List (Int × Int × Int))) (x1 : (List (Int × Int × Int))) : Option ((List (Int × Int × Int)) × Int) :=
  ((box_checked [x0, x1]).bind fun v0 => (if (v0 != 0) = true then (some ([], v0)) else ((box_merged x0 x1 (fun (u0 : (Int × Int)) => ((box_Add_c1 u0.1 u0.2).bind fun u1 => (some u1)))).bind fun v1 => ((box_Check v1).bind fun v2 => (if (v2 != 0) = true then (some ([], 4)) else (some (v1, 0)))))))

def ref08_isPart (x0 : Int) (x1 : Int) : Option Bool :=
  ((ref08_within x0 0 15).bind fun v0 => (if v0 = true then (some (decide (x1 ≤ 15))) else (some false)))

def ref08_before (x0 : Int) (x1 : Int) (x2 : Int) (x3 : Int) : Option Bool :=
  (if (decide (x0 < x2)) = true then (some true) else (if (x0 == x2) = true then (some (decide (x1 < x3))) else (some false)))

def ref08_Stock_L0 (x0 : (List (Int × Int × Int))) (v0 : Int) : Option (Int ⊕ (Bool ⊕ Unit)) :=
  (if (decide (v0 < (lenI x0))) = true then ((gi x0 v0).bind fun v1 => ((ref08_isPart v1.1 v1.2.1).bind fun v2 => (if (!v2) = true then (some (.inr (.inl false))) else ((ref08_within v1.2.2 1 1000).bind fun v3 => (if (!v3) = true then (some (.inr (.inl false))) else (if (decide (0 < v0)) = true then ((gi x0 (w64 (v0 - 1))).bind fun v4 => ((gi x0 (w64 (v0 - 1))).bind fun v5 => ((ref08_before v4.1 v5.2.1 v1.1 v1.2.1).bind fun v6 => (if (!v6) = true then (some (.inr (.inl false))) else (some (.inl (w64 (v0 + 1)))))))) else (some (.inl (w64 (v0 + 1)))))))))) else (some (.inr (.inr ()))))

def ref08_Stock (x0 : (List (Int × Int × Int))) : Option Bool :=
  (if (decide (30 < (lenI x0))) = true then (some false) else ((iter (ref08_Stock_L0 x0) 0).bind fun v7 => (match v7 with | .inl v8 => (some v8) | .inr v9 => (some true))))

def ref08_Has_L0 (x0 : (List (Int × Int × Int))) (x1 : Int) (x2 : Int) (v0 : Int) : Option (Int ⊕ (Int ⊕ Unit)) :=
  (if (decide (v0 < (lenI x0))) = true then (((gi x0 v0).bind fun v1 => (if (v1.1 == x1) = true then ((gi x0 v0).bind fun v2 => (some (v2.2.1 == x2))) else (some false))).bind fun v3 => (if v3 = true then ((gi x0 v0).bind fun v4 => (some (.inr (.inl v4.2.2)))) else (some (.inl (w64 (v0 + 1)))))) else (some (.inr (.inr ()))))

def ref08_Has (x0 : (List (Int × Int × Int))) (x1 : Int) (x2 : Int) : Option Int :=
  ((iter (ref08_Has_L0 x0 x1 x2) 0).bind fun v5 => (match v5 with | .inl v6 => (some v6) | .inr v7 => (some 0)))

def ref08_sum_L1 (x0 : (List (Int × Int × Int))) (x1 : (List (Int × Int × Int))) (x2 : Int) (v0 : (Int × Bool × Bool × (List (Int × Int × Int)))) (v1 : (Int × Bool × Bool × (List (Int × Int × Int)))) : Option ((Int × Bool × Bool × (List (Int × Int × Int))) ⊕ (Bool × Bool × (List (Int × Int × Int)))) :=
  (if (decide (v1.1 ≤ 15)) = true then ((ref08_Has x0 v0.1 v1.1).bind fun v2 => ((ref08_Has x1 v0.1 v1.1).bind fun v3 => ((if v1.2.1 = true then (some (decide (0 ≤ (w64 (v2 + (w64 (x2 * v3))))))) else (some false)).bind fun v4 => ((if v1.2.2.1 = true then (some (decide ((w64 (v2 + (w64 (x2 * v3)))) ≤ 1000))) else (some false)).bind fun v5 => (if ((w64 (v2 + (w64 (x2 * v3)))) != 0) = true then ((gapp v1.2.2.2 [(v0.1, v1.1, (w64 (v2 + (w64 (x2 * v3)))))]).bind fun v6 => (some (.inl ((IntKind.wrap .u8 (v1.1 + 1)), v4, v5, v6)))) else (some (.inl ((IntKind.wrap .u8 (v1.1 + 1)), v4, v5, v1.2.2.2)))))))) else (some (.inr v1.2)))

def ref08_sum_L0 (x0 : (List (Int × Int × Int))) (x1 : (List (Int × Int × Int))) (x2 : Int) (v0 : (Int × Bool × Bool × (List (Int × Int × Int)))) : Option ((Int × Bool × Bool × (List (Int × Int × Int))) ⊕ (Bool × Bool × (List (Int × Int × Int)))) :=
  (if (decide (v0.1 ≤ 15)) = true then ((iter (ref08_sum_L1 x0 x1 x2 v0) (0, v0.2)).bind fun v7 => (some (.inl ((w64 (v0.1 + 1)), v7)))) else (some (.inr v0.2)))

def ref08_sum (x0 : (List (Int × Int × Int))) (x1 : (List (Int × Int × Int))) (x2 : Int) : Option ((List (Int × Int × Int)) × Bool × Bool) :=
  ((iter (ref08_sum_L0 x0 x1 x2) (0, true, true, [])).bind fun v8 => (if v8.2.1 = true then (some (v8.2.2, v8.1, (decide ((lenI v8.2.2) ≤ 30)))) else (some (v8.2.2, v8.1, false))))

def ref08_Add (x0 : (List (Int × Int × Int))) (x1 : (List (Int × Int × Int))) : Option ((List (Int × Int × Int)) × Int) :=
  ((ref08_Stock x0).bind fun v0 => (if (!v0) = true then (some ([], 8)) else ((ref08_Stock x1).bind fun v1 => (if (!v1) = true then (some ([], 8)) else ((ref08_sum x0 x1 1).bind fun v2 => (if (!v2.2.2) = true then (some ([], 4)) else (some (v2.1, 0))))))))

def box_Take_c1 (x0 : Int) (x1 : Int) : Option Int :=
  (some (w64 (x0 - x1)))

def box_Take_c2 (x0 : (Int × Int × Int)) : Option Bool :=
  (some (decide (x0.2.2 < 0)))

def box_Take (x0 : (List (Int × Int × Int))) (x1 : (List (Int × Int × Int))) : Option ((List (Int × Int × Int)) × Int) :=
  ((box_checked [x0, x1]).bind fun v0 => (if (v0 != 0) = true then (some ([], v0)) else ((box_merged x0 x1 (fun (u0 : (Int × Int)) => ((box_Take_c1 u0.1 u0.2).bind fun u1 => (some u1)))).bind fun v1 => ((slices_ContainsFunc_s_api_Item_api_Item v1 (fun (u0 : (Int × Int × Int)) => ((box_Take_c2 u0).bind fun u1 => (some u1)))).bind fun v2 => (if v2 = true then (some ([], 6)) else (some (v1, 0)))))))

def ref08_Take (x0 : (List (Int × Int × Int))) (x1 : (List (Int × Int × Int))) : Option ((List (Int × Int × Int)) × Int) :=
  ((ref08_Stock x0).bind fun v0 => (if (!v0) = true then (some ([], 8)) else ((ref08_Stock x1).bind fun v1 => (if (!v1) = true then (some ([], 8)) else ((ref08_sum x0 x1 (-1)).bind fun v2 => (if (!v2.2.1) = true then (some ([], 6)) else (some (v2.1, 0))))))))

def ref08_Check (x0 : (List (Int × Int × Int))) : Option Int :=
  ((ref08_Stock x0).bind fun v0 => (if (!v0) = true then (some 8) else (some 0)))

def ref08_SameItems_L0 (x0 : (List (Int × Int × Int))) (x1 : (List (Int × Int × Int))) (v0 : Int) : Option (Int ⊕ (Bool ⊕ Unit)) :=
  (if (decide (v0 < (lenI x0))) = true then ((gi x0 v0).bind fun v1 => ((gi x1 v0).bind fun v2 => (if (!((v1.1 == v2.1) && ((v1.2.1 == v2.2.1) && (v1.2.2 == v2.2.2)))) = true then (some (.inr (.inl false))) else (some (.inl (w64 (v0 + 1))))))) else (some (.inr (.inr ()))))

def ref08_SameItems (x0 : (List (Int × Int × Int))) (x1 : (List (Int × Int × Int))) : Option Bool :=
  (if ((lenI x0) != (lenI x1)) = true then (some false) else ((iter (ref08_SameItems_L0 x0 x1) 0).bind fun v3 => (match v3 with | .inl v4 => (some v4) | .inr v5 => (some true))))

def box_merged_m0_L0 (x2 : ((Int × Int) → Option Int)) (v0 : ((List (Int × Int × Int)) × (List (Int × Int × Int)) × (List (Int × Int × Int)))) : Option (((List (Int × Int × Int)) × (List (Int × Int × Int)) × (List (Int × Int × Int))) ⊕ (List (Int × Int × Int))) :=
  ((if (decide (0 < (lenI v0.1))) = true then (some true) else (some (decide (0 < (lenI v0.2.1))))).bind fun v1 => (if v1 = true then ((box_compare v0.1 v0.2.1).bind fun v2 => ((if (decide (v2 ≤ 0)) = true then ((gi v0.1 0).bind fun v3 => ((gi v0.1 0).bind fun v4 => ((gsl v0.1 1 (lenI v0.1)).bind fun v5 => ((if (v2 == 0) = true then ((gi v0.2.1 0).bind fun v6 => ((gsl v0.2.1 1 (lenI v0.2.1)).bind fun v7 => (some (v6.2.2, v7)))) else (some (0, v0.2.1))).bind fun v8 => (some (v4.2.2, v8.1, v5, v8.2, v3)))))) else ((gi v0.2.1 0).bind fun v9 => ((gi v0.2.1 0).bind fun v10 => ((gsl v0.2.1 1 (lenI v0.2.1)).bind fun v11 => (some (0, v10.2.2, v0.1, v11, v9)))))).bind fun v12 => ((x2 (v12.1, v12.2.1)).bind fun v13 => (if (v13 != 0) = true then ((gapp v0.2.2 [(v12.2.2.2.2.1, v12.2.2.2.2.2.1, v13)]).bind fun v14 => (some (.inl (v12.2.2.1, v12.2.2.2.1, v14)))) else (some (.inl (v12.2.2.1, v12.2.2.2.1, v0.2.2))))))) else (some (.inr v0.2.2))))

def box_merged_m0 (x0 : (List (Int × Int × Int))) (x1 : (List (Int × Int × Int))) (x2 : ((Int × Int) → Option Int)) : Option (List (Int × Int × Int)) :=
  ((iter (box_merged_m0_L0 x2) (x0, x1, [])).bind fun v15 => (some v15))

def box_Add_m1 (x0 : (List (Int × Int × Int))) (x1 : (List (Int × Int × Int))) : Option (Int × (List (Int × Int × Int))) :=
  ((box_checked [x0, x1]).bind fun v0 => (if (v0 != 0) = true then (some (v0, [])) else ((box_merged_m0 x0 x1 (fun (u0 : (Int × Int)) => ((box_Add_c1 u0.1 u0.2).bind fun u1 => (some u1)))).bind fun v1 => ((box_Check v1).bind fun v2 => (if (v2 != 0) = true then (some (4, [])) else (some (0, v1)))))))

def ref08_sum_m2_L1 (x0 : (List (Int × Int × Int))) (x1 : (List (Int × Int × Int))) (x2 : Int) (v0 : (Int × Bool × Bool × (List (Int × Int × Int)))) (v1 : (Int × Bool × Bool × (List (Int × Int × Int)))) : Option ((Int × Bool × Bool × (List (Int × Int × Int))) ⊕ (Bool × Bool × (List (Int × Int × Int)))) :=
  (if (decide (v1.1 ≤ 15)) = true then ((ref08_Has x0 v0.1 v1.1).bind fun v2 => ((ref08_Has x1 v0.1 v1.1).bind fun v3 => ((if v1.2.1 = true then (some (decide (0 ≤ (w64 (v2 + (w64 (x2 * v3))))))) else (some false)).bind fun v4 => ((if v1.2.2.1 = true then (some (decide ((w64 (v2 + (w64 (x2 * v3)))) ≤ 1000))) else (some false)).bind fun v5 => (if ((w64 (v2 + (w64 (x2 * v3)))) != 0) = true then ((gapp v1.2.2.2 [(v0.1, v1.1, (w64 (v2 + (w64 (x2 * v3)))))]).bind fun v6 => (some (.inl ((IntKind.wrap .u8 (v1.1 + 1)), v4, v5, v6)))) else (some (.inl ((IntKind.wrap .u8 (v1.1 + 1)), v4, v5, v1.2.2.2)))))))) else (some (.inr v1.2)))

def ref08_sum_m2_L0 (x0 : (List (Int × Int × Int))) (x1 : (List (Int × Int × Int))) (x2 : Int) (v0 : (Int × Bool × Bool × (List (Int × Int × Int)))) : Option ((Int × Bool × Bool × (List (Int × Int × Int))) ⊕ (Bool × Bool × (List (Int × Int × Int)))) :=
  (if (decide (v0.1 ≤ 15)) = true then ((iter (ref08_sum_m2_L1 x0 x1 x2 v0) (0, v0.2)).bind fun v7 => (some (.inl ((w64 (v0.1 + 1)), v7)))) else (some (.inr v0.2)))

def ref08_sum_m2 (x0 : (List (Int × Int × Int))) (x1 : (List (Int × Int × Int))) (x2 : Int) : Option (Bool × Bool × (List (Int × Int × Int))) :=
  ((iter (ref08_sum_m2_L0 x0 x1 x2) (0, true, true, [])).bind fun v8 => (if v8.2.1 = true then (some (v8.1, (decide ((lenI v8.2.2) ≤ 30)), v8.2.2)) else (some (v8.1, false, v8.2.2))))

def ref08_Add_m3 (x0 : (List (Int × Int × Int))) (x1 : (List (Int × Int × Int))) : Option (Int × (List (Int × Int × Int))) :=
  ((ref08_Stock x0).bind fun v0 => (if (!v0) = true then (some (8, [])) else ((ref08_Stock x1).bind fun v1 => (if (!v1) = true then (some (8, [])) else ((ref08_sum_m2 x0 x1 1).bind fun v2 => (if (!v2.2.1) = true then (some (4, [])) else (some (0, v2.2.2))))))))

def box_Take_m4 (x0 : (List (Int × Int × Int))) (x1 : (List (Int × Int × Int))) : Option (Int × (List (Int × Int × Int))) :=
  ((box_checked [x0, x1]).bind fun v0 => (if (v0 != 0) = true then (some (v0, [])) else ((box_merged_m0 x0 x1 (fun (u0 : (Int × Int)) => ((box_Take_c1 u0.1 u0.2).bind fun u1 => (some u1)))).bind fun v1 => ((slices_ContainsFunc_s_api_Item_api_Item v1 (fun (u0 : (Int × Int × Int)) => ((box_Take_c2 u0).bind fun u1 => (some u1)))).bind fun v2 => (if v2 = true then (some (6, [])) else (some (0, v1)))))))

def ref08_Take_m5 (x0 : (List (Int × Int × Int))) (x1 : (List (Int × Int × Int))) : Option (Int × (List (Int × Int × Int))) :=
  ((ref08_Stock x0).bind fun v0 => (if (!v0) = true then (some (8, [])) else ((ref08_Stock x1).bind fun v1 => (if (!v1) = true then (some (8, [])) else ((ref08_sum_m2 x0 x1 (-1)).bind fun v2 => (if (!v2.1) = true then (some (6, [])) else (some (0, v2.2.2))))))))

def law08_spoil_m6_L0 (x0 : (List (Int × Int × Int))) (v0 : (Int × (List (Int × Int × Int)))) : Option ((Int × (List (Int × Int × Int))) ⊕ (List (Int × Int × Int))) :=
  (if (decide (v0.1 < (lenI x0))) = true then ((gi v0.2 v0.1).bind fun v1 => ((gi v0.2 v0.1).bind fun v2 => (some (.inl ((w64 (v0.1 + 1)), (lset v0.2 v0.1 (v2.1, v2.2.1, (-7)))))))) else (some (.inr v0.2)))

def law08_spoil_m6 (x0 : (List (Int × Int × Int))) : Option (List (Int × Int × Int)) :=
  ((iter (law08_spoil_m6_L0 x0) (0, x0)).bind fun v3 => (some v3))

def law08_BoxStocks (x0 : (List (Int × Int × Int))) (x1 : (List (Int × Int × Int))) : Option Bool :=
  ((law08_lots [x0, x1]).bind fun v0 => (if v0 = true then (some true) else ((gapp [] x0).bind fun v1 => ((gapp [] x1).bind fun v2 => ((box_Add_m1 v1 v2).bind fun v3 => ((ref08_Add_m3 x0 x1).bind fun v4 => ((box_Take_m4 v1 v2).bind fun v5 => ((ref08_Take_m5 x0 x1).bind fun v6 => (((box_Check v1).bind fun v7 => ((ref08_Check x0).bind fun v8 => (if (v7 == v8) = true then ((ref08_SameItems v3.2 v4.2).bind fun v9 => (if v9 = true then (if (v3.1 == v4.1) = true then ((ref08_SameItems v5.2 v6.2).bind fun v10 => (if v10 = true then (some (v5.1 == v6.1)) else (some false))) else (some false)) else (some false))) else (some false)))).bind fun v11 => ((law08_spoil_m6 v3.2).bind fun v12 => ((law08_spoil_m6 v5.2).bind fun v13 => (if v11 = true then ((ref08_SameItems v1 x0).bind fun v14 => (if v14 = true then ((ref08_SameItems v2 x1).bind fun v15 => (some v15)) else (some false))) else (some false)))))))))))))


end Go.Abs

/- Each function does as its Lean function says. -/
set_option linter.unusedVariables false
set_option maxRecDepth 100000
namespace Go.Abs
open Go Go.Proofs
def ref08_within_C : Ctr := ⟨"", [(.i .i64), (.i .i64), (.i .i64)], [.b], fun x => ref08_within x.1 x.2.1 x.2.2, []⟩
theorem ref08_within_C_ok : Good Try.prog 93 ref08_within_C :=
  good_of Try.func93 (by kernel_rfl) (An := []) [] (.nil) (fun x => by kernel_rfl)

def ref08_Lots_C : Ctr := ⟨"", [(.sl (.pr (.i .i64) (.pr (.i .u8) (.i .i64))))], [.b], fun x => ref08_Lots x, []⟩
theorem ref08_Lots_C_ok : Good Try.prog 35 ref08_Lots_C :=
  good_of Try.func35 (by kernel_rfl) (An := [(0, ⟨⟨[(4, .c (.i .i64)), (3, .c (.i .i64))], []⟩, ⟨[(3, .c (.i .i64))], []⟩, [0], [], 0, false, ""⟩)]) [(93, ref08_within_C)] (.cons ref08_within_C_ok <| .nil) (fun x => by kernel_rfl)

def law08_lots_C : Ctr := ⟨"", [(.sl (.sl (.pr (.i .i64) (.pr (.i .u8) (.i .i64)))))], [.b], fun x => law08_lots x, []⟩
theorem law08_lots_C_ok : Good Try.prog 8 law08_lots_C :=
  good_of Try.func8 (by kernel_rfl) (An := [(0, ⟨⟨[(7, .c (.i .i64))], []⟩, ⟨[], []⟩, [6, 5], [], 0, true, ""⟩)]) [(35, ref08_Lots_C)] (.cons ref08_Lots_C_ok <| .nil) (fun x => by kernel_rfl)

def box_from_C : Ctr := ⟨"", [(.i .i64), (.i .i64), (.i .i64)], [.b], fun x => box_from x.1 x.2.1 x.2.2, []⟩
theorem box_from_C_ok : Good Try.prog 45 box_from_C :=
  good_of Try.func45 (by kernel_rfl) (An := []) [] (.nil) (fun x => by kernel_rfl)

def box_Check_c1_C : Ctr := ⟨"", [(.pr (.i .i64) (.pr (.i .u8) (.i .i64)))], [.b], fun x => box_Check_c1 x, []⟩
theorem box_Check_c1_C_ok : Good Try.prog 44 box_Check_c1_C :=
  good_of Try.func44 (by kernel_rfl) (An := []) [(45, box_from_C)] (.cons box_from_C_ok <| .nil) (fun x => by kernel_rfl)

def box_part_valid_C : Ctr := ⟨"", [(.pr (.i .i64) (.i .u8))], [.b], fun x => box_part_valid x, []⟩
theorem box_part_valid_C_ok : Good Try.prog 60 box_part_valid_C :=
  good_of Try.func60 (by kernel_rfl) (An := []) [(45, box_from_C)] (.cons box_from_C_ok <| .nil) (fun x => by kernel_rfl)

def cmp_isNaN_int_C : Ctr := ⟨"", [(.i .i64)], [.b], fun x => cmp_isNaN_int x, []⟩
theorem cmp_isNaN_int_C_ok : Good Try.prog 106 cmp_isNaN_int_C :=
  good_of Try.func106 (by kernel_rfl) (An := []) [] (.nil) (fun x => by kernel_rfl)

def cmp_Compare_int_C : Ctr := ⟨"", [(.i .i64), (.i .i64)], [(.i .i64)], fun x => cmp_Compare_int x.1 x.2, []⟩
theorem cmp_Compare_int_C_ok : Good Try.prog 57 cmp_Compare_int_C :=
  good_of Try.func57 (by kernel_rfl) (An := []) [(106, cmp_isNaN_int_C)] (.cons cmp_isNaN_int_C_ok <| .nil) (fun x => by kernel_rfl)

def cmp_isNaN_uint8_C : Ctr := ⟨"", [(.i .u8)], [.b], fun x => cmp_isNaN_uint8 x, []⟩
theorem cmp_isNaN_uint8_C_ok : Good Try.prog 125 cmp_isNaN_uint8_C :=
  good_of Try.func125 (by kernel_rfl) (An := []) [] (.nil) (fun x => by kernel_rfl)

def cmp_Compare_uint8_C : Ctr := ⟨"", [(.i .u8), (.i .u8)], [(.i .i64)], fun x => cmp_Compare_uint8 x.1 x.2, []⟩
theorem cmp_Compare_uint8_C_ok : Good Try.prog 113 cmp_Compare_uint8_C :=
  good_of Try.func113 (by kernel_rfl) (An := []) [(125, cmp_isNaN_uint8_C)] (.cons cmp_isNaN_uint8_C_ok <| .nil) (fun x => by kernel_rfl)

def cmp_Or_int_C : Ctr := ⟨"", [(.sl (.i .i64))], [(.i .i64)], fun x => cmp_Or_int x, []⟩
theorem cmp_Or_int_C_ok : Good Try.prog 56 cmp_Or_int_C :=
  good_of Try.func56 (by kernel_rfl) (An := [(0, ⟨⟨[(8, .c (.i .i64))], []⟩, ⟨[], []⟩, [7, 6, 3], [], 0, true, ""⟩)]) [] (.nil) (fun x => by kernel_rfl)

def box_order_C : Ctr := ⟨"", [(.pr (.i .i64) (.i .u8)), (.pr (.i .i64) (.i .u8))], [(.i .i64)], fun x => box_order x.1 x.2, []⟩
theorem box_order_C_ok : Good Try.prog 99 box_order_C :=
  good_of Try.func99 (by kernel_rfl) (An := []) [(56, cmp_Or_int_C), (113, cmp_Compare_uint8_C), (57, cmp_Compare_int_C)] (.cons cmp_Or_int_C_ok <| .cons cmp_Compare_uint8_C_ok <| .cons cmp_Compare_int_C_ok <| .nil) (fun x => by kernel_rfl)

def box_ordered_api_Item_C : Ctr := ⟨"", [(.sl (.pr (.i .i64) (.pr (.i .u8) (.i .i64)))), (.i .i64), (.fn 1 (.pr (.i .i64) (.pr (.i .u8) (.i .i64))) (.pr (.i .i64) (.i .u8)))], [.b], fun x => box_ordered_api_Item x.1 x.2.1 x.2.2, []⟩
theorem box_ordered_api_Item_C_ok : Good Try.prog 46 box_ordered_api_Item_C :=
  good_of Try.func46 (by kernel_rfl) (An := [(0, ⟨⟨[(11, .c (.i .i64))], []⟩, ⟨[], []⟩, [10, 9, 2, 0, 1], [], 0, true, ""⟩)]) [(99, box_order_C), (60, box_part_valid_C)] (.cons box_order_C_ok <| .cons box_part_valid_C_ok <| .nil) (fun x => by kernel_rfl)

def box_ofItem_C : Ctr := ⟨"", [(.pr (.i .i64) (.pr (.i .u8) (.i .i64)))], [(.pr (.i .i64) (.i .u8))], fun x => box_ofItem x, []⟩
theorem box_ofItem_C_ok : Good Try.prog 47 box_ofItem_C :=
  good_of Try.func47 (by kernel_rfl) (An := []) [] (.nil) (fun x => by kernel_rfl)

def slices_IndexFunc_s_api_Item_api_Item_C : Ctr := ⟨"", [(.sl (.pr (.i .i64) (.pr (.i .u8) (.i .i64)))), (.fn 1 (.pr (.i .i64) (.pr (.i .u8) (.i .i64))) .b)], [(.i .i64)], fun x => slices_IndexFunc_s_api_Item_api_Item x.1 x.2, []⟩
theorem slices_IndexFunc_s_api_Item_api_Item_C_ok : Good Try.prog 98 slices_IndexFunc_s_api_Item_api_Item_C :=
  good_of Try.func98 (by kernel_rfl) (An := [(0, ⟨⟨[(8, .c (.i .i64))], []⟩, ⟨[], []⟩, [7, 1, 0], [], 0, true, ""⟩)]) [] (.nil) (fun x => by kernel_rfl)

def slices_ContainsFunc_s_api_Item_api_Item_C : Ctr := ⟨"", [(.sl (.pr (.i .i64) (.pr (.i .u8) (.i .i64)))), (.fn 1 (.pr (.i .i64) (.pr (.i .u8) (.i .i64))) .b)], [.b], fun x => slices_ContainsFunc_s_api_Item_api_Item x.1 x.2, []⟩
theorem slices_ContainsFunc_s_api_Item_api_Item_C_ok : Good Try.prog 42 slices_ContainsFunc_s_api_Item_api_Item_C :=
  good_of Try.func42 (by kernel_rfl) (An := []) [(98, slices_IndexFunc_s_api_Item_api_Item_C)] (.cons slices_IndexFunc_s_api_Item_api_Item_C_ok <| .nil) (fun x => by kernel_rfl)

def box_Check_C : Ctr := ⟨"", [(.sl (.pr (.i .i64) (.pr (.i .u8) (.i .i64))))], [(.i .i64)], fun x => box_Check x, []⟩
theorem box_Check_C_ok : Good Try.prog 13 box_Check_C :=
  good_of Try.func13 (by kernel_rfl) (An := []) [(42, slices_ContainsFunc_s_api_Item_api_Item_C), (47, box_ofItem_C), (46, box_ordered_api_Item_C), (44, box_Check_c1_C)] (.cons slices_ContainsFunc_s_api_Item_api_Item_C_ok <| .cons box_ofItem_C_ok <| .cons box_ordered_api_Item_C_ok <| .cons box_Check_c1_C_ok <| .nil) (fun x => by kernel_rfl)

def box_checked_C : Ctr := ⟨"", [(.sl (.sl (.pr (.i .i64) (.pr (.i .u8) (.i .i64)))))], [(.i .i64)], fun x => box_checked x, []⟩
theorem box_checked_C_ok : Good Try.prog 36 box_checked_C :=
  good_of Try.func36 (by kernel_rfl) (An := [(0, ⟨⟨[(8, .c (.i .i64))], []⟩, ⟨[], []⟩, [7, 6], [], 0, true, ""⟩)]) [(13, box_Check_C)] (.cons box_Check_C_ok <| .nil) (fun x => by kernel_rfl)

def box_compare_C : Ctr := ⟨"", [(.sl (.pr (.i .i64) (.pr (.i .u8) (.i .i64)))), (.sl (.pr (.i .i64) (.pr (.i .u8) (.i .i64))))], [(.i .i64)], fun x => box_compare x.1 x.2, []⟩
theorem box_compare_C_ok : Good Try.prog 94 box_compare_C :=
  good_of Try.func94 (by kernel_rfl) (An := []) [(47, box_ofItem_C), (99, box_order_C)] (.cons box_ofItem_C_ok <| .cons box_order_C_ok <| .nil) (fun x => by kernel_rfl)

def box_merged_C : Ctr := ⟨"", [(.sl (.pr (.i .i64) (.pr (.i .u8) (.i .i64)))), (.sl (.pr (.i .i64) (.pr (.i .u8) (.i .i64)))), (.fn 2 (.pr (.i .i64) (.i .i64)) (.i .i64))], [(.sl (.pr (.i .i64) (.pr (.i .u8) (.i .i64))))], fun x => box_merged x.1 x.2.1 x.2.2, []⟩
theorem box_merged_C_ok : Good Try.prog 37 box_merged_C :=
  good_of Try.func37 (by kernel_rfl) (An := [(0, ⟨⟨[(0, .c (.sl (.pr (.i .i64) (.pr (.i .u8) (.i .i64))))), (1, .c (.sl (.pr (.i .i64) (.pr (.i .u8) (.i .i64))))), (7, .mw 1)], [(1, .sl 90 (.pr (.i .i64) (.pr (.i .u8) (.i .i64))))]⟩, ⟨[(7, .mw 2)], [(2, .sl 90 (.pr (.i .i64) (.pr (.i .u8) (.i .i64))))]⟩, [2], [], 3, false, ""⟩), (10, ⟨⟨[], []⟩, ⟨[(19, .c .b)], []⟩, [0, 1, 7], [1], 2, false, ""⟩), (129, ⟨⟨[(8, .ptr 2 0)], [(2, .bx 90 [.c (.i .i64), .c (.i .u8), .c (.i .i64)])]⟩, ⟨[(9, .c (.i .i64)), (10, .c (.i .i64)), (8, .ptr 3 0), (0, .c (.sl (.pr (.i .i64) (.pr (.i .u8) (.i .i64))))), (1, .c (.sl (.pr (.i .i64) (.pr (.i .u8) (.i .i64)))))], [(3, .bx 90 [.c (.i .i64), .c (.i .u8), .c (.i .i64)])]⟩, [11, 7], [1], 4, false, ""⟩), (35, ⟨⟨[], []⟩, ⟨[], []⟩, [1], [1], 0, false, ""⟩), (181, ⟨⟨[], []⟩, ⟨[(10, .c (.i .i64)), (1, .c (.sl (.pr (.i .i64) (.pr (.i .u8) (.i .i64)))))], []⟩, [9, 8, 0], [2], 3, false, ""⟩), (27, ⟨⟨[], []⟩, ⟨[], []⟩, [1], [1], 0, false, ""⟩)]) [(94, box_compare_C)] (.cons box_compare_C_ok <| .nil) (fun x => by kernel_rfl)

def box_Add_c1_C : Ctr := ⟨"", [(.i .i64), (.i .i64)], [(.i .i64)], fun x => box_Add_c1 x.1 x.2, []⟩
theorem box_Add_c1_C_ok : Good Try.prog 38 box_Add_c1_C :=
  good_of Try.func38 (by kernel_rfl) (An := []) [] (.nil) (fun x => by kernel_rfl)

def box_Add_C : Ctr := ⟨"", [(.sl (.pr (.i .i64) (.pr (.i .u8) (.i .i64)))), (.sl (.pr (.i .i64) (.pr (.i .u8) (.i .i64))))], [(.sl (.pr (.i .i64) (.pr (.i .u8) (.i .i64)))), (.i .i64)], fun x => box_Add x.1 x.2, []⟩
theorem box_Add_C_ok : Good Try.prog 9 box_Add_C :=
  good_of Try.func9 (by kernel_rfl) (An := []) [(38, box_Add_c1_C), (37, box_merged_C), (36, box_checked_C), (13, box_Check_C)] (.cons box_Add_c1_C_ok <| .cons box_merged_C_ok <| .cons box_checked_C_ok <| .cons box_Check_C_ok <| .nil) (fun x => by kernel_rfl)

def ref08_isPart_C : Ctr := ⟨"", [(.i .i64), (.i .u8)], [.b], fun x => ref08_isPart x.1 x.2, []⟩
theorem ref08_isPart_C_ok : Good Try.prog 95 ref08_isPart_C :=
  good_of Try.func95 (by kernel_rfl) (An := []) [(93, ref08_within_C)] (.cons ref08_within_C_ok <| .nil) (fun x => by kernel_rfl)

def ref08_before_C : Ctr := ⟨"", [(.i .i64), (.i .u8), (.i .i64), (.i .u8)], [.b], fun x => ref08_before x.1 x.2.1 x.2.2.1 x.2.2.2, []⟩
theorem ref08_before_C_ok : Good Try.prog 96 ref08_before_C :=
  good_of Try.func96 (by kernel_rfl) (An := []) [] (.nil) (fun x => by kernel_rfl)

def ref08_Stock_C : Ctr := ⟨"", [(.sl (.pr (.i .i64) (.pr (.i .u8) (.i .i64))))], [.b], fun x => ref08_Stock x, []⟩
theorem ref08_Stock_C_ok : Good Try.prog 39 ref08_Stock_C :=
  good_of Try.func39 (by kernel_rfl) (An := [(0, ⟨⟨[(3, .c (.i .i64))], []⟩, ⟨[], []⟩, [0], [], 0, true, ""⟩)]) [(96, ref08_before_C), (95, ref08_isPart_C), (93, ref08_within_C)] (.cons ref08_before_C_ok <| .cons ref08_isPart_C_ok <| .cons ref08_within_C_ok <| .nil) (fun x => by kernel_rfl)

def ref08_Has_C : Ctr := ⟨"", [(.sl (.pr (.i .i64) (.pr (.i .u8) (.i .i64)))), (.i .i64), (.i .u8)], [(.i .i64)], fun x => ref08_Has x.1 x.2.1 x.2.2, []⟩
theorem ref08_Has_C_ok : Good Try.prog 97 ref08_Has_C :=
  good_of Try.func97 (by kernel_rfl) (An := [(0, ⟨⟨[(7, .c (.i .i64))], []⟩, ⟨[], []⟩, [0, 1, 2], [], 0, true, ""⟩), (18, ⟨⟨[], []⟩, ⟨[(29, .c .b)], []⟩, [7], [], 0, false, ""⟩)]) [] (.nil) (fun x => by kernel_rfl)

def ref08_sum_C : Ctr := ⟨"", [(.sl (.pr (.i .i64) (.pr (.i .u8) (.i .i64)))), (.sl (.pr (.i .i64) (.pr (.i .u8) (.i .i64)))), (.i .i64)], [(.sl (.pr (.i .i64) (.pr (.i .u8) (.i .i64)))), .b, .b], fun x => ref08_sum x.1 x.2.1 x.2.2, []⟩
theorem ref08_sum_C_ok : Good Try.prog 40 ref08_sum_C :=
  good_of Try.func40 (by kernel_rfl) (An := [(0, ⟨⟨[(12, .c (.i .i64)), (10, .c .b), (11, .c .b), (9, .mw 1)], [(1, .sl 90 (.pr (.i .i64) (.pr (.i .u8) (.i .i64))))]⟩, ⟨[(9, .mw 2), (10, .c .b), (11, .c .b)], [(2, .sl 90 (.pr (.i .i64) (.pr (.i .u8) (.i .i64))))]⟩, [0, 2, 1], [], 3, false, ""⟩), (8, ⟨⟨[(13, .c (.i .u8)), (10, .c .b), (11, .c .b), (9, .mw 1)], [(1, .sl 90 (.pr (.i .i64) (.pr (.i .u8) (.i .i64))))]⟩, ⟨[(10, .c .b), (11, .c .b), (9, .mw 2)], [(2, .sl 90 (.pr (.i .i64) (.pr (.i .u8) (.i .i64))))]⟩, [12], [], 3, false, ""⟩), (42, ⟨⟨[], []⟩, ⟨[(10, .c .b)], []⟩, [14, 11, 9, 13], [1], 2, false, ""⟩), (46, ⟨⟨[], []⟩, ⟨[(11, .c .b)], []⟩, [14, 9, 13, 10], [1], 2, false, ""⟩)]) [(97, ref08_Has_C)] (.cons ref08_Has_C_ok <| .nil) (fun x => by kernel_rfl)

def ref08_Add_C : Ctr := ⟨"", [(.sl (.pr (.i .i64) (.pr (.i .u8) (.i .i64)))), (.sl (.pr (.i .i64) (.pr (.i .u8) (.i .i64))))], [(.sl (.pr (.i .i64) (.pr (.i .u8) (.i .i64)))), (.i .i64)], fun x => ref08_Add x.1 x.2, []⟩
theorem ref08_Add_C_ok : Good Try.prog 10 ref08_Add_C :=
  good_of Try.func10 (by kernel_rfl) (An := []) [(40, ref08_sum_C), (39, ref08_Stock_C)] (.cons ref08_sum_C_ok <| .cons ref08_Stock_C_ok <| .nil) (fun x => by kernel_rfl)

def box_Take_c1_C : Ctr := ⟨"", [(.i .i64), (.i .i64)], [(.i .i64)], fun x => box_Take_c1 x.1 x.2, []⟩
theorem box_Take_c1_C_ok : Good Try.prog 41 box_Take_c1_C :=
  good_of Try.func41 (by kernel_rfl) (An := []) [] (.nil) (fun x => by kernel_rfl)

def box_Take_c2_C : Ctr := ⟨"", [(.pr (.i .i64) (.pr (.i .u8) (.i .i64)))], [.b], fun x => box_Take_c2 x, []⟩
theorem box_Take_c2_C_ok : Good Try.prog 43 box_Take_c2_C :=
  good_of Try.func43 (by kernel_rfl) (An := []) [] (.nil) (fun x => by kernel_rfl)

def box_Take_C : Ctr := ⟨"", [(.sl (.pr (.i .i64) (.pr (.i .u8) (.i .i64)))), (.sl (.pr (.i .i64) (.pr (.i .u8) (.i .i64))))], [(.sl (.pr (.i .i64) (.pr (.i .u8) (.i .i64)))), (.i .i64)], fun x => box_Take x.1 x.2, []⟩
theorem box_Take_C_ok : Good Try.prog 11 box_Take_C :=
  good_of Try.func11 (by kernel_rfl) (An := []) [(43, box_Take_c2_C), (41, box_Take_c1_C), (37, box_merged_C), (36, box_checked_C), (42, slices_ContainsFunc_s_api_Item_api_Item_C)] (.cons box_Take_c2_C_ok <| .cons box_Take_c1_C_ok <| .cons box_merged_C_ok <| .cons box_checked_C_ok <| .cons slices_ContainsFunc_s_api_Item_api_Item_C_ok <| .nil) (fun x => by kernel_rfl)

def ref08_Take_C : Ctr := ⟨"", [(.sl (.pr (.i .i64) (.pr (.i .u8) (.i .i64)))), (.sl (.pr (.i .i64) (.pr (.i .u8) (.i .i64))))], [(.sl (.pr (.i .i64) (.pr (.i .u8) (.i .i64)))), (.i .i64)], fun x => ref08_Take x.1 x.2, []⟩
theorem ref08_Take_C_ok : Good Try.prog 12 ref08_Take_C :=
  good_of Try.func12 (by kernel_rfl) (An := []) [(40, ref08_sum_C), (39, ref08_Stock_C)] (.cons ref08_sum_C_ok <| .cons ref08_Stock_C_ok <| .nil) (fun x => by kernel_rfl)

def ref08_Check_C : Ctr := ⟨"", [(.sl (.pr (.i .i64) (.pr (.i .u8) (.i .i64))))], [(.i .i64)], fun x => ref08_Check x, []⟩
theorem ref08_Check_C_ok : Good Try.prog 14 ref08_Check_C :=
  good_of Try.func14 (by kernel_rfl) (An := []) [(39, ref08_Stock_C)] (.cons ref08_Stock_C_ok <| .nil) (fun x => by kernel_rfl)

def ref08_SameItems_C : Ctr := ⟨"", [(.sl (.pr (.i .i64) (.pr (.i .u8) (.i .i64)))), (.sl (.pr (.i .i64) (.pr (.i .u8) (.i .i64))))], [.b], fun x => ref08_SameItems x.1 x.2, []⟩
theorem ref08_SameItems_C_ok : Good Try.prog 15 ref08_SameItems_C :=
  good_of Try.func15 (by kernel_rfl) (An := [(0, ⟨⟨[(5, .c (.i .i64))], []⟩, ⟨[], []⟩, [0, 1], [], 0, true, ""⟩)]) [] (.nil) (fun x => by kernel_rfl)

def box_merged_m0_M : CtrM := ⟨"", [some (.sl (.pr (.i .i64) (.pr (.i .u8) (.i .i64)))), some (.sl (.pr (.i .i64) (.pr (.i .u8) (.i .i64)))), some (.fn 2 (.pr (.i .i64) (.i .i64)) (.i .i64))], ⟨[], []⟩, 0, ⟨[(1000000, .mw 0)], [(0, .sl 90 (.pr (.i .i64) (.pr (.i .u8) (.i .i64))))]⟩, 1, 1, fun x => box_merged_m0 x.1 x.2.1 x.2.2⟩
theorem box_merged_m0_M_ok : box_merged_m0_M.ok = true ∧ GoodM Try.prog 37 box_merged_m0_M :=
  goodM_of Try.func37 (by kernel_rfl) (An := [(0, ⟨⟨[(0, .c (.sl (.pr (.i .i64) (.pr (.i .u8) (.i .i64))))), (1, .c (.sl (.pr (.i .i64) (.pr (.i .u8) (.i .i64))))), (7, .mw 1)], [(1, .sl 90 (.pr (.i .i64) (.pr (.i .u8) (.i .i64))))]⟩, ⟨[(7, .mw 2)], [(2, .sl 90 (.pr (.i .i64) (.pr (.i .u8) (.i .i64))))]⟩, [2], [], 3, false, ""⟩), (10, ⟨⟨[], []⟩, ⟨[(19, .c .b)], []⟩, [0, 1, 7], [1], 2, false, ""⟩), (129, ⟨⟨[(8, .ptr 2 0)], [(2, .bx 90 [.c (.i .i64), .c (.i .u8), .c (.i .i64)])]⟩, ⟨[(9, .c (.i .i64)), (10, .c (.i .i64)), (8, .ptr 3 0), (0, .c (.sl (.pr (.i .i64) (.pr (.i .u8) (.i .i64))))), (1, .c (.sl (.pr (.i .i64) (.pr (.i .u8) (.i .i64)))))], [(3, .bx 90 [.c (.i .i64), .c (.i .u8), .c (.i .i64)])]⟩, [11, 7], [1], 4, false, ""⟩), (35, ⟨⟨[], []⟩, ⟨[], []⟩, [1], [1], 0, false, ""⟩), (181, ⟨⟨[], []⟩, ⟨[(10, .c (.i .i64)), (1, .c (.sl (.pr (.i .i64) (.pr (.i .u8) (.i .i64)))))], []⟩, [9, 8, 0], [2], 3, false, ""⟩), (27, ⟨⟨[], []⟩, ⟨[], []⟩, [1], [1], 0, false, ""⟩)]) [(94, box_compare_C)] (.cons box_compare_C_ok <| .nil) (fun x => by kernel_rfl)
def box_merged_C0 : Ctr := ⟨"", box_merged_C.as, box_merged_C.rs, box_merged_C.F, box_merged_m0_M :: box_merged_C.mus⟩
theorem box_merged_C0_ok : Good Try.prog 37 box_merged_C0 := box_merged_C_ok.more box_merged_m0_M_ok

def box_Add_m1_M : CtrM := ⟨"", [some (.sl (.pr (.i .i64) (.pr (.i .u8) (.i .i64)))), some (.sl (.pr (.i .i64) (.pr (.i .u8) (.i .i64))))], ⟨[], []⟩, 0, ⟨[(1000000, .mw 0), (1000001, .c (.i .i64))], [(0, .sl 90 (.pr (.i .i64) (.pr (.i .u8) (.i .i64))))]⟩, 1, 2, fun x => box_Add_m1 x.1 x.2⟩
theorem box_Add_m1_M_ok : box_Add_m1_M.ok = true ∧ GoodM Try.prog 9 box_Add_m1_M :=
  goodM_of Try.func9 (by kernel_rfl) (An := []) [(37, box_merged_C0), (38, box_Add_c1_C), (36, box_checked_C), (13, box_Check_C)] (.cons box_merged_C0_ok <| .cons box_Add_c1_C_ok <| .cons box_checked_C_ok <| .cons box_Check_C_ok <| .nil) (fun x => by kernel_rfl)
def box_Add_C1 : Ctr := ⟨"", box_Add_C.as, box_Add_C.rs, box_Add_C.F, box_Add_m1_M :: box_Add_C.mus⟩
theorem box_Add_C1_ok : Good Try.prog 9 box_Add_C1 := box_Add_C_ok.more box_Add_m1_M_ok

def ref08_sum_m2_M : CtrM := ⟨"", [some (.sl (.pr (.i .i64) (.pr (.i .u8) (.i .i64)))), some (.sl (.pr (.i .i64) (.pr (.i .u8) (.i .i64)))), some (.i .i64)], ⟨[], []⟩, 0, ⟨[(1000000, .mw 0), (1000001, .c .b), (1000002, .c .b)], [(0, .sl 90 (.pr (.i .i64) (.pr (.i .u8) (.i .i64))))]⟩, 1, 3, fun x => ref08_sum_m2 x.1 x.2.1 x.2.2⟩
theorem ref08_sum_m2_M_ok : ref08_sum_m2_M.ok = true ∧ GoodM Try.prog 40 ref08_sum_m2_M :=
  goodM_of Try.func40 (by kernel_rfl) (An := [(0, ⟨⟨[(12, .c (.i .i64)), (10, .c .b), (11, .c .b), (9, .mw 1)], [(1, .sl 90 (.pr (.i .i64) (.pr (.i .u8) (.i .i64))))]⟩, ⟨[(9, .mw 2), (10, .c .b), (11, .c .b)], [(2, .sl 90 (.pr (.i .i64) (.pr (.i .u8) (.i .i64))))]⟩, [0, 2, 1], [], 3, false, ""⟩), (8, ⟨⟨[(13, .c (.i .u8)), (10, .c .b), (11, .c .b), (9, .mw 1)], [(1, .sl 90 (.pr (.i .i64) (.pr (.i .u8) (.i .i64))))]⟩, ⟨[(10, .c .b), (11, .c .b), (9, .mw 2)], [(2, .sl 90 (.pr (.i .i64) (.pr (.i .u8) (.i .i64))))]⟩, [12], [], 3, false, ""⟩), (42, ⟨⟨[], []⟩, ⟨[(10, .c .b)], []⟩, [14, 11, 9, 13], [1], 2, false, ""⟩), (46, ⟨⟨[], []⟩, ⟨[(11, .c .b)], []⟩, [14, 9, 13, 10], [1], 2, false, ""⟩)]) [(97, ref08_Has_C)] (.cons ref08_Has_C_ok <| .nil) (fun x => by kernel_rfl)
def ref08_sum_C2 : Ctr := ⟨"", ref08_sum_C.as, ref08_sum_C.rs, ref08_sum_C.F, ref08_sum_m2_M :: ref08_sum_C.mus⟩
theorem ref08_sum_C2_ok : Good Try.prog 40 ref08_sum_C2 := ref08_sum_C_ok.more ref08_sum_m2_M_ok

def ref08_Add_m3_M : CtrM := ⟨"", [some (.sl (.pr (.i .i64) (.pr (.i .u8) (.i .i64)))), some (.sl (.pr (.i .i64) (.pr (.i .u8) (.i .i64))))], ⟨[], []⟩, 0, ⟨[(1000000, .mw 0), (1000001, .c (.i .i64))], [(0, .sl 90 (.pr (.i .i64) (.pr (.i .u8) (.i .i64))))]⟩, 1, 2, fun x => ref08_Add_m3 x.1 x.2⟩
theorem ref08_Add_m3_M_ok : ref08_Add_m3_M.ok = true ∧ GoodM Try.prog 10 ref08_Add_m3_M :=
  goodM_of Try.func10 (by kernel_rfl) (An := []) [(40, ref08_sum_C2), (39, ref08_Stock_C)] (.cons ref08_sum_C2_ok <| .cons ref08_Stock_C_ok <| .nil) (fun x => by kernel_rfl)
def ref08_Add_C3 : Ctr := ⟨"", ref08_Add_C.as, ref08_Add_C.rs, ref08_Add_C.F, ref08_Add_m3_M :: ref08_Add_C.mus⟩
theorem ref08_Add_C3_ok : Good Try.prog 10 ref08_Add_C3 := ref08_Add_C_ok.more ref08_Add_m3_M_ok

def box_Take_m4_M : CtrM := ⟨"", [some (.sl (.pr (.i .i64) (.pr (.i .u8) (.i .i64)))), some (.sl (.pr (.i .i64) (.pr (.i .u8) (.i .i64))))], ⟨[], []⟩, 0, ⟨[(1000000, .mw 0), (1000001, .c (.i .i64))], [(0, .sl 90 (.pr (.i .i64) (.pr (.i .u8) (.i .i64))))]⟩, 1, 2, fun x => box_Take_m4 x.1 x.2⟩
theorem box_Take_m4_M_ok : box_Take_m4_M.ok = true ∧ GoodM Try.prog 11 box_Take_m4_M :=
  goodM_of Try.func11 (by kernel_rfl) (An := []) [(37, box_merged_C0), (43, box_Take_c2_C), (41, box_Take_c1_C), (36, box_checked_C), (42, slices_ContainsFunc_s_api_Item_api_Item_C)] (.cons box_merged_C0_ok <| .cons box_Take_c2_C_ok <| .cons box_Take_c1_C_ok <| .cons box_checked_C_ok <| .cons slices_ContainsFunc_s_api_Item_api_Item_C_ok <| .nil) (fun x => by kernel_rfl)
def box_Take_C4 : Ctr := ⟨"", box_Take_C.as, box_Take_C.rs, box_Take_C.F, box_Take_m4_M :: box_Take_C.mus⟩
theorem box_Take_C4_ok : Good Try.prog 11 box_Take_C4 := box_Take_C_ok.more box_Take_m4_M_ok

def ref08_Take_m5_M : CtrM := ⟨"", [some (.sl (.pr (.i .i64) (.pr (.i .u8) (.i .i64)))), some (.sl (.pr (.i .i64) (.pr (.i .u8) (.i .i64))))], ⟨[], []⟩, 0, ⟨[(1000000, .mw 0), (1000001, .c (.i .i64))], [(0, .sl 90 (.pr (.i .i64) (.pr (.i .u8) (.i .i64))))]⟩, 1, 2, fun x => ref08_Take_m5 x.1 x.2⟩
theorem ref08_Take_m5_M_ok : ref08_Take_m5_M.ok = true ∧ GoodM Try.prog 12 ref08_Take_m5_M :=
  goodM_of Try.func12 (by kernel_rfl) (An := []) [(40, ref08_sum_C2), (39, ref08_Stock_C)] (.cons ref08_sum_C2_ok <| .cons ref08_Stock_C_ok <| .nil) (fun x => by kernel_rfl)
def ref08_Take_C5 : Ctr := ⟨"", ref08_Take_C.as, ref08_Take_C.rs, ref08_Take_C.F, ref08_Take_m5_M :: ref08_Take_C.mus⟩
theorem ref08_Take_C5_ok : Good Try.prog 12 ref08_Take_C5 := ref08_Take_C_ok.more ref08_Take_m5_M_ok

def law08_spoil_m6_M : CtrM := ⟨"", [none], ⟨[(0, .mw 0)], [(0, .sl 90 (.pr (.i .i64) (.pr (.i .u8) (.i .i64))))]⟩, 1, ⟨[(0, .mw 0)], [(0, .sl 90 (.pr (.i .i64) (.pr (.i .u8) (.i .i64))))]⟩, 1, 0, fun x => law08_spoil_m6 x⟩
theorem law08_spoil_m6_M_ok : law08_spoil_m6_M.ok = true ∧ GoodM Try.prog 16 law08_spoil_m6_M :=
  goodM_of Try.func16 (by kernel_rfl) (An := [(0, ⟨⟨[(5, .c (.i .i64))], [(0, .sl 90 (.pr (.i .i64) (.pr (.i .u8) (.i .i64))))]⟩, ⟨[], [(0, .sl 90 (.pr (.i .i64) (.pr (.i .u8) (.i .i64))))]⟩, [4], [], 2, false, ""⟩)]) [] (.nil) (fun x => by kernel_rfl)
def law08_spoil_C : Ctr := ⟨"", [], [], fun _ => none, []⟩
theorem law08_spoil_C_ok : Good Try.prog 16 law08_spoil_C := good_dm
def law08_spoil_C6 : Ctr := ⟨"", law08_spoil_C.as, law08_spoil_C.rs, law08_spoil_C.F, law08_spoil_m6_M :: law08_spoil_C.mus⟩
theorem law08_spoil_C6_ok : Good Try.prog 16 law08_spoil_C6 := law08_spoil_C_ok.more law08_spoil_m6_M_ok

def law08_BoxStocks_C : Ctr := ⟨"", [(.sl (.pr (.i .i64) (.pr (.i .u8) (.i .i64)))), (.sl (.pr (.i .i64) (.pr (.i .u8) (.i .i64))))], [.b], fun x => law08_BoxStocks x.1 x.2, []⟩
theorem law08_BoxStocks_C_ok : Good Try.prog 3 law08_BoxStocks_C :=
  good_of Try.func3 (by kernel_rfl) (An := [(34, ⟨⟨[], []⟩, ⟨[(15, .c .b)], []⟩, [5, 0, 7, 9, 8, 10, 11, 13, 12, 14, 6, 1], [2, 5, 6, 7, 8, 4], 9, false, ""⟩)]) [(12, ref08_Take_C5), (11, box_Take_C4), (10, ref08_Add_C3), (9, box_Add_C1), (16, law08_spoil_C6), (15, ref08_SameItems_C), (14, ref08_Check_C), (13, box_Check_C), (8, law08_lots_C)] (.cons ref08_Take_C5_ok <| .cons box_Take_C4_ok <| .cons ref08_Add_C3_ok <| .cons box_Add_C1_ok <| .cons law08_spoil_C6_ok <| .cons ref08_SameItems_C_ok <| .cons ref08_Check_C_ok <| .cons box_Check_C_ok <| .cons law08_lots_C_ok <| .nil) (fun x => by kernel_rfl)


end Go.Abs

/- Box: which lists are stocks. -/
set_option linter.unusedSimpArgs false
set_option linter.unusedVariables false
namespace Go.Abs
open Go

abbrev It := Int × Int × Int
def vP (x : It) : Bool := decide (0 ≤ x.1) && decide (x.1 ≤ 15) && decide (x.2.1 ≤ 15)
def ltI (x y : It) : Bool := decide (x.1 < y.1) || (x.1 == y.1 && decide (x.2.1 < y.2.1))
def okN (x : It) : Bool := decide (1 ≤ x.2.2) && decide (x.2.2 ≤ 1000)
def badI (l : List It) (i : Nat) (x : It) : Bool := !vP x || (decide (0 < i) && !ltI ((l[i - 1]?).getD x) x)
def ordI (a b : Int × Int) : Int := if a.1 < b.1 then -1 else if b.1 < a.1 then 1 else if a.2 < b.2 then -1 else if b.2 < a.2 then 1 else 0
/-- is it a stock? -/
def stk (l : List It) : Bool := decide (l.length ≤ 30) && !(l.zipIdx.any fun x => badI l x.2 x.1) && l.all okN

@[simp] theorem ref08_within_eq (n lo hi : Int) : ref08_within n lo hi = some (decide (lo ≤ n) && decide (n ≤ hi)) := by
  unfold ref08_within; by_cases h : lo ≤ n <;> simp [h]
@[simp] theorem box_from_eq (lo hi n : Int) : box_from lo hi n = some (decide (lo ≤ n) && decide (n ≤ hi)) := by
  unfold box_from; by_cases h : lo ≤ n <;> simp [h]
@[simp] theorem box_part_valid_eq (x : It) : box_part_valid (x.1, x.2.1) = some (vP x) := by
  unfold box_part_valid vP
  by_cases h1 : 0 ≤ x.1 <;> by_cases h2 : x.1 ≤ 15 <;> simp [h1, h2]
@[simp] theorem ref08_isPart_eq (x : It) : ref08_isPart x.1 x.2.1 = some (vP x) := by
  unfold ref08_isPart vP
  by_cases h1 : 0 ≤ x.1 <;> by_cases h2 : x.1 ≤ 15 <;> simp [h1, h2]
@[simp] theorem ref08_before_eq (x y : It) : ref08_before x.1 x.2.1 y.1 y.2.1 = some (ltI x y) := by
  unfold ref08_before ltI
  by_cases h1 : x.1 < y.1
  · simp [h1]
  · by_cases h2 : x.1 = y.1 <;> simp [h1, h2]
def cmpI (a b : Int) : Int := if a < b then -1 else if b < a then 1 else 0
@[simp] theorem cmp_int_eq (a b : Int) : cmp_Compare_int a b = some (cmpI a b) := by
  unfold cmp_Compare_int cmp_isNaN_int cmpI
  by_cases h1 : a < b <;> by_cases h2 : b < a <;> simp [h1, h2]
@[simp] theorem cmp_u8_eq (a b : Int) : cmp_Compare_uint8 a b = some (cmpI a b) := by
  unfold cmp_Compare_uint8 cmp_isNaN_uint8 cmpI
  by_cases h1 : a < b <;> by_cases h2 : b < a <;> simp [h1, h2]
@[simp] theorem cmp_Or_eq (a b : Int) : cmp_Or_int [a, b] = some (if a ≠ 0 then a else b) := by
  unfold cmp_Or_int
  rw [range_iter (F := cmp_Or_int_L0 [a, b]) [a, b] (by simp) (fun i x => if x != 0 then some x else none) (fun i hi => by
    unfold cmp_Or_int_L0
    have h2 : i < 2 := by simpa using hi
    rw [if_pos (by rw [lenI_eq]; simp; omega), gi_cast hi, w64_add1 (by omega)]
    simp only [Option.bind_some]
    by_cases h : ([a, b][i] != 0) = true <;> simp [h, nextL]) (by unfold cmp_Or_int_L0; rw [if_neg (by simp [lenI_eq])])]
  simp only [List.zipIdx_cons, List.zipIdx_nil, List.findSome?_cons, List.findSome?_nil]
  by_cases ha : a = 0
  · by_cases hb : b = 0 <;> simp [ha, hb, endL]
  · simp [ha, endL]
theorem box_order_eq (a b : Int × Int) : box_order a b = some (ordI a b) := by
  unfold box_order ordI
  simp only [cmp_int_eq, cmp_u8_eq, Option.bind_some, cmp_Or_eq, cmpI]
  by_cases h1 : a.1 < b.1
  · simp [h1]
  · by_cases h2 : b.1 < a.1 <;> simp [h1, h2]
theorem ordI_lt (x y : It) : decide (0 ≤ ordI (x.1, x.2.1) (y.1, y.2.1)) = !ltI x y := by
  unfold ordI ltI
  by_cases h1 : x.1 < y.1
  · simp [h1]
  · by_cases h2 : y.1 < x.1
    · simp [h1, h2]; omega
    · have h3 : x.1 = y.1 := by omega
      by_cases h4 : x.2.1 < y.2.1
      · simp [h1, h2, h3, h4]
      · by_cases h5 : y.2.1 < x.2.1 <;> simp [h1, h2, h3, h4, h5]

theorem any_or {α : Type} (p q : α → Bool) (l : List α) : (l.any fun x => p x || q x) = (l.any p || l.any q) := by
  induction l with
  | nil => rfl
  | cons x l ih => simp only [List.any_cons, ih]; cases p x <;> cases q x <;> simp
theorem any_zip {α : Type} (q : α → Bool) : ∀ (l : List α) (k : Nat), ((l.zipIdx k).any fun x => q x.1) = l.any q
  | [], k => rfl
  | x :: l, k => by rw [List.zipIdx_cons, List.any_cons, List.any_cons, any_zip q l (k + 1)]
theorem getD_prev {l : List It} {i : Nat} (hi : i < l.length) (x : It) : (l[i - 1]?).getD x = l[i - 1] := by rw [List.getElem?_eq_getElem (by omega)]; rfl

theorem box_ordered_eq (l : List It) (hl : l.length ≤ 1000) : box_ordered_api_Item l 30 (fun u => (box_ofItem u).bind fun v => some v) = some (!(l.zipIdx.any fun x => badI l x.2 x.1) && decide (l.length ≤ 30)) := by
  unfold box_ordered_api_Item
  rw [range_any (F := box_ordered_api_Item_L0 l _) false l (by omega) (badI l) (fun i hi => ?_) (by unfold box_ordered_api_Item_L0; rw [if_neg (by simp [lenI_eq])])]
  · by_cases h : (l.zipIdx.any fun x => badI l x.2 x.1) = true
    rotate_left
    · rw [Bool.not_eq_true] at h
      simp only [h, Bool.false_eq_true, if_false, Option.bind_some, Bool.not_false, Bool.true_and, lenI_eq]
      congr 2; simp only [eq_iff_iff]; omega
    · simp [h]
  · unfold box_ordered_api_Item_L0
    rw [if_pos (by rw [lenI_eq]; simpa using hi), gi_cast hi, w64_add1 (by omega)]
    simp only [Option.bind_some, box_ofItem, box_part_valid_eq, badI]
    by_cases hv : vP l[i] = true
    rotate_left
    · rw [Bool.not_eq_true] at hv; simp [hv]
    · simp only [hv, Bool.not_true, Bool.false_eq_true, if_false, Bool.false_or]
      by_cases h0 : 0 < i
      · rw [if_pos (by simpa using h0), sub1_cast h0 (by omega), gi_cast (by omega)]
        simp only [Option.bind_some, box_order_eq, ordI_lt, getD_prev hi, h0, decide_true, Bool.true_and]
        by_cases h9 : ltI l[i - 1] l[i] = true <;> simp [h9]
      · have : i = 0 := by omega
        subst this; simp
theorem all_not {α : Type} (p : α → Bool) (l : List α) : (l.any fun x => !p x) = !l.all p := by
  induction l with
  | nil => rfl
  | cons x l ih => simp only [List.any_cons, List.all_cons, ih, Bool.not_and]
theorem contains_eq (l : List It) (hl : l.length ≤ 1000) (p : It → Bool) : slices_ContainsFunc_s_api_Item_api_Item l (fun x => some (p x)) = some (l.any p) := by
  unfold slices_ContainsFunc_s_api_Item_api_Item slices_IndexFunc_s_api_Item_api_Item
  rw [range_iter (F := slices_IndexFunc_s_api_Item_api_Item_L0 l _) l (by omega) (fun i x => if p x then some (i : Int) else none) (fun i hi => by
    unfold slices_IndexFunc_s_api_Item_api_Item_L0
    rw [if_pos (by rw [lenI_eq]; simpa using hi), gi_cast hi, w64_add1 (by omega)]
    simp only [Option.bind_some]
    by_cases h : p l[i] = true <;> simp [h, nextL]) (by unfold slices_IndexFunc_s_api_Item_api_Item_L0; rw [if_neg (by simp [lenI_eq])])]
  have : ∀ (l : List It) (k : Nat), endL ((l.zipIdx k).findSome? fun x => if p x.1 then some (x.2 : Int) else none) = (if l.any p then .inl ((k : Int) + (l.findIdx p : Nat)) else .inr ()) := by
    intro l
    induction l with
    | nil => intro k; rfl
    | cons x l ih =>
      intro k
      rw [List.zipIdx_cons, List.findSome?_cons, List.any_cons, List.findIdx_cons]
      cases hp : p x with
      | true => simp [endL]
      | false =>
        simp only [Bool.false_eq_true, if_false, Bool.false_or, cond_false]
        rw [ih (k + 1)]
        congr 2; push_cast; omega
  rw [this l 0]
  by_cases h : l.any p = true <;> simp [h]
theorem box_Check_eq (l : List It) (hl : l.length ≤ 1000) : box_Check l = some (if stk l then 0 else 8) := by
  unfold box_Check
  rw [box_ordered_eq l hl]
  have e : (fun u0 : It => (box_Check_c1 u0).bind fun u1 => some u1) = fun u => some (!okN u) := by
    funext u; simp [box_Check_c1, okN]
  rw [e, contains_eq l hl, all_not]
  simp only [Option.bind_some, stk]
  by_cases h1 : (l.zipIdx.any fun x => badI l x.2 x.1) = true <;> by_cases h2 : l.length ≤ 30 <;> by_cases h3 : l.all okN = true <;> (try rw [Bool.not_eq_true] at h1) <;> (try rw [Bool.not_eq_true] at h3) <;> simp only [h1, h2, h3] <;> rfl
theorem ref08_Stock_eq (l : List It) : ref08_Stock l = some (stk l) := by
  unfold ref08_Stock stk
  rw [lenI_eq]
  by_cases hl : (30 : Int) < l.length
  · rw [if_pos (by simpa using hl)]
    have : ¬ l.length ≤ 30 := by omega
    simp [this]
  · rw [if_neg (by simpa using hl)]
    have h30 : l.length ≤ 30 := by omega
    rw [range_any (F := ref08_Stock_L0 l) false l (by omega) (fun i x => badI l i x || !okN x) (fun i hi => ?_) (by unfold ref08_Stock_L0; rw [if_neg (by simp [lenI_eq])])]
    · rw [any_or (fun x : It × Nat => badI l x.2 x.1) (fun x => !okN x.1), any_zip (fun x => !okN x), all_not]
      by_cases h1 : (l.zipIdx.any fun x => badI l x.2 x.1) = true <;> by_cases h2 : l.all okN = true <;> simp [h30, h1, h2]
    · unfold ref08_Stock_L0
      rw [if_pos (by rw [lenI_eq]; simpa using hi), gi_cast hi, w64_add1 (by omega)]
      simp only [Option.bind_some, ref08_isPart_eq, badI, ref08_within_eq]
      rw [show (decide (1 ≤ l[i].2.2) && decide (l[i].2.2 ≤ 1000)) = okN l[i] from rfl]
      by_cases hv : vP l[i] = true
      rotate_left
      · rw [Bool.not_eq_true] at hv; simp [hv]
      · by_cases hn : okN l[i] = true
        rotate_left
        · rw [Bool.not_eq_true] at hn; simp [hv, hn]
        · simp only [hv, hn, Bool.not_true, Bool.false_eq_true, if_false, Bool.false_or, Bool.or_false]
          by_cases h0 : 0 < i
          · rw [if_pos (by simpa using h0), sub1_cast h0 (by omega), gi_cast (by omega)]
            simp only [Option.bind_some, getD_prev hi, h0, decide_true, Bool.true_and]
            rw [show ref08_before l[i - 1].1 l[i - 1].2.1 l[i].1 l[i].2.1 = _ from ref08_before_eq l[i - 1] l[i]]
            simp only [Option.bind_some]
            by_cases h9 : ltI l[i - 1] l[i] = true <;> simp [h9]
          · have : i = 0 := by omega
            subst this; simp
end Go.Abs

/- Box: stocks by their keys; the sum by the document. -/
set_option linter.unusedSimpArgs false
set_option linter.unusedVariables false
namespace Go.Abs
open Go

def key (x : It) : Int := 16 * x.1 + x.2.1
def look : List It → Int → Int
  | [], _ => 0
  | x :: l, q => if key x = q then x.2.2 else look l q
def srt (l : List It) : Prop := l.Pairwise fun x y => key x < key y
def Vld (l : List It) : Prop := ∀ x ∈ l, 0 ≤ x.1 ∧ x.1 ≤ 15 ∧ 0 ≤ x.2.1 ∧ x.2.1 ≤ 15

theorem look_zero : ∀ {l : List It} {q : Int}, (∀ x ∈ l, key x ≠ q) → look l q = 0
  | [], q, _ => rfl
  | x :: l, q, h => by
    simp only [look]
    rw [if_neg (h x (by simp)), look_zero fun y hy => h y (by simp [hy])]
theorem look_mem : ∀ {l : List It} {x : It}, srt l → x ∈ l → look l (key x) = x.2.2
  | [], x, _, h => by cases h
  | y :: l, x, hs, h => by
    simp only [srt, List.pairwise_cons] at hs
    simp only [look]
    rcases List.mem_cons.1 h with rfl | h
    · simp
    · have := hs.1 x h
      rw [if_neg (by omega)]
      exact look_mem hs.2 h
theorem look_snoc : ∀ {l : List It} {x : It} {q : Int}, (∀ y ∈ l, key y ≠ key x) → look (l ++ [x]) q = if key x = q then x.2.2 else look l q
  | [], x, q, _ => rfl
  | y :: l, x, q, h => by
    simp only [List.cons_append, look]
    rw [look_snoc fun z hz => h z (by simp [hz])]
    have := h y (by simp)
    by_cases h1 : key y = q
    · rw [if_pos h1, if_neg (by omega), if_pos h1]
    · rw [if_neg h1, if_neg h1]
theorem key_inj {x y : It} (hx : 0 ≤ x.2.1 ∧ x.2.1 ≤ 15) (hy : 0 ≤ y.2.1 ∧ y.2.1 ≤ 15) (h : key x = key y) : x.1 = y.1 ∧ x.2.1 = y.2.1 := by
  unfold key at h
  omega
/-- sorted lists are told by what they hold -/
theorem uniq : ∀ {l l' : List It}, srt l → srt l' → Vld l → Vld l' → (∀ x ∈ l, x.2.2 ≠ 0) → (∀ x ∈ l', x.2.2 ≠ 0) → (∀ q, look l q = look l' q) → l = l'
  | [], [], _, _, _, _, _, _, _ => rfl
  | [], y :: l', _, _, _, _, _, hn, h => by
    have := h (key y)
    simp only [look, if_true] at this
    exact absurd this.symm (hn y (by simp))
  | x :: l, [], _, _, _, _, hn, _, h => by
    have := h (key x)
    simp only [look, if_true] at this
    exact absurd this (hn x (by simp))
  | x :: l, y :: l', hs, hs', hv, hv', hn, hn', h => by
    have s1 := hs
    have s2 := hs'
    simp only [srt, List.pairwise_cons] at s1 s2
    have hk : key x = key y := by
      rcases Int.lt_trichotomy (key x) (key y) with h1 | h1 | h1
      · have e := h (key x)
        simp only [look, if_true] at e
        rw [if_neg (by omega), look_zero (fun z hz => by have := s2.1 z hz; omega)] at e
        exact absurd e (hn x (by simp))
      · exact h1
      · have e := h (key y)
        simp only [look, if_true] at e
        rw [if_neg (by omega), look_zero (fun z hz => by have := s1.1 z hz; omega)] at e
        exact absurd e.symm (hn' y (by simp))
    have hN : x.2.2 = y.2.2 := by
      have e := h (key x)
      simp only [look, if_true] at e
      rw [if_pos hk.symm] at e
      exact e
    have vx := hv x (by simp)
    have vy := hv' y (by simp)
    obtain ⟨e1, e2⟩ := key_inj ⟨vx.2.2.1, vx.2.2.2⟩ ⟨vy.2.2.1, vy.2.2.2⟩ hk
    have hxy : x = y := by
      obtain ⟨a, b, c⟩ := x
      obtain ⟨a', b', c'⟩ := y
      simp only at e1 e2 hN
      subst e1; subst e2; subst hN; rfl
    subst hxy
    rw [uniq s1.2 s2.2 (fun z hz => hv z (by simp [hz])) (fun z hz => hv' z (by simp [hz])) (fun z hz => hn z (by simp [hz])) (fun z hz => hn' z (by simp [hz])) fun q => by
      have e := h q
      simp only [look] at e
      by_cases hq : key x = q
      · rw [look_zero (fun z hz => by have := s1.1 z hz; omega), look_zero (fun z hz => by have := s2.1 z hz; omega)]
      · rw [if_neg hq, if_neg hq] at e; exact e]

/-- a stock -/
structure Stk (l : List It) : Prop where
  v : Vld l
  s : srt l
  n : ∀ x ∈ l, 1 ≤ x.2.2 ∧ x.2.2 ≤ 1000
  len : l.length ≤ 30
theorem ltI_key {x y : It} (hx : 0 ≤ x.2.1 ∧ x.2.1 ≤ 15) (hy : 0 ≤ y.2.1 ∧ y.2.1 ≤ 15) : ltI x y = decide (key x < key y) := by
  unfold ltI key
  rw [Bool.eq_iff_iff]
  simp only [Bool.or_eq_true, decide_eq_true_eq, Bool.and_eq_true, beq_iff_eq]
  omega
theorem zip_any_false {l : List It} {p : Nat → It → Bool} (h : (l.zipIdx.any fun x => p x.2 x.1) = false) (i : Nat) (hi : i < l.length) : p i l[i] = false := by
  rw [List.any_eq_false] at h
  have := h (l[i], i) (by rw [List.mem_zipIdx_iff_getElem?]; simp [hi])
  simpa using this
theorem stk_of {l : List It} (h : stk l = true) (hc : ∀ x ∈ l, 0 ≤ x.2.1) : Stk l := by
  unfold stk at h
  simp only [Bool.and_eq_true, Bool.not_eq_true', decide_eq_true_eq] at h
  obtain ⟨⟨h1, h2⟩, h3⟩ := h
  have hv : ∀ x ∈ l, vP x = true := fun x hx => by
    obtain ⟨i, hi, rfl⟩ := List.mem_iff_getElem.1 hx
    have := zip_any_false h2 i hi
    unfold badI at this
    simp only [Bool.or_eq_false_iff, Bool.not_eq_false'] at this
    exact this.1
  have hV : Vld l := fun x hx => by
    have := hv x hx
    unfold vP at this
    simp only [Bool.and_eq_true, decide_eq_true_eq] at this
    exact ⟨this.1.1, this.1.2, hc x hx, this.2⟩
  refine ⟨hV, ?_, fun x hx => ?_, h1⟩
  · have adj : ∀ i, (hi : i + 1 < l.length) → key l[i] < key l[i + 1] := fun i hi => by
      have := zip_any_false h2 (i + 1) hi
      unfold badI at this
      simp only [Bool.or_eq_false_iff, Bool.and_eq_false_iff, Nat.succ_pos, decide_true, Bool.true_eq_false, false_or, Nat.add_sub_cancel, Bool.not_eq_false'] at this
      have h5 := this.2
      rw [List.getElem?_eq_getElem (by omega), Option.getD_some] at h5
      have v1 := hV l[i] (List.getElem_mem _)
      have v2 := hV l[i + 1] (List.getElem_mem _)
      rw [ltI_key ⟨v1.2.2.1, v1.2.2.2⟩ ⟨v2.2.2.1, v2.2.2.2⟩] at h5
      simpa using h5
    refine List.pairwise_iff_getElem.2 fun i j hi hj hij => ?_
    have : ∀ d, (hd : i + d + 1 < l.length) → key l[i] < key l[i + d + 1] := by
      intro d
      induction d with
      | zero => intro hd; exact adj i hd
      | succ d ih =>
        intro hd
        have h6 := ih (by omega)
        have h7 := adj (i + d + 1) hd
        exact Int.lt_trans h6 h7
    have h8 := this (j - i - 1) (by omega)
    have e : i + (j - i - 1) + 1 = j := by omega
    simpa only [e] using h8
  · have := List.all_eq_true.1 h3 x hx
    unfold okN at this
    simpa using this
theorem of_stk {l : List It} (hv : Vld l) (hs : srt l) : stk l = (decide (l.length ≤ 30) && l.all okN) := by
  unfold stk
  have : (l.zipIdx.any fun x => badI l x.2 x.1) = false := by
    rw [List.any_eq_false]
    intro x hx
    rw [List.mem_zipIdx_iff_getElem?] at hx
    obtain ⟨hi, e⟩ := List.getElem?_eq_some_iff.1 hx
    obtain ⟨y, i⟩ := x
    simp only at hi e
    subst e
    have v1 := hv l[i] (List.getElem_mem _)
    unfold badI vP
    simp only [Bool.not_eq_true, Bool.or_eq_false_iff, Bool.not_eq_false', Bool.and_eq_true, decide_eq_true_eq, Bool.and_eq_false_iff]
    refine ⟨⟨⟨v1.1, v1.2.1⟩, v1.2.2.2⟩, ?_⟩
    by_cases h0 : 0 < i
    · right
      rw [List.getElem?_eq_getElem (by omega), Option.getD_some]
      have v2 := hv l[i - 1] (List.getElem_mem _)
      rw [ltI_key ⟨v2.2.2.1, v2.2.2.2⟩ ⟨v1.2.2.1, v1.2.2.2⟩]
      simpa using List.pairwise_iff_getElem.1 hs (i - 1) i (by omega) hi (by omega)
    · left; simpa using h0
  rw [this]; simp
theorem look_rng {l : List It} (h : Stk l) (q : Int) : 0 ≤ look l q ∧ look l q ≤ 1000 := by
  have hn := h.n
  clear h
  induction l with
  | nil => simp [look]
  | cons x l ih =>
    simp only [look]
    split
    · have := hn x (by simp); omega
    · exact ih fun y hy => hn y (by simp [hy])

theorem ref08_Has_eq {l : List It} (hv : Vld l) (hl : l.length ≤ 1000) {k c : Int} (hc : 0 ≤ c ∧ c ≤ 15) : ref08_Has l k c = some (look l (16 * k + c)) := by
  unfold ref08_Has
  rw [range_iter (F := ref08_Has_L0 l k c) l (by omega) (fun i x => if x.1 = k ∧ x.2.1 = c then some x.2.2 else none) (fun i hi => by
    unfold ref08_Has_L0
    rw [if_pos (by rw [lenI_eq]; simpa using hi), gi_cast hi, w64_add1 (by omega)]
    simp only [Option.bind_some]
    by_cases h1 : l[i].1 = k <;> by_cases h2 : l[i].2.1 = c <;> simp [h1, h2, nextL]) (by unfold ref08_Has_L0; rw [if_neg (by simp [lenI_eq])])]
  have : ∀ (l : List It) (i : Nat), Vld l → ((l.zipIdx i).findSome? fun x => if x.1.1 = k ∧ x.1.2.1 = c then some x.1.2.2 else none).getD 0 = look l (16 * k + c) := by
    intro l
    induction l with
    | nil => intro i _; rfl
    | cons x l ih =>
      intro i hv
      have vx := hv x (by simp)
      have hk : (key x = 16 * k + c) ↔ (x.1 = k ∧ x.2.1 = c) := by unfold key; omega
      rw [List.zipIdx_cons, List.findSome?_cons]
      simp only [look]
      by_cases h : x.1 = k ∧ x.2.1 = c
      · rw [if_pos (hk.2 h), if_pos h]; rfl
      · rw [if_neg (fun e => h (hk.1 e)), if_neg h]
        exact ih (i + 1) fun y hy => hv y (by simp [hy])
  have e := this l 0 hv
  simp only [Option.bind_some]
  generalize (l.zipIdx.findSome? fun x => if x.1.1 = k ∧ x.1.2.1 = c then some x.1.2.2 else none) = o at e ⊢
  cases o with
  | none => rw [← e]; rfl
  | some v => rw [← e]; rfl

/-- while the sum is made -/
structure Inv (f : Int → Int) (q : Int) (st : Bool × Bool × List It) : Prop where
  len : (st.2.2.length : Int) ≤ q
  s : srt st.2.2
  v : Vld st.2.2
  k : ∀ x ∈ st.2.2, key x < q ∧ x.2.2 ≠ 0
  l : ∀ p, 0 ≤ p → p < q → look st.2.2 p = f p
  e : st.1 = st.2.2.all fun x => decide (0 ≤ x.2.2)
  m : st.2.1 = st.2.2.all fun x => decide (x.2.2 ≤ 1000)
theorem Inv.step {f : Int → Int} {k c : Int} {e m : Bool} {out : List It} (hk : 0 ≤ k ∧ k ≤ 15) (hc : 0 ≤ c ∧ c ≤ 15) (h : Inv f (16 * k + c) (e, m, out)) :
    Inv f (16 * k + (c + 1)) (e && decide (0 ≤ f (16 * k + c)), m && decide (f (16 * k + c) ≤ 1000), if f (16 * k + c) ≠ 0 then out ++ [(k, c, f (16 * k + c))] else out) := by
  obtain ⟨h1, h2, h3, h4, h5, h6, h7⟩ := h
  simp only at h1 h2 h3 h4 h5 h6 h7
  generalize hn : f (16 * k + c) = n
  have hkey : key (k, c, n) = 16 * k + c := rfl
  by_cases h0 : n ≠ 0
  · rw [if_pos h0]
    refine ⟨by simp only [List.length_append, List.length_singleton]; omega, ?_, fun x hx => ?_, fun x hx => ?_, fun p hp hq => ?_, ?_, ?_⟩
    · refine List.pairwise_append.2 ⟨h2, by simp, fun x hx y hy => ?_⟩
      have := (h4 x hx).1
      simp only [List.mem_singleton] at hy
      subst hy; rw [hkey]; exact this
    · rcases List.mem_append.1 hx with hx | hx
      · exact h3 x hx
      · simp only [List.mem_singleton] at hx
        subst hx; exact ⟨hk.1, hk.2, hc.1, hc.2⟩
    · rcases List.mem_append.1 hx with hx | hx
      · have := h4 x hx; exact ⟨by omega, this.2⟩
      · simp only [List.mem_singleton] at hx
        subst hx; rw [hkey]; exact ⟨by omega, h0⟩
    · simp only
      rw [look_snoc (fun y hy => by have := (h4 y hy).1; rw [hkey]; omega), hkey]
      split
      · rename_i e'; rw [← e', hn]
      · exact h5 p hp (by omega)
    · simp only [List.all_append, List.all_cons, List.all_nil, Bool.and_true, h6]
    · simp only [List.all_append, List.all_cons, List.all_nil, Bool.and_true, h7]
  · rw [if_neg h0]
    have h0 : n = 0 := by omega
    subst h0
    refine ⟨by simp only; omega, h2, h3, fun x hx => ?_, fun p hp hq => ?_, by simp [h6], by simp [h7]⟩
    · have := h4 x hx; exact ⟨by omega, this.2⟩
    · by_cases hpq : p = 16 * k + c
      · subst hpq
        rw [hn]
        exact look_zero fun x hx => by have := (h4 x hx).1; omega
      · exact h5 p hp (by omega)
theorem sum_L1 {a b : List It} (ha : Stk a) (hb : Stk b) {t : Int} (ht : t = 1 ∨ t = -1) {k : Int} (hk : 0 ≤ k ∧ k ≤ 15) (v0 : Int × Bool × Bool × List It) (h0 : v0.1 = k) : ∀ (n : Nat) (c : Int) (e m : Bool) (out : List It), c + n = 16 → 0 ≤ c → Inv (fun q => look a q + t * look b q) (16 * k + c) (e, m, out) →
    ∃ st, itN (ref08_sum_m2_L1 a b t v0) (n + 1) (c, e, m, out) = some st ∧ Inv (fun q => look a q + t * look b q) (16 * k + 16) st
  | 0, c, e, m, out, hc, hc0, hi => by
    have : c = 16 := by omega
    subst this
    exact ⟨(e, m, out), itN_stop (by unfold ref08_sum_m2_L1; rw [if_neg (by simp)]), hi⟩
  | n + 1, c, e, m, out, hc, hc0, hi => by
    have hc2 : 0 ≤ c ∧ c ≤ 15 := ⟨hc0, by omega⟩
    have ra := look_rng ha (16 * k + c)
    have rb := look_rng hb (16 * k + c)
    have hst := hi.step hk hc2
    have hlen := hi.len
    simp only at hlen
    have hw : w64 (look a (16 * k + c) + w64 (t * look b (16 * k + c))) = look a (16 * k + c) + t * look b (16 * k + c) := by
      have : -1000 ≤ t * look b (16 * k + c) ∧ t * look b (16 * k + c) ≤ 1000 := by rcases ht with rfl | rfl <;> omega
      rw [w64_id (x := t * look b (16 * k + c)) (by omega) (by omega), w64_id (by omega) (by omega)]
    have hu : IntKind.wrap .u8 (c + 1) = c + 1 := by
      have : c + 1 < 256 := by omega
      simp only [IntKind.wrap, IntKind.signed, IntKind.bits]
      simp
      omega
    have hgo : ref08_sum_m2_L1 a b t v0 (c, e, m, out) = some (.inl (c + 1, e && decide (0 ≤ look a (16 * k + c) + t * look b (16 * k + c)), m && decide (look a (16 * k + c) + t * look b (16 * k + c) ≤ 1000), if look a (16 * k + c) + t * look b (16 * k + c) ≠ 0 then out ++ [(k, c, look a (16 * k + c) + t * look b (16 * k + c))] else out)) := by
      unfold ref08_sum_m2_L1
      rw [if_pos (by simpa using hc2.2), h0, ref08_Has_eq ha.v (by have := ha.len; omega) hc2, ref08_Has_eq hb.v (by have := hb.len; omega) hc2]
      simp only [Option.bind_some, hw, hu]
      generalize look a (16 * k + c) + t * look b (16 * k + c) = N
      by_cases h1 : N = 0
      · subst h1; cases e <;> cases m <;> simp
      · rw [gapp_some (by simp only [List.length_singleton]; omega)]
        cases e <;> cases m <;> simp [h1]
    obtain ⟨st, g1, g2⟩ := sum_L1 ha hb ht hk v0 h0 n (c + 1) _ _ _ (by omega) (by omega) hst
    exact ⟨st, by rw [itN_go hgo]; exact g1, g2⟩
theorem sum_L0 {a b : List It} (ha : Stk a) (hb : Stk b) {t : Int} (ht : t = 1 ∨ t = -1) : ∀ (n : Nat) (k : Int) (st : Bool × Bool × List It), k + n = 16 → 0 ≤ k → Inv (fun q => look a q + t * look b q) (16 * k) st →
    ∃ st', itN (ref08_sum_m2_L0 a b t) (n + 1) (k, st) = some st' ∧ Inv (fun q => look a q + t * look b q) 256 st'
  | 0, k, st, hk, hk0, hi => by
    have : k = 16 := by omega
    subst this
    exact ⟨st, itN_stop (by unfold ref08_sum_m2_L0; rw [if_neg (by simp)]), hi⟩
  | n + 1, k, (e, m, out), hk, hk0, hi => by
    obtain ⟨st1, g1, g2⟩ := sum_L1 ha hb ht ⟨hk0, by omega⟩ (k, e, m, out) rfl 16 0 e m out (by omega) (by omega) (by simpa using hi)
    have hgo : ref08_sum_m2_L0 a b t (k, e, m, out) = some (.inl (k + 1, st1)) := by
      unfold ref08_sum_m2_L0
      rw [if_pos (by simp; omega), iter_of g1 (by omega), w64_id (by simp only; omega) (by simp only; omega)]
      rfl
    obtain ⟨st, g3, g4⟩ := sum_L0 ha hb ht n (k + 1) st1 (by omega) (by omega) (by rw [show 16 * (k + 1) = 16 * k + 16 by omega]; exact g2)
    exact ⟨st, by rw [itN_go hgo]; exact g3, g4⟩
theorem sum_eq {a b : List It} (ha : Stk a) (hb : Stk b) {t : Int} (ht : t = 1 ∨ t = -1) : ∃ out, ref08_sum_m2 a b t = some (out.all (fun x => decide (0 ≤ x.2.2)), out.all (fun x => decide (x.2.2 ≤ 1000)) && decide (out.length ≤ 30), out) ∧
    srt out ∧ Vld out ∧ (∀ x ∈ out, x.2.2 ≠ 0) ∧ ∀ p, 0 ≤ p → p < 256 → look out p = look a p + t * look b p := by
  obtain ⟨⟨e, m, out⟩, g1, g2⟩ := sum_L0 ha hb ht 16 0 (true, true, []) (by omega) (by omega) ⟨by simp, List.Pairwise.nil, fun x hx => (by cases hx), fun x hx => (by cases hx), fun p h1 h2 => (by omega), rfl, rfl⟩
  refine ⟨out, ?_, g2.s, g2.v, fun x hx => (g2.k x hx).2, g2.l⟩
  unfold ref08_sum_m2
  rw [iter_of g1 (by omega)]
  have he := g2.e
  have hm := g2.m
  simp only at he hm
  subst he
  subst hm
  simp only [Option.bind_some]
  have hd : decide (lenI out ≤ 30) = decide (out.length ≤ 30) := decide_eq_decide.2 (by show ((out.length : Int) ≤ 30) ↔ _; omega)
  rw [hd]
  by_cases h : (out.all fun x => decide (x.2.2 ≤ 1000)) = true
  · rw [if_pos h, h]; rfl
  · rw [Bool.not_eq_true] at h; rw [h]; rfl
end Go.Abs

/- Box: the sum and the difference as the program makes them; the law. -/
set_option linter.unusedSimpArgs false
set_option linter.unusedVariables false
namespace Go.Abs
open Go

theorem ordI_key {x y : It} (hx : 0 ≤ x.2.1 ∧ x.2.1 ≤ 15) (hy : 0 ≤ y.2.1 ∧ y.2.1 ≤ 15) : (ordI (x.1, x.2.1) (y.1, y.2.1) < 0 ↔ key x < key y) ∧ (ordI (x.1, x.2.1) (y.1, y.2.1) = 0 ↔ key x = key y) := by
  unfold ordI key
  simp only
  constructor <;> (repeat' split) <;> omega
theorem compare_nil (b : List It) : box_compare [] b = some 1 := by unfold box_compare; rw [if_pos (by rfl)]
theorem compare_nil2 (x : It) (a : List It) : box_compare (x :: a) [] = some (-1) := by
  unfold box_compare
  rw [if_neg (by rw [lenI_eq]; simp; omega), if_pos (by rfl)]
theorem compare_cons (x y : It) (a b : List It) : box_compare (x :: a) (y :: b) = some (ordI (x.1, x.2.1) (y.1, y.2.1)) := by
  unfold box_compare
  rw [if_neg (by rw [lenI_eq]; simp; omega), if_neg (by rw [lenI_eq]; simp; omega), gi_zero, gi_zero]
  simp only [Option.bind_some, box_ofItem, box_order_eq]
/-- what a merge has found -/
structure Mrg (h : Int → Int → Int) (a b r : List It) : Prop where
  s : srt r
  v : Vld r
  n : ∀ x ∈ r, x.2.2 ≠ 0
  lo : ∀ p, (∀ x ∈ a, p < key x) → (∀ x ∈ b, p < key x) → ∀ x ∈ r, p < key x
  l : ∀ q, look r q = h (look a q) (look b q)
  len : r.length ≤ a.length + b.length
/-- one item more in front -/
theorem Mrg.cons {h : Int → Int → Int} {a b a2 b2 r : List It} (hm : Mrg h a2 b2 r) {k c : Int} (hv : 0 ≤ k ∧ k ≤ 15 ∧ 0 ≤ c ∧ c ≤ 15) (ha2 : ∀ x ∈ a2, 16 * k + c < key x) (hb2 : ∀ x ∈ b2, 16 * k + c < key x) (h0 : h 0 0 = 0)
    (hla : ∀ q, q ≠ 16 * k + c → look a q = look a2 q) (hlb : ∀ q, q ≠ 16 * k + c → look b q = look b2 q) (hlen : a2.length + b2.length < a.length + b.length) (hlo : ∀ p, (∀ x ∈ a, p < key x) → (∀ x ∈ b, p < key x) → p < 16 * k + c ∧ (∀ x ∈ a2, p < key x) ∧ ∀ x ∈ b2, p < key x) :
    Mrg h a b (if h (look a (16 * k + c)) (look b (16 * k + c)) ≠ 0 then (k, c, h (look a (16 * k + c)) (look b (16 * k + c))) :: r else r) := by
  have hr := hm.lo _ ha2 hb2
  generalize hn : h (look a (16 * k + c)) (look b (16 * k + c)) = n
  have hkey : key (k, c, n) = 16 * k + c := rfl
  by_cases hz : n ≠ 0
  · rw [if_pos hz]
    refine ⟨List.pairwise_cons.2 ⟨fun y hy => by rw [hkey]; exact hr y hy, hm.s⟩, fun x hx => ?_, fun x hx => ?_, fun p h1 h2 x hx => ?_, fun q => ?_, by have := hm.len; simp only [List.length_cons]; omega⟩
    · rcases List.mem_cons.1 hx with rfl | hx
      · exact hv
      · exact hm.v x hx
    · rcases List.mem_cons.1 hx with rfl | hx
      · exact hz
      · exact hm.n x hx
    · obtain ⟨g1, g2, g3⟩ := hlo p h1 h2
      rcases List.mem_cons.1 hx with rfl | hx
      · rw [hkey]; exact g1
      · exact hm.lo p g2 g3 x hx
    · simp only [look]
      rw [hkey]
      by_cases hq : 16 * k + c = q
      · rw [if_pos hq, ← hq, hn]
      · rw [if_neg hq, hm.l q, hla q (fun e => hq e.symm), hlb q (fun e => hq e.symm)]
  · rw [if_neg hz]
    have hz : n = 0 := by omega
    subst hz
    refine ⟨hm.s, hm.v, hm.n, fun p h1 h2 x hx => ?_, fun q => ?_, by have := hm.len; omega⟩
    · obtain ⟨g1, g2, g3⟩ := hlo p h1 h2
      exact hm.lo p g2 g3 x hx
    · by_cases hq : q = 16 * k + c
      · subst hq
        rw [hn]
        exact look_zero fun x hx => by have := hr x hx; omega
      · rw [hm.l q, hla q hq, hlb q hq]
theorem look_cons_ne {x : It} {l : List It} {q : Int} (h : key x ≠ q) : look (x :: l) q = look l q := by simp only [look]; rw [if_neg h]
theorem look_cons_eq {x : It} {l : List It} : look (x :: l) (key x) = x.2.2 := by simp [look]
theorem merged_L0 (how : Int × Int → Option Int) (h : Int → Int → Int) (hh : ∀ n m, how (n, m) = some (h n m)) (h0 : h 0 0 = 0) : ∀ (n : Nat) (a b out : List It), a.length + b.length ≤ n → srt a → srt b → Vld a → Vld b → out.length + n ≤ 1000 →
    ∃ r, itN (box_merged_m0_L0 how) (n + 1) (a, b, out) = some (out ++ r) ∧ Mrg h a b r := by
  intro n
  induction n with
  | zero =>
    intro a b out hn sa sb va vb ho
    have ea : a = [] := List.eq_nil_of_length_eq_zero (by omega)
    have eb : b = [] := List.eq_nil_of_length_eq_zero (by omega)
    subst ea; subst eb
    refine ⟨[], ?_, ⟨List.Pairwise.nil, fun x hx => (by cases hx), fun x hx => (by cases hx), fun p _ _ x hx => (by cases hx), fun q => by simp [look, h0], by simp⟩⟩
    rw [List.append_nil]
    exact itN_stop rfl
  | succ n ih =>
    intro a b out hn sa sb va vb ho
    -- after the round
    have fin : ∀ (a2 b2 : List It) (k c : Int) (N : Int) (o : List It), box_merged_m0_L0 how (a, b, out) = some (.inl (a2, b2, if N ≠ 0 then out ++ [(k, c, N)] else out)) → N = h (look a (16 * k + c)) (look b (16 * k + c)) → (0 ≤ k ∧ k ≤ 15 ∧ 0 ≤ c ∧ c ≤ 15) →
        (∀ x ∈ a2, 16 * k + c < key x) → (∀ x ∈ b2, 16 * k + c < key x) → (∀ q, q ≠ 16 * k + c → look a q = look a2 q) → (∀ q, q ≠ 16 * k + c → look b q = look b2 q) → a2.length + b2.length < a.length + b.length → srt a2 → srt b2 → Vld a2 → Vld b2 →
        (∀ p, (∀ x ∈ a, p < key x) → (∀ x ∈ b, p < key x) → p < 16 * k + c ∧ (∀ x ∈ a2, p < key x) ∧ ∀ x ∈ b2, p < key x) → ∃ r, itN (box_merged_m0_L0 how) (n + 1 + 1) (a, b, out) = some (out ++ r) ∧ Mrg h a b r := by
      intro a2 b2 k c N o hgo hN hv ha2 hb2 hla hlb hlen s2 t2 v2 w2 hlo
      obtain ⟨r, g1, g2⟩ := ih a2 b2 (if N ≠ 0 then out ++ [(k, c, N)] else out) (by omega) s2 t2 v2 w2 (by split <;> (try simp only [List.length_append, List.length_singleton]) <;> omega)
      refine ⟨_, ?_, g2.cons hv ha2 hb2 h0 hla hlb hlen hlo⟩
      rw [itN_go hgo, g1, ← hN]
      by_cases hz : N ≠ 0
      · rw [if_pos hz, if_pos hz, List.append_assoc]; rfl
      · rw [if_neg hz, if_neg hz]
    cases a with
    | nil =>
      cases b with
      | nil =>
        refine ⟨[], ?_, ⟨List.Pairwise.nil, fun x hx => (by cases hx), fun x hx => (by cases hx), fun p _ _ x hx => (by cases hx), fun q => by simp [look, h0], by simp⟩⟩
        rw [List.append_nil]
        exact itN_stop rfl
      | cons y b =>
        have sb' := sb
        simp only [srt, List.pairwise_cons] at sb'
        have vy := vb y (by simp)
        refine fin [] b y.1 y.2.1 (h 0 y.2.2) out ?_ ?_ vy (fun x hx => by cases hx) (fun x hx => sb'.1 x hx) (fun q _ => rfl) (fun q hq => look_cons_ne (fun e => hq e.symm)) (by simp) List.Pairwise.nil sb'.2 va (fun x hx => vb x (by simp [hx])) (fun p _ h2 => ⟨h2 y (by simp), fun x hx => (by cases hx), fun x hx => h2 x (by simp [hx])⟩)
        · unfold box_merged_m0_L0
          simp only [compare_nil, gi_zero, gsl_tail, Option.bind_some, hh]
          rw [if_neg (by simp [lenI_eq]), show decide (0 < lenI (y :: b)) = true by (simp [lenI_eq] <;> omega)]
          simp only [Option.bind_some, if_true]
          rw [if_neg (by decide)]
          simp only [Option.bind_some]
          by_cases hz : h 0 y.2.2 = 0
          · simp [hz]
          · rw [gapp_some (by simp only [List.length_singleton]; omega)]; simp [hz]
        · show _ = h (look [] (key y)) (look (y :: b) (key y))
          rw [look_cons_eq]; rfl
    | cons x a =>
      have sa' := sa
      simp only [srt, List.pairwise_cons] at sa'
      have vx := va x (by simp)
      cases b with
      | nil =>
        refine fin a [] x.1 x.2.1 (h x.2.2 0) out ?_ ?_ vx (fun z hz => sa'.1 z hz) (fun z hz => by cases hz) (fun q hq => look_cons_ne (fun e => hq e.symm)) (fun q _ => rfl) (by simp) sa'.2 List.Pairwise.nil (fun z hz => va z (by simp [hz])) vb (fun p h1 _ => ⟨h1 x (by simp), fun z hz => h1 z (by simp [hz]), fun z hz => (by cases hz)⟩)
        · unfold box_merged_m0_L0
          simp only [compare_nil2, gi_zero, gsl_tail, Option.bind_some, hh]
          rw [if_pos (by simp [lenI_eq] <;> omega)]
          simp only [Option.bind_some, if_true]
          rw [if_pos (by decide), if_neg (by decide)]
          simp only [Option.bind_some]
          by_cases hz : h x.2.2 0 = 0
          · simp [hz]
          · rw [gapp_some (by simp only [List.length_singleton]; omega)]; simp [hz]
        · show _ = h (look (x :: a) (key x)) (look [] (key x))
          rw [look_cons_eq]; rfl
      | cons y b =>
        have sb' := sb
        simp only [srt, List.pairwise_cons] at sb'
        have vy := vb y (by simp)
        obtain ⟨o1, o2⟩ := ordI_key (x := x) (y := y) ⟨vx.2.2.1, vx.2.2.2⟩ ⟨vy.2.2.1, vy.2.2.2⟩
        rcases Int.lt_trichotomy (key x) (key y) with hxy | hxy | hxy
        · have e1 := o1.2 hxy
          refine fin a (y :: b) x.1 x.2.1 (h x.2.2 0) out ?_ ?_ vx (fun z hz => sa'.1 z hz) (fun z hz => ?_) (fun q hq => look_cons_ne (fun e => hq e.symm)) (fun q _ => rfl) (by simp) sa'.2 sb (fun z hz => va z (by simp [hz])) vb (fun p h1 h2 => ⟨h1 x (by simp), fun z hz => h1 z (by simp [hz]), h2⟩)
          · unfold box_merged_m0_L0
            simp only [compare_cons, gi_zero, gsl_tail, Option.bind_some, hh]
            rw [if_pos (by simp [lenI_eq] <;> omega)]
            simp only [Option.bind_some, if_true]
            rw [if_pos (by simpa using Int.le_of_lt e1), if_neg (by simp; omega)]
            simp only [Option.bind_some]
            by_cases hz : h x.2.2 0 = 0
            · simp [hz]
            · rw [gapp_some (by simp only [List.length_singleton]; omega)]; simp [hz]
          · show _ = h (look (x :: a) (key x)) (look (y :: b) (key x))
            rw [look_cons_eq, look_zero (l := y :: b) (fun z hz => by
              rcases List.mem_cons.1 hz with rfl | hz
              · omega
              · have := sb'.1 z hz; omega)]
          · show key x < key z
            rcases List.mem_cons.1 hz with rfl | hz
            · exact hxy
            · exact Int.lt_trans hxy (sb'.1 z hz)
        · have e1 := o2.2 hxy
          refine fin a b x.1 x.2.1 (h x.2.2 y.2.2) out ?_ ?_ vx (fun z hz => sa'.1 z hz) (fun z hz => ?_) (fun q hq => look_cons_ne (fun e => hq e.symm)) (fun q hq => look_cons_ne (fun e => hq (by rw [← e, ← hxy]; rfl))) (by simp; omega) sa'.2 sb'.2 (fun z hz => va z (by simp [hz])) (fun z hz => vb z (by simp [hz])) (fun p h1 h2 => ⟨h1 x (by simp), fun z hz => h1 z (by simp [hz]), fun z hz => h2 z (by simp [hz])⟩)
          · unfold box_merged_m0_L0
            simp only [compare_cons, gi_zero, gsl_tail, Option.bind_some, hh, e1]
            rw [if_pos (by simp [lenI_eq] <;> omega)]
            simp only [Option.bind_some, if_true]
            rw [if_pos (by decide), if_pos (by decide)]
            simp only [Option.bind_some]
            by_cases hz : h x.2.2 y.2.2 = 0
            · simp [hz]
            · rw [gapp_some (by simp only [List.length_singleton]; omega)]; simp [hz]
          · show _ = h (look (x :: a) (key x)) (look (y :: b) (key x))
            rw [look_cons_eq, hxy, look_cons_eq]
          · show key x < key z
            have := sb'.1 z hz; omega
        · have e1 : 0 < ordI (x.1, x.2.1) (y.1, y.2.1) := by
            have n1 : ¬ ordI (x.1, x.2.1) (y.1, y.2.1) < 0 := fun e => by have := o1.1 e; omega
            have n2 : ¬ ordI (x.1, x.2.1) (y.1, y.2.1) = 0 := fun e => by have := o2.1 e; omega
            omega
          refine fin (x :: a) b y.1 y.2.1 (h 0 y.2.2) out ?_ ?_ vy (fun z hz => ?_) (fun z hz => sb'.1 z hz) (fun q _ => rfl) (fun q hq => look_cons_ne (fun e => hq e.symm)) (by simp) sa sb'.2 va (fun z hz => vb z (by simp [hz])) (fun p h1 h2 => ⟨h2 y (by simp), h1, fun z hz => h2 z (by simp [hz])⟩)
          · unfold box_merged_m0_L0
            simp only [compare_cons, gi_zero, gsl_tail, Option.bind_some, hh]
            rw [if_pos (by simp [lenI_eq] <;> omega)]
            simp only [Option.bind_some, if_true]
            rw [if_neg (by simp; omega)]
            simp only [Option.bind_some]
            by_cases hz : h 0 y.2.2 = 0
            · simp [hz]
            · rw [gapp_some (by simp only [List.length_singleton]; omega)]; simp [hz]
          · show _ = h (look (x :: a) (key y)) (look (y :: b) (key y))
            rw [look_cons_eq, look_zero (l := x :: a) (fun z hz => by
              rcases List.mem_cons.1 hz with rfl | hz
              · omega
              · have := sa'.1 z hz; omega)]
          · show key y < key z
            rcases List.mem_cons.1 hz with rfl | hz
            · exact hxy
            · exact Int.lt_trans hxy (sa'.1 z hz)
end Go.Abs

/- Box: the law BoxStocks about the Lean functions. -/
set_option linter.unusedSimpArgs false
set_option linter.unusedVariables false
namespace Go.Abs
open Go

theorem merged_eq {a b : List It} (ha : Stk a) (hb : Stk b) (how : Int × Int → Option Int) (h : Int → Int → Int) (hh : ∀ n m, how (n, m) = some (h n m)) (h0 : h 0 0 = 0) : ∃ r, box_merged_m0 a b how = some r ∧ Mrg h a b r := by
  have := ha.len
  have := hb.len
  obtain ⟨r, g1, g2⟩ := merged_L0 how h hh h0 60 a b [] (by omega) ha.s hb.s ha.v hb.v (by simp)
  refine ⟨r, ?_, g2⟩
  unfold box_merged_m0
  rw [iter_of g1 (by omega)]; rfl
theorem look_out {l : List It} (hv : Vld l) {q : Int} (hq : ¬ (0 ≤ q ∧ q < 256)) : look l q = 0 := look_zero fun x hx => by
  have := hv x hx
  unfold key
  omega
/-- both ways of adding make the same list -/
theorem same_list {a b r out : List It} (ha : Stk a) (hb : Stk b) {t : Int} (ht : t = 1 ∨ t = -1) {h : Int → Int → Int} (hh : ∀ n m, 0 ≤ n → n ≤ 1000 → 0 ≤ m → m ≤ 1000 → h n m = n + t * m) (hm : Mrg h a b r)
    (so : srt out) (vo : Vld out) (no : ∀ x ∈ out, x.2.2 ≠ 0) (lo : ∀ p, 0 ≤ p → p < 256 → look out p = look a p + t * look b p) : r = out := by
  refine uniq hm.s so hm.v vo hm.n no fun q => ?_
  have ra := look_rng ha q
  have rb := look_rng hb q
  rw [hm.l q, hh _ _ ra.1 ra.2 rb.1 rb.2]
  by_cases hq : 0 ≤ q ∧ q < 256
  · rw [lo q hq.1 hq.2]
  · rw [look_out ha.v hq, look_out hb.v hq, look_out vo hq]; omega
theorem checked_eq {a b : List It} (ha : a.length ≤ 1000) (hb : b.length ≤ 1000) : box_checked [a, b] = some (if stk a = true ∧ stk b = true then 0 else 8) := by
  unfold box_checked
  rw [range_iter (F := box_checked_L0 [a, b]) [a, b] (by simp) (fun i x => if stk x then none else some 8) (fun i hi => by
    have h2 : i < 2 := by simpa using hi
    unfold box_checked_L0
    rw [if_pos (by rw [lenI_eq]; simp; omega), gi_cast hi, w64_add1 (by omega)]
    have hl : [a, b][i].length ≤ 1000 := by
      have : [a, b][i] ∈ [a, b] := List.getElem_mem _
      simp only [List.mem_cons, List.not_mem_nil, or_false] at this
      rcases this with e | e <;> rw [e] <;> assumption
    simp only [Option.bind_some, box_Check_eq _ hl]
    by_cases h : stk [a, b][i] = true <;> simp [h, nextL]) (by unfold box_checked_L0; rw [if_neg (by simp [lenI_eq])])]
  simp only [List.zipIdx_cons, List.zipIdx_nil, List.findSome?_cons, List.findSome?_nil]
  by_cases h1 : stk a = true <;> by_cases h2 : stk b = true <;> simp [h1, h2, endL]
theorem add_bad {a b : List It} (ha : a.length ≤ 1000) (hb : b.length ≤ 1000) (h : ¬ (stk a = true ∧ stk b = true)) : box_Add_m1 a b = some (8, []) ∧ box_Take_m4 a b = some (8, []) ∧ ref08_Add_m3 a b = some (8, []) ∧ ref08_Take_m5 a b = some (8, []) := by
  unfold box_Add_m1 box_Take_m4 ref08_Add_m3 ref08_Take_m5
  rw [checked_eq ha hb, if_neg h, ref08_Stock_eq, ref08_Stock_eq]
  by_cases h1 : stk a = true
  · have h2 : stk b = false := by cases hb : stk b with
      | false => rfl
      | true => exact absurd ⟨h1, hb⟩ h
    simp [h1, h2]
  · rw [Bool.not_eq_true] at h1
    simp [h1]
theorem add_ok {a b : List It} (sa : stk a = true) (sb : stk b = true) (ha : Stk a) (hb : Stk b) : ∃ x, x.2.length ≤ 1000 ∧ box_Add_m1 a b = some x ∧ ref08_Add_m3 a b = some x := by
  have la := ha.len
  have lb := hb.len
  obtain ⟨r, g1, g2⟩ := merged_eq ha hb (fun u => (box_Add_c1 u.1 u.2).bind fun u1 => some u1) (fun n m => w64 (n + m)) (fun n m => rfl) rfl
  obtain ⟨out, k1, k2, k3, k4, k5⟩ := sum_eq ha hb (t := 1) (.inl rfl)
  have hh : ∀ n m : Int, 0 ≤ n → n ≤ 1000 → 0 ≤ m → m ≤ 1000 → w64 (n + m) = n + 1 * m := fun n m _ _ _ _ => by rw [w64_id (by omega) (by omega)]; omega
  have e := same_list ha hb (.inl rfl) hh g2 k2 k3 k4 k5
  subst e
  have hlen := g2.len
  have hpos : r.all okN = r.all fun x => decide (x.2.2 ≤ 1000) := by
    rw [Bool.eq_iff_iff, List.all_eq_true, List.all_eq_true]
    have hx : ∀ x ∈ r, 1 ≤ x.2.2 := fun x hx => by
      have h1 := g2.n x hx
      have h2 := look_mem g2.s hx
      rw [g2.l] at h2
      have ra := look_rng ha (key x)
      have rb := look_rng hb (key x)
      rw [hh _ _ ra.1 ra.2 rb.1 rb.2] at h2
      omega
    constructor
    · intro h x hx
      have := h x hx
      unfold okN at this
      simp only [Bool.and_eq_true] at this
      exact this.2
    · intro h x hxr
      have := h x hxr
      unfold okN
      simp only [Bool.and_eq_true]
      exact ⟨by simpa using hx x hxr, this⟩
  have hst := of_stk g2.v g2.s
  rw [hpos] at hst
  unfold box_Add_m1 ref08_Add_m3
  rw [checked_eq (by omega) (by omega), if_pos ⟨sa, sb⟩, g1, ref08_Stock_eq, ref08_Stock_eq, sa, sb, k1]
  simp only [Option.bind_some, box_Check_eq r (by omega), hst]
  by_cases h1 : (r.all fun x => decide (x.2.2 ≤ 1000)) = true <;> by_cases h2 : r.length ≤ 30 <;> simp [h1, h2] <;> omega
theorem take_ok {a b : List It} (sa : stk a = true) (sb : stk b = true) (ha : Stk a) (hb : Stk b) : ∃ x, x.2.length ≤ 1000 ∧ box_Take_m4 a b = some x ∧ ref08_Take_m5 a b = some x := by
  have la := ha.len
  have lb := hb.len
  obtain ⟨r, g1, g2⟩ := merged_eq ha hb (fun u => (box_Take_c1 u.1 u.2).bind fun u1 => some u1) (fun n m => w64 (n - m)) (fun n m => rfl) rfl
  obtain ⟨out, k1, k2, k3, k4, k5⟩ := sum_eq ha hb (t := -1) (.inr rfl)
  have hh : ∀ n m : Int, 0 ≤ n → n ≤ 1000 → 0 ≤ m → m ≤ 1000 → w64 (n - m) = n + -1 * m := fun n m _ _ _ _ => by rw [w64_id (by omega) (by omega)]; omega
  have e := same_list ha hb (.inr rfl) hh g2 k2 k3 k4 k5
  subst e
  have hlen := g2.len
  have e2 : (fun u0 : It => (box_Take_c2 u0).bind fun u1 => some u1) = fun u => some (!decide (0 ≤ u.2.2)) := by
    funext u
    unfold box_Take_c2
    by_cases h : u.2.2 < 0 <;> simp [h] <;> omega
  unfold box_Take_m4 ref08_Take_m5
  rw [checked_eq (by omega) (by omega), if_pos ⟨sa, sb⟩, g1, ref08_Stock_eq, ref08_Stock_eq, sa, sb, k1, e2]
  simp only [Option.bind_some, contains_eq r (by omega), all_not]
  by_cases h1 : (r.all fun x => decide (0 ≤ x.2.2)) = true
  · simp [h1]; omega
  · rw [Bool.not_eq_true] at h1; simp [h1]
theorem same_eq (l : List It) (hl : l.length ≤ 1000) : ref08_SameItems l l = some true := by
  unfold ref08_SameItems
  rw [if_neg (by simp), range_any (F := ref08_SameItems_L0 l l) false l (by omega) (fun _ _ => false) (fun i hi => by
    unfold ref08_SameItems_L0
    rw [if_pos (by rw [lenI_eq]; simpa using hi), gi_cast hi, w64_add1 (by omega)]
    simp) (by unfold ref08_SameItems_L0; rw [if_neg (by simp [lenI_eq])])]
  simp
theorem spoil_ok (l : List It) (hl : l.length ≤ 1000) : ∃ r, law08_spoil_m6 l = some r := by
  have : ∀ (k i : Nat) (l' : List It), i + k = l.length → l'.length = l.length → ∃ r, itN (law08_spoil_m6_L0 l) (k + 1) ((i : Int), l') = some r := by
    intro k
    induction k with
    | zero =>
      intro i l' h h'
      refine ⟨l', itN_stop ?_⟩
      unfold law08_spoil_m6_L0
      rw [if_neg (by rw [lenI_eq]; simp; omega)]
    | succ k ih =>
      intro i l' h h'
      have hi : i < l'.length := by omega
      obtain ⟨r, hr⟩ := ih (i + 1) (lset l' i (l'[i].1, l'[i].2.1, -7)) (by omega) (by simp [lset, h'])
      refine ⟨r, ?_⟩
      rw [← hr]
      refine itN_go ?_
      unfold law08_spoil_m6_L0
      rw [if_pos (by rw [lenI_eq]; simp; omega), gi_cast hi, w64_add1 (by omega)]
      rfl
  obtain ⟨r, hr⟩ := this l.length 0 l (by omega) rfl
  refine ⟨r, ?_⟩
  unfold law08_spoil_m6
  rw [show ((0 : Int), l) = (((0 : Nat) : Int), l) from rfl, iter_of hr (by omega)]; rfl
theorem lots1 (l : List It) : ∃ b, ref08_Lots l = some b ∧ (b = false → l.length ≤ 40) := by
  unfold ref08_Lots
  rw [lenI_eq]
  by_cases hl : (40 : Int) < l.length
  · exact ⟨true, by rw [if_pos (by simpa using hl)], fun h => by cases h⟩
  · rw [if_neg (by simpa using hl)]
    have : ∀ (k i : Nat) (v : Int), i + k = l.length → ∃ r, itN (ref08_Lots_L0 l) (k + 1) ((i : Int), v) = some r := by
      intro k
      induction k with
      | zero =>
        intro i v h
        refine ⟨v, itN_stop ?_⟩
        unfold ref08_Lots_L0
        rw [if_neg (by rw [lenI_eq]; simp; omega)]
      | succ k ih =>
        intro i v h
        have hi : i < l.length := by omega
        by_cases hw : (decide (0 ≤ l[i].2.2) && decide (l[i].2.2 ≤ 1000)) = true
        · obtain ⟨r, hr⟩ := ih (i + 1) (w64 (v + l[i].2.2)) (by omega)
          refine ⟨r, ?_⟩
          rw [← hr]
          refine itN_go ?_
          unfold ref08_Lots_L0
          rw [if_pos (by rw [lenI_eq]; simpa using hi), gi_cast hi, w64_add1 (by omega)]
          simp only [Option.bind_some, ref08_within_eq, hw, if_true]
        · obtain ⟨r, hr⟩ := ih (i + 1) v (by omega)
          refine ⟨r, ?_⟩
          rw [← hr]
          refine itN_go ?_
          unfold ref08_Lots_L0
          rw [if_pos (by rw [lenI_eq]; simpa using hi), gi_cast hi, w64_add1 (by omega)]
          simp only [Option.bind_some, ref08_within_eq, hw, if_false]
          rw [if_neg (by simp)]
    obtain ⟨r, hr⟩ := this l.length 0 0 (by omega)
    refine ⟨decide (8000 < r), ?_, fun _ => by omega⟩
    rw [show ((0 : Int), (0 : Int)) = (((0 : Nat) : Int), 0) from rfl, iter_of hr (by omega)]; rfl
theorem lots_eq (a b : List It) : ∃ c, law08_lots [a, b] = some c ∧ (c = false → a.length ≤ 40 ∧ b.length ≤ 40) := by
  obtain ⟨u, hu, hu2⟩ := lots1 a
  obtain ⟨v, hv, hv2⟩ := lots1 b
  refine ⟨u || v, ?_, fun h => ?_⟩
  · unfold law08_lots
    rw [range_iter (F := law08_lots_L0 [a, b]) [a, b] (by simp) (fun i x => if ref08_Lots x = some true then some true else none) (fun i hi => by
      have h2 : i < 2 := by simpa using hi
      unfold law08_lots_L0
      rw [if_pos (by rw [lenI_eq]; simp; omega), gi_cast hi, w64_add1 (by omega)]
      have hm : [a, b][i] ∈ [a, b] := List.getElem_mem _
      simp only [List.mem_cons, List.not_mem_nil, or_false] at hm
      simp only [Option.bind_some]
      rcases hm with e | e
      · rw [e, hu]; cases u <;> simp [nextL]
      · rw [e, hv]; cases v <;> simp [nextL]) (by unfold law08_lots_L0; rw [if_neg (by simp [lenI_eq])])]
    simp only [List.zipIdx_cons, List.zipIdx_nil, List.findSome?_cons, List.findSome?_nil, hu, hv]
    cases u <;> cases v <;> simp [endL]
  · rw [Bool.or_eq_false_iff] at h
    exact ⟨hu2 h.1, hv2 h.2⟩

theorem law08_BoxStocks_eq (a b : List It) (ca : ∀ x ∈ a, 0 ≤ x.2.1) (cb : ∀ x ∈ b, 0 ≤ x.2.1) : law08_BoxStocks a b = some true := by
  obtain ⟨c, hc, hl⟩ := lots_eq a b
  unfold law08_BoxStocks
  rw [hc]
  cases c with
  | true => rfl
  | false =>
    obtain ⟨la, lb⟩ := hl rfl
    simp only [Option.bind_some, Bool.false_eq_true, if_false]
    rw [gapp_some (by simp only [List.length_nil]; omega), gapp_some (by simp only [List.length_nil]; omega)]
    simp only [Option.bind_some, List.nil_append]
    have hx : ∃ x y, x.2.length ≤ 1000 ∧ y.2.length ≤ 1000 ∧ box_Add_m1 a b = some x ∧ ref08_Add_m3 a b = some x ∧ box_Take_m4 a b = some y ∧ ref08_Take_m5 a b = some y := by
      by_cases h : stk a = true ∧ stk b = true
      · have ha := stk_of h.1 ca
        have hb := stk_of h.2 cb
        obtain ⟨x, x1, x2, x3⟩ := add_ok h.1 h.2 ha hb
        obtain ⟨y, y1, y2, y3⟩ := take_ok h.1 h.2 ha hb
        exact ⟨x, y, x1, y1, x2, x3, y2, y3⟩
      · obtain ⟨h1, h2, h3, h4⟩ := add_bad (by omega) (by omega) h
        exact ⟨(8, []), (8, []), by simp, by simp, h1, h3, h2, h4⟩
    obtain ⟨x, y, x1, y1, h1, h2, h3, h4⟩ := hx
    obtain ⟨r1, s1⟩ := spoil_ok x.2 x1
    obtain ⟨r2, s2⟩ := spoil_ok y.2 y1
    simp only [h1, h2, h3, h4, Option.bind_some, box_Check_eq a (by omega), ref08_Check, ref08_Stock_eq, same_eq _ x1, same_eq _ y1, s1, s2, same_eq a (by omega), same_eq b (by omega)]
    cases hs : stk a <;> simp
end Go.Abs
