/- The functions and the law, part 7. -/
import Derived.Test.YtmcfapchpedbgaaProg
import Derived.Test.YtmcfapchpedbgaaZ3
import Derived.Test.YtmcfapchpedbgaaZ5
import Derived.Test.YtmcfapchpedbgaaZ6
set_option linter.constructorNameAsVariable false
set_option linter.unusedVariables false
set_option linter.unusedSimpArgs false
/- The Go functions as Lean functions. -/
set_option linter.unusedVariables false
namespace Go.Abs
open Go
@[reducible] def tBoundsError : Ty := (.pr (.i .i64) (.pr (.i .i64) (.pr .b (.i .u8))))
abbrev BoundsError := (Int × Int × Bool × Int)
@[reducible] def tBelt : Ty := (.pr (.i .i64) (.pr (.i .i64) (.pr (.i .i64) (.pr (.sl (.pr (.i .i64) (.i .i64))) (.sl (.i .i64))))))
abbrev Belt := (Int × Int × Int × (List (Int × Int)) × (List Int))
@[reducible] def tFed : Ty := (.pr (.i .i64) (.pr (.i .i64) (.sl (.i .i64))))
abbrev Fed := (Int × Int × (List Int))
@[reducible] def tPile : Ty := (.pr (.i .i64) (.sl (.i .i64)))
abbrev Pile := (Int × (List Int))
@[reducible] def tLine : Ty := (.pr tBelt (.sl tFed))
abbrev Line := (Belt × (List Fed))

def ref09_Great_L0 (x1 : (List Fed)) (v0 : Int) : Option (Int ⊕ (Bool ⊕ Unit)) :=
  (if (decide (v0 < (lenI x1))) = true then ((gi x1 v0).bind fun v1 => (if (decide (20 < (lenI v1.2.2))) = true then (some (.inr (.inl true))) else (some (.inl (w64 (v0 + 1)))))) else (some (.inr (.inr ()))))

def ref09_Great (x0 : Belt) (x1 : (List Fed)) : Option Bool :=
  (if (decide (12 < (lenI x0.2.2.2.1))) = true then (some true) else (if (decide (30 < (lenI x0.2.2.2.2))) = true then (some true) else (if (decide (60 < (lenI x1))) = true then (some true) else ((iter (ref09_Great_L0 x1) 0).bind fun v2 => (match v2 with | .inl v3 => (some v3) | .inr v4 => (some false))))))

def sort_from_c1 (x0 : Int) (x1 : Int) (x2 : Int) : Option Bool :=
  (if (decide (x0 < x1)) = true then (some true) else (some (decide (x2 < x0))))

def slices_IndexFunc_s_int_int_L0 (x0 : (List Int)) (x1 : (Int → Option Bool)) (v0 : Int) : Option (Int ⊕ (Int ⊕ Unit)) :=
  (if (decide (v0 < (lenI x0))) = true then ((gi x0 v0).bind fun v1 => ((x1 v1).bind fun v2 => (if v2 = true then (some (.inr (.inl v0))) else (some (.inl (w64 (v0 + 1))))))) else (some (.inr (.inr ()))))

def slices_IndexFunc_s_int_int (x0 : (List Int)) (x1 : (Int → Option Bool)) : Option Int :=
  ((iter (slices_IndexFunc_s_int_int_L0 x0 x1) 0).bind fun v3 => (match v3 with | .inl v4 => (some v4) | .inr v5 => (some (-1))))

def slices_ContainsFunc_s_int_int (x0 : (List Int)) (x1 : (Int → Option Bool)) : Option Bool :=
  ((slices_IndexFunc_s_int_int x0 x1).bind fun v0 => (some (decide (0 ≤ v0))))

def sort_from (x0 : Int) (x1 : Int) (x2 : (List Int)) : Option Bool :=
  ((slices_ContainsFunc_s_int_int x2 (fun (u0 : Int) => ((sort_from_c1 u0 x0 x1).bind fun u1 => (some u1)))).bind fun v0 => (some (!v0)))

def sort_CheckBelt_L0 (x0 : Belt) (v4 : (Int × Int × (List (Int × Bool)))) : Option ((Int × Int × (List (Int × Bool))) ⊕ (Int ⊕ Unit)) :=
  (if (decide (v4.1 < (lenI x0.2.2.2.1))) = true then ((gi x0.2.2.2.1 v4.1).bind fun v5 => ((sort_from v4.2.1 (w64 (x0.1 - 1)) [v5.1]).bind fun v6 => (if (!v6) = true then (some (.inr (.inl 90))) else ((sort_from 0 7 [v5.2]).bind fun v7 => (if (!v7) = true then (some (.inr (.inl 90))) else (if ((mget v4.2.2 v5.2).getD false) = true then (some (.inr (.inl 90))) else (some (.inl ((w64 (v4.1 + 1)), (w64 (v5.1 + 1)), (mput v4.2.2 v5.2 true)))))))))) else (some (.inr (.inr ()))))

def sort_CheckBelt (x0 : Belt) : Option Int :=
  ((sort_from 2 100 [x0.1]).bind fun v0 => (if (!v0) = true then (some 90) else ((sort_from 0 (w64 (x0.1 - 2)) [x0.2.1]).bind fun v1 => (if (!v1) = true then (some 90) else ((sort_from 0 10 [x0.2.2.1]).bind fun v2 => (if (!v2) = true then (some 90) else (if (decide (8 < (lenI x0.2.2.2.1))) = true then (some 90) else (if ((lenI x0.2.2.2.2) != 16) = true then (some 90) else ((sort_from (-1) 7 x0.2.2.2.2).bind fun v3 => (if (!v3) = true then (some 90) else ((iter (sort_CheckBelt_L0 x0) (0, (w64 (x0.2.1 + 1)), [])).bind fun v8 => (match v8 with | .inl v9 => (some v9) | .inr v10 => (some 0)))))))))))))

def sort_said (x0 : (List Int)) : Option Bool :=
  ((sort_from 1 9 [(lenI x0)]).bind fun v0 => (if v0 = true then ((sort_from (-1) 15 x0).bind fun v1 => (some v1)) else (some false)))

def sort_CheckFed_L0 (x0 : (List Fed)) (v0 : (Int × Int)) : Option ((Int × Int) ⊕ (Int ⊕ Unit)) :=
  (if (decide (v0.1 < (lenI x0))) = true then ((gi x0 v0.1).bind fun v1 => ((sort_from v0.2 1000 [v1.1]).bind fun v2 => (if (!v2) = true then (some (.inr (.inl 91))) else ((sort_from 0 15 [v1.2.1]).bind fun v3 => (if (!v3) = true then (some (.inr (.inl 91))) else ((sort_said v1.2.2).bind fun v4 => (if (!v4) = true then (some (.inr (.inl 91))) else (some (.inl ((w64 (v0.1 + 1)), (w64 (v1.1 + 1)))))))))))) else (some (.inr (.inr ()))))

def sort_CheckFed (x0 : (List Fed)) : Option Int :=
  (if (decide (40 < (lenI x0))) = true then (some 91) else ((iter (sort_CheckFed_L0 x0) (0, 0)).bind fun v5 => (match v5 with | .inl v6 => (some v6) | .inr v7 => (some 0))))

def sort_lay (x0 : Belt) (x1 : (List Fed)) : Option ((Option Line) × Int) :=
  ((sort_CheckBelt x0).bind fun v0 => ((if (v0 == 0) = true then ((sort_CheckFed x1).bind fun v1 => (some v1)) else (some v0)).bind fun v2 => (if (v2 != 0) = true then (some (none, v2)) else (some ((some (x0, x1)), 0)))))

def cmp_isNaN_int (x0 : Int) : Option Bool :=
  (some (x0 != x0))

def cmp_Compare_int (x0 : Int) (x1 : Int) : Option Int :=
  ((cmp_isNaN_int x0).bind fun v0 => ((cmp_isNaN_int x1).bind fun v1 => (if v0 = true then (if v1 = true then (some 0) else (some (-1))) else (if v1 = true then (some 1) else (if (decide (x0 < x1)) = true then (some (-1)) else (if (decide (x1 < x0)) = true then (some 1) else (some 0)))))))

def cmp_Or_int_L0 (x0 : (List Int)) (v0 : Int) : Option (Int ⊕ (Int ⊕ Unit)) :=
  (if (decide (v0 < (lenI x0))) = true then ((gi x0 v0).bind fun v1 => (if (v1 != 0) = true then (some (.inr (.inl v1))) else (some (.inl (w64 (v0 + 1)))))) else (some (.inr (.inr ()))))

def cmp_Or_int (x0 : (List Int)) : Option Int :=
  ((iter (cmp_Or_int_L0 x0) 0).bind fun v2 => (match v2 with | .inl v3 => (some v3) | .inr v4 => (some 0)))

def sort_order (x0 : (Int × Int × Bool)) (x1 : (Int × Int × Bool)) : Option Int :=
  ((cmp_Compare_int x0.1 x1.1).bind fun v0 => ((cmp_Compare_int x0.2.1 x1.2.1).bind fun v1 => ((cmp_Or_int [v0, v1]).bind fun v2 => (some v2))))

def sort_after (x0 : Int) (x1 : Int) (x2 : Int) : Option Bool :=
  (some (decide ((IntKind.wrap .u64 x2) ≤ (IntKind.wrap .u64 ((IntKind.wrap .u64 x0) - (IntKind.wrap .u64 x1))))))

def sort_line_swung_L0 (x0 : (Option Line)) (x1 : (List (Int × Int × Bool))) (v2 : (Int × (List (List (Int × Int × Bool))))) : Option ((Int × (List (List (Int × Int × Bool)))) ⊕ (((List (List (Int × Int × Bool))) × Bool) ⊕ (List (List (Int × Int × Bool))))) :=
  (if (decide (v2.1 < (lenI x1))) = true then ((gi x1 v2.1).bind fun v3 => ((x0.bind fun v4 => ((sort_from 0 (w64 ((lenI v4.1.2.2.2.1) - 1)) [v3.2.1]).bind fun v5 => (if (!v5) = true then (some true) else (if (decide (0 < v2.1)) = true then ((gi x1 (w64 (v2.1 - 1))).bind fun v6 => ((sort_order v6 v3).bind fun v7 => (some (decide (0 ≤ v7))))) else (some false))))).bind fun v8 => (if v8 = true then (some (.inr (.inl ([], false)))) else ((gi v2.2 v3.2.1).bind fun v9 => ((gi v2.2 v3.2.1).bind fun v10 => ((gi v2.2 v3.2.1).bind fun v11 => (((grem (lenI v11) 2).bind fun v12 => (if (!(v3.2.2 == (v12 == 0))) = true then (some true) else (if (decide (0 < (lenI v11))) = true then ((gi v2.2 v3.2.1).bind fun v13 => ((gi v13 (w64 ((lenI v11) - 1))).bind fun v14 => ((gi v2.2 v3.2.1).bind fun v15 => ((gi v15 (w64 ((lenI v11) - 1))).bind fun v16 => (x0.bind fun v17 => ((sort_after v3.1 v16.1 (imax v17.1.2.2.1 1)).bind fun v18 => (some (!v18)))))))) else (some false)))).bind fun v19 => (if v19 = true then (some (.inr (.inl ([], false)))) else ((gi v2.2 v3.2.1).bind fun v20 => ((gapp v20 [v3]).bind fun v21 => ((gi v2.2 v3.2.1).bind fun v22 => ((gsame v3.2.1 v3.2.1).bind fun v23 => ((gi v2.2 v3.2.1).bind fun v24 => (some (.inl ((w64 (v2.1 + 1)), (lset v2.2 v3.2.1 v21))))))))))))))))) else (some (.inr (.inr v2.2))))

def sort_line_swung (x0 : (Option Line)) (x1 : (List (Int × Int × Bool))) : Option ((List (List (Int × Int × Bool))) × Bool) :=
  (x0.bind fun v0 => ((gmk (lenI v0.1.2.2.2.1) []).bind fun v1 => ((iter (sort_line_swung_L0 x0 x1) (0, v1)).bind fun v25 => (match v25 with | .inl v26 => (some v26) | .inr v27 => (some (v27, true))))))

def sort_read_L0 (x0 : (List Int)) (v0 : (Int × (Arr 16 Int))) : Option ((Int × (Arr 16 Int)) ⊕ (Arr 16 Int)) :=
  (if (decide (v0.1 < (lenI x0))) = true then ((gi x0 v0.1).bind fun v1 => (if (decide (0 ≤ v1)) = true then ((garr v0.2 v1).bind fun v2 => ((garr v0.2 v1).bind fun v3 => ((garr v0.2 v1).bind fun v4 => (some (.inl ((w64 (v0.1 + 1)), (aset v0.2 v1 (w64 (v3 + 1))))))))) else (some (.inl ((w64 (v0.1 + 1)), v0.2))))) else (some (.inr v0.2)))

def sort_read_L1 (v5 : (Arr 16 Int)) (v6 : (Int × Int × Int)) : Option ((Int × Int × Int) ⊕ Int) :=
  (if (decide (v6.1 < 16)) = true then ((garr v5 v6.1).bind fun v7 => (if (decide (v6.2.1 < v7)) = true then (some (.inl ((w64 (v6.1 + 1)), v7, v6.1))) else (if (v7 == v6.2.1) = true then (some (.inl ((w64 (v6.1 + 1)), v6.2.1, (-1)))) else (some (.inl ((w64 (v6.1 + 1)), v6.2)))))) else (some (.inr v6.2.2)))

def sort_read (x0 : (List Int)) : Option Int :=
  ((iter (sort_read_L0 x0) (0, (amk 16 0))).bind fun v5 => ((iter (sort_read_L1 v5) (0, 0, (-1))).bind fun v8 => (some v8)))

def sort_Run_L2 (v1 : ((List (List (Int × Int × Bool))) × Bool)) (v3 : Fed) (v5 : (Int × Int × Int × Int)) (v6 : (Int × Int)) (v7 : Int) : Option (Int ⊕ Int) :=
  ((gi v1.1 v5.1).bind fun v8 => (if (decide (v7 < (lenI v8))) = true then ((gi v1.1 v5.1).bind fun v9 => ((gi v9 v7).bind fun v10 => (if (decide (v10.1 ≤ (w64 (v3.1 + v6.1)))) = true then (some (.inl (w64 (v7 + 1)))) else (some (.inr v7))))) else (some (.inr v7))))

def sort_Run_L1 (x0 : Belt) (v1 : ((List (List (Int × Int × Bool))) × Bool)) (v3 : Fed) (v5 : (Int × Int × Int × Int)) : Option ((Int × Int × Int × Int) ⊕ (((List (Int × Int × Int)) × Int) ⊕ (Int × Int × Int))) :=
  (if (decide (v5.1 < (lenI x0.2.2.2.1))) = true then ((gi x0.2.2.2.1 v5.1).bind fun v6 => ((iter (sort_Run_L2 v1 v3 v5 v6) 0).bind fun v11 => ((if (decide (0 < v11)) = true then ((gi v1.1 v5.1).bind fun v12 => ((gi v12 (w64 (v11 - 1))).bind fun v13 => ((sort_after (w64 (v3.1 + v6.1)) v13.1 x0.2.2.1).bind fun v14 => (some (!v14))))) else (some false)).bind fun v15 => (if v15 = true then (some (.inr (.inl ([], 92)))) else ((grem v11 2).bind fun v16 => (if (v16 == 1) = true then (some (.inr (.inr (v5.2.1, v6.2, (w64 (v3.1 + v6.1)))))) else (some (.inl ((w64 (v5.1 + 1)), v5.2))))))))) else (some (.inr (.inr v5.2))))

def sort_Run_L0 (x0 : Belt) (x1 : (List Fed)) (v1 : ((List (List (Int × Int × Bool))) × Bool)) (v2 : (Int × (List (Int × Int × Int)))) : Option ((Int × (List (Int × Int × Int))) ⊕ (((List (Int × Int × Int)) × Int) ⊕ (List (Int × Int × Int)))) :=
  (if (decide (v2.1 < (lenI x1))) = true then ((gi x1 v2.1).bind fun v3 => ((sort_read v3.2.2).bind fun v4 => ((iter (sort_Run_L1 x0 v1 v3) (0, v4, (-1), (w64 (v3.1 + x0.1)))).bind fun v17 => (match v17 with | .inl v18 => (some (.inr (.inl v18))) | .inr v19 => ((gapp v2.2 [v19]).bind fun v20 => (some (.inl ((w64 (v2.1 + 1)), v20)))))))) else (some (.inr (.inr v2.2))))

def sort_Run (x0 : Belt) (x1 : (List Fed)) (x2 : (List (Int × Int × Bool))) : Option ((List (Int × Int × Int)) × Int) :=
  ((sort_lay x0 x1).bind fun v0 => (if (v0.2 != 0) = true then (some ([], v0.2)) else ((sort_line_swung v0.1 x2).bind fun v1 => (if (!v1.2) = true then (some ([], 8)) else ((iter (sort_Run_L0 x0 x1 v1) (0, [])).bind fun v21 => (match v21 with | .inl v22 => (some v22) | .inr v23 => (some (v23, 0))))))))

def ref09_within (x0 : Int) (x1 : Int) (x2 : Int) : Option Bool :=
  (if (decide (x1 ≤ x0)) = true then (some (decide (x0 ≤ x2))) else (some false))

def ref09_Leads_L0 (x0 : Belt) (x1 : Int) (v0 : Int) : Option (Int ⊕ (Int ⊕ Unit)) :=
  (if (decide (v0 < (lenI x0.2.2.2.1))) = true then ((gi x0.2.2.2.1 v0).bind fun v1 => (if (v1.2 == x1) = true then (some (.inr (.inl v0))) else (some (.inl (w64 (v0 + 1)))))) else (some (.inr (.inr ()))))

def ref09_Leads (x0 : Belt) (x1 : Int) : Option Int :=
  ((iter (ref09_Leads_L0 x0 x1) 0).bind fun v2 => (match v2 with | .inl v3 => (some v3) | .inr v4 => (some (-1))))

def ref09_Belt_L0 (x0 : Belt) (v3 : Int) : Option (Int ⊕ (Bool ⊕ Unit)) :=
  (if (decide (v3 < (lenI x0.2.2.2.1))) = true then ((gi x0.2.2.2.1 v3).bind fun v4 => ((ref09_within v4.1 (w64 (x0.2.1 + 1)) (w64 (x0.1 - 1))).bind fun v5 => (if (!v5) = true then (some (.inr (.inl false))) else (if (decide (0 < v3)) = true then ((gi x0.2.2.2.1 (w64 (v3 - 1))).bind fun v6 => (if (decide (v4.1 ≤ v6.1)) = true then (some (.inr (.inl false))) else ((ref09_within v4.2 0 7).bind fun v7 => (if (!v7) = true then (some (.inr (.inl false))) else ((ref09_Leads x0 v4.2).bind fun v8 => (if (v8 != v3) = true then (some (.inr (.inl false))) else (some (.inl (w64 (v3 + 1)))))))))) else ((ref09_within v4.2 0 7).bind fun v9 => (if (!v9) = true then (some (.inr (.inl false))) else ((ref09_Leads x0 v4.2).bind fun v10 => (if (v10 != v3) = true then (some (.inr (.inl false))) else (some (.inl (w64 (v3 + 1)))))))))))) else (some (.inr (.inr ()))))

def ref09_Belt_L1 (x0 : Belt) (v14 : Int) : Option (Int ⊕ (Bool ⊕ Unit)) :=
  (if (decide (v14 < 16)) = true then ((gi x0.2.2.2.2 v14).bind fun v15 => ((ref09_within v15 (-1) 7).bind fun v16 => (if (!v16) = true then (some (.inr (.inl false))) else (some (.inl (w64 (v14 + 1))))))) else (some (.inr (.inr ()))))

def ref09_Belt (x0 : Belt) : Option Bool :=
  ((ref09_within x0.1 2 100).bind fun v0 => (if (!v0) = true then (some false) else ((ref09_within x0.2.1 0 (w64 (x0.1 - 2))).bind fun v1 => (if (!v1) = true then (some false) else ((ref09_within x0.2.2.1 0 10).bind fun v2 => (if (!v2) = true then (some false) else (if (decide (8 < (lenI x0.2.2.2.1))) = true then (some false) else (if ((lenI x0.2.2.2.2) != 16) = true then (some false) else ((iter (ref09_Belt_L0 x0) 0).bind fun v11 => (match v11 with | .inl v12 => (some v12) | .inr v13 => ((iter (ref09_Belt_L1 x0) 0).bind fun v17 => (match v17 with | .inl v18 => (some v18) | .inr v19 => (some true)))))))))))))

def ref09_Said_L0 (x0 : (List Int)) (v1 : Int) : Option (Int ⊕ (Bool ⊕ Unit)) :=
  (if (decide (v1 < (lenI x0))) = true then ((gi x0 v1).bind fun v2 => ((ref09_within v2 (-1) 15).bind fun v3 => (if (!v3) = true then (some (.inr (.inl false))) else (some (.inl (w64 (v1 + 1))))))) else (some (.inr (.inr ()))))

def ref09_Said (x0 : (List Int)) : Option Bool :=
  ((ref09_within (lenI x0) 1 9).bind fun v0 => (if (!v0) = true then (some false) else ((iter (ref09_Said_L0 x0) 0).bind fun v4 => (match v4 with | .inl v5 => (some v5) | .inr v6 => (some true)))))

def ref09_Parts_L0 (x0 : (List Fed)) (v0 : Int) : Option (Int ⊕ (Bool ⊕ Unit)) :=
  (if (decide (v0 < (lenI x0))) = true then ((gi x0 v0).bind fun v1 => ((ref09_within v1.1 0 1000).bind fun v2 => (if (!v2) = true then (some (.inr (.inl false))) else (if (decide (0 < v0)) = true then ((gi x0 (w64 (v0 - 1))).bind fun v3 => (if (decide (v1.1 ≤ v3.1)) = true then (some (.inr (.inl false))) else ((ref09_within v1.2.1 0 15).bind fun v4 => (if (!v4) = true then (some (.inr (.inl false))) else ((ref09_Said v1.2.2).bind fun v5 => (if (!v5) = true then (some (.inr (.inl false))) else (some (.inl (w64 (v0 + 1)))))))))) else ((ref09_within v1.2.1 0 15).bind fun v6 => (if (!v6) = true then (some (.inr (.inl false))) else ((ref09_Said v1.2.2).bind fun v7 => (if (!v7) = true then (some (.inr (.inl false))) else (some (.inl (w64 (v0 + 1)))))))))))) else (some (.inr (.inr ()))))

def ref09_Parts (x0 : (List Fed)) : Option Bool :=
  (if (decide (40 < (lenI x0))) = true then (some false) else ((iter (ref09_Parts_L0 x0) 0).bind fun v8 => (match v8 with | .inl v9 => (some v9) | .inr v10 => (some true))))

def ref09_CheckFed (x0 : (List Fed)) : Option Int :=
  ((ref09_Parts x0).bind fun v0 => (if (!v0) = true then (some 91) else (some 0)))

def ref09_asked (x0 : Belt) (x1 : (List Fed)) : Option Int :=
  ((ref09_Belt x0).bind fun v0 => (if (!v0) = true then (some 90) else ((ref09_CheckFed x1).bind fun v1 => (some v1))))

def ref09_inOrder (x0 : (Int × Int × Bool)) (x1 : (Int × Int × Bool)) : Option Bool :=
  (if (decide (x0.1 < x1.1)) = true then (some true) else (if (x0.1 == x1.1) = true then (some (decide (x0.2.1 < x1.2.1))) else (some false)))

def ref09_before (x0 : Int) (x1 : Int) (x2 : Int) : Option Bool :=
  (some (decide ((IntKind.wrap .u64 ((IntKind.wrap .u64 x0) - (IntKind.wrap .u64 x1))) < (IntKind.wrap .u64 x2))))

def ref09_Swung_L1 (x1 : (List (Int × Int × Bool))) (v0 : Int) (v7 : Int) : Option (Int ⊕ Int) :=
  (if (decide (0 ≤ v7)) = true then ((gi x1 v7).bind fun v8 => ((gi x1 v0).bind fun v9 => (if (v8.2.1 != v9.2.1) = true then (some (.inl (w64 (v7 - 1)))) else (some (.inr v7))))) else (some (.inr v7)))

def ref09_Swung_L0 (x0 : Belt) (x1 : (List (Int × Int × Bool))) (v0 : Int) : Option (Int ⊕ (Bool ⊕ Unit)) :=
  (if (decide (v0 < (lenI x1))) = true then (((gi x1 v0).bind fun v1 => ((ref09_within v1.2.1 0 (w64 ((lenI x0.2.2.2.1) - 1))).bind fun v2 => (if (!v2) = true then (some true) else (if (decide (0 < v0)) = true then ((gi x1 (w64 (v0 - 1))).bind fun v3 => ((gi x1 v0).bind fun v4 => ((ref09_inOrder v3 v4).bind fun v5 => (some (!v5))))) else (some false))))).bind fun v6 => (if v6 = true then (some (.inr (.inl false))) else ((iter (ref09_Swung_L1 x1 v0) (w64 (v0 - 1))).bind fun v10 => (if (decide (v10 < 0)) = true then ((gi x1 v0).bind fun v11 => (if (!v11.2.2) = true then (some (.inr (.inl false))) else (if (decide (0 ≤ v10)) = true then ((gi x1 v10).bind fun v12 => ((gi x1 v0).bind fun v13 => (if (v12.2.2 == v13.2.2) = true then (some (.inr (.inl false))) else ((gi x1 v0).bind fun v14 => ((gi x1 v10).bind fun v15 => ((ref09_before v14.1 v15.1 (imax x0.2.2.1 1)).bind fun v16 => (if v16 = true then (some (.inr (.inl false))) else (some (.inl (w64 (v0 + 1))))))))))) else (some (.inl (w64 (v0 + 1))))))) else (if (decide (0 ≤ v10)) = true then ((gi x1 v10).bind fun v17 => ((gi x1 v0).bind fun v18 => (if (v17.2.2 == v18.2.2) = true then (some (.inr (.inl false))) else ((gi x1 v0).bind fun v19 => ((gi x1 v10).bind fun v20 => ((ref09_before v19.1 v20.1 (imax x0.2.2.1 1)).bind fun v21 => (if v21 = true then (some (.inr (.inl false))) else (some (.inl (w64 (v0 + 1))))))))))) else (some (.inl (w64 (v0 + 1))))))))) else (some (.inr (.inr ()))))

def ref09_Swung (x0 : Belt) (x1 : (List (Int × Int × Bool))) : Option Bool :=
  ((iter (ref09_Swung_L0 x0 x1) 0).bind fun v22 => (match v22 with | .inl v23 => (some v23) | .inr v24 => (some true)))

def ref09_votes_L0 (x0 : (List Int)) (x1 : Int) (v0 : (Int × Int)) : Option ((Int × Int) ⊕ Int) :=
  (if (decide (v0.1 < (lenI x0))) = true then ((gi x0 v0.1).bind fun v1 => (if (v1 == x1) = true then (some (.inl ((w64 (v0.1 + 1)), (w64 (v0.2 + 1))))) else (some (.inl ((w64 (v0.1 + 1)), v0.2))))) else (some (.inr v0.2)))

def ref09_votes (x0 : (List Int)) (x1 : Int) : Option Int :=
  ((iter (ref09_votes_L0 x0 x1) (0, 0)).bind fun v2 => (some v2))

def ref09_Seen_L0 (x0 : (List Int)) (v0 : (Int × Int × Int × Bool)) : Option ((Int × Int × Int × Bool) ⊕ (Int × Bool × Int)) :=
  (if (decide (v0.1 < 16)) = true then ((ref09_votes x0 v0.1).bind fun v1 => (if (decide (v0.2.1 < v1)) = true then (some (.inl ((w64 (v0.1 + 1)), v1, v0.1, false))) else (if (v1 == v0.2.1) = true then (some (.inl ((w64 (v0.1 + 1)), v0.2.1, v0.2.2.1, true))) else (some (.inl ((w64 (v0.1 + 1)), v0.2)))))) else (some (.inr (v0.2.1, v0.2.2.2, v0.2.2.1))))

def ref09_Seen (x0 : (List Int)) : Option Int :=
  ((iter (ref09_Seen_L0 x0) (0, 0, (-1), false)).bind fun v2 => (if (v2.1 == 0) = true then (some (-1)) else (if v2.2.1 = true then (some (-1)) else (some v2.2.2))))

def ref09_passes_L0 (x0 : Belt) (x1 : (List (Int × Int × Bool))) (x2 : Int) (x3 : Int) (v0 : (Int × Bool)) : Option ((Int × Bool) ⊕ ((Bool × Bool) ⊕ Bool)) :=
  (if (decide (v0.1 < (lenI x1))) = true then ((gi x1 v0.1).bind fun v1 => (if (v1.2.1 != x2) = true then (some (.inl ((w64 (v0.1 + 1)), v0.2))) else ((gi x1 v0.1).bind fun v2 => (if (decide (x3 < v2.1)) = true then (some (.inl ((w64 (v0.1 + 1)), v0.2))) else ((gi x1 v0.1).bind fun v3 => ((ref09_before x3 v3.1 x0.2.2.1).bind fun v4 => (if v4 = true then (some (.inr (.inl (true, v0.2)))) else ((gi x1 v0.1).bind fun v5 => (some (.inl ((w64 (v0.1 + 1)), v5.2.2))))))))))) else (some (.inr (.inr v0.2))))

def ref09_passes (x0 : Belt) (x1 : (List (Int × Int × Bool))) (x2 : Int) (x3 : Int) : Option (Bool × Bool) :=
  ((iter (ref09_passes_L0 x0 x1 x2 x3) (0, false)).bind fun v6 => (match v6 with | .inl v7 => (some v7) | .inr v8 => (some (false, v8))))

def ref09_Run_L1 (x0 : Belt) (x1 : (List Fed)) (x2 : (List (Int × Int × Bool))) (v2 : (Int × (List (Int × Int × Int)))) (v6 : (Int × Int × Int × Int)) : Option ((Int × Int × Int × Int) ⊕ (((List (Int × Int × Int)) × Int) ⊕ (Int × Int × Int))) :=
  (if (decide (v6.1 < (lenI x0.2.2.2.1))) = true then (if (decide (v6.2.2.1 < 0)) = true then ((gi x1 v2.1).bind fun v7 => ((gi x0.2.2.2.1 v6.1).bind fun v8 => ((ref09_passes x0 x2 v6.1 (w64 (v7.1 + v8.1))).bind fun v9 => (if v9.1 = true then (some (.inr (.inl ([], 92)))) else (if v9.2 = true then ((gi x0.2.2.2.1 v6.1).bind fun v10 => (some (.inl ((w64 (v6.1 + 1)), v6.2.1, v10.2, (w64 (v7.1 + v8.1)))))) else (some (.inl ((w64 (v6.1 + 1)), v6.2)))))))) else (some (.inr (.inr v6.2)))) else (some (.inr (.inr v6.2))))

def ref09_Run_L0 (x0 : Belt) (x1 : (List Fed)) (x2 : (List (Int × Int × Bool))) (v2 : (Int × (List (Int × Int × Int)))) : Option ((Int × (List (Int × Int × Int))) ⊕ (((List (Int × Int × Int)) × Int) ⊕ (List (Int × Int × Int)))) :=
  (if (decide (v2.1 < (lenI x1))) = true then ((gi x1 v2.1).bind fun v3 => ((ref09_Seen v3.2.2).bind fun v4 => ((gi x1 v2.1).bind fun v5 => ((iter (ref09_Run_L1 x0 x1 x2 v2) (0, v4, (-1), (w64 (v5.1 + x0.1)))).bind fun v11 => (match v11 with | .inl v12 => (some (.inr (.inl v12))) | .inr v13 => ((gapp v2.2 [v13]).bind fun v14 => (some (.inl ((w64 (v2.1 + 1)), v14))))))))) else (some (.inr (.inr v2.2))))

def ref09_Run (x0 : Belt) (x1 : (List Fed)) (x2 : (List (Int × Int × Bool))) : Option ((List (Int × Int × Int)) × Int) :=
  ((ref09_asked x0 x1).bind fun v0 => (if (v0 != 0) = true then (some ([], v0)) else ((ref09_Swung x0 x2).bind fun v1 => (if (!v1) = true then (some ([], 8)) else ((iter (ref09_Run_L0 x0 x1 x2) (0, [])).bind fun v15 => (match v15 with | .inl v16 => (some v16) | .inr v17 => (some (v17, 0))))))))

def ref09_SameFates_L0 (x0 : (List (Int × Int × Int))) (x1 : (List (Int × Int × Int))) (v0 : Int) : Option (Int ⊕ (Bool ⊕ Unit)) :=
  (if (decide (v0 < (lenI x0))) = true then ((gi x0 v0).bind fun v1 => ((gi x1 v0).bind fun v2 => (if (!((v1.1 == v2.1) && ((v1.2.1 == v2.2.1) && (v1.2.2 == v2.2.2)))) = true then (some (.inr (.inl false))) else (some (.inl (w64 (v0 + 1))))))) else (some (.inr (.inr ()))))

def ref09_SameFates (x0 : (List (Int × Int × Int))) (x1 : (List (Int × Int × Int))) : Option Bool :=
  (if ((lenI x0) != (lenI x1)) = true then (some false) else ((iter (ref09_SameFates_L0 x0 x1) 0).bind fun v3 => (match v3 with | .inl v4 => (some v4) | .inr v5 => (some true))))

def law09_SortRuns (x0 : Belt) (x1 : (List Fed)) (x2 : (List (Int × Int × Bool))) : Option Bool :=
  ((ref09_Great x0 x1).bind fun v0 => (if v0 = true then (some true) else (if (decide (100 < (lenI x2))) = true then (some true) else ((sort_Run x0 x1 x2).bind fun v1 => ((ref09_Run x0 x1 x2).bind fun v2 => ((ref09_SameFates v1.1 v2.1).bind fun v3 => (if v3 = true then (some (v1.2 == v2.2)) else (some false))))))))


end Go.Abs

/- Each function does as its Lean function says. -/
set_option linter.unusedVariables false
set_option maxRecDepth 100000
namespace Go.Abs
open Go Go.Proofs
def famH_C : Ctr := ⟨"", [], [], fun _ => none, []⟩
theorem famH_C_ok {g : FuncId} : Good Try.prog g famH_C := good_dm
def ref09_Great_C : Ctr := ⟨"", [tBelt, (.sl tFed)], [.b], fun x => ref09_Great x.1 x.2, []⟩
theorem ref09_Great_C_ok : Good Try.prog 15 ref09_Great_C :=
  good_of Try.func15 (by kernel_rfl) (An := [(0, ⟨⟨[(5, .c (.i .i64))], []⟩, ⟨[], []⟩, [1], [], 1, true, ""⟩)]) [] (.nil) (fun x => by kernel_rfl)

def sort_from_c1_C : Ctr := ⟨"", [(.i .i64), (.pt (.i .i64)), (.pt (.i .i64))], [.b], fun x => sort_from_c1 x.1 x.2.1 x.2.2, []⟩
theorem sort_from_c1_C_ok : Good Try.prog 82 sort_from_c1_C :=
  good_of Try.func82 (by kernel_rfl) (An := []) [] (.nil) (fun x => by kernel_rfl)

def slices_IndexFunc_s_int_int_C : Ctr := ⟨"", [(.sl (.i .i64)), (.fn 1 (.i .i64) .b)], [(.i .i64)], fun x => slices_IndexFunc_s_int_int x.1 x.2, []⟩
theorem slices_IndexFunc_s_int_int_C_ok : Good Try.prog 93 slices_IndexFunc_s_int_int_C :=
  good_of Try.func93 (by kernel_rfl) (An := [(0, ⟨⟨[(8, .c (.i .i64))], []⟩, ⟨[], []⟩, [7, 1, 0], [], 0, true, ""⟩)]) [] (.nil) (fun x => by kernel_rfl)

def slices_ContainsFunc_s_int_int_C : Ctr := ⟨"", [(.sl (.i .i64)), (.fn 1 (.i .i64) .b)], [.b], fun x => slices_ContainsFunc_s_int_int x.1 x.2, []⟩
theorem slices_ContainsFunc_s_int_int_C_ok : Good Try.prog 81 slices_ContainsFunc_s_int_int_C :=
  good_of Try.func81 (by kernel_rfl) (An := []) [(93, slices_IndexFunc_s_int_int_C)] (.cons slices_IndexFunc_s_int_int_C_ok <| .nil) (fun x => by kernel_rfl)

def sort_from_C : Ctr := ⟨"", [(.i .i64), (.i .i64), (.sl (.i .i64))], [.b], fun x => sort_from x.1 x.2.1 x.2.2, []⟩
theorem sort_from_C_ok : Good Try.prog 54 sort_from_C :=
  good_of Try.func54 (by kernel_rfl) (An := []) [(81, slices_ContainsFunc_s_int_int_C), (82, sort_from_c1_C)] (.cons slices_ContainsFunc_s_int_int_C_ok <| .cons sort_from_c1_C_ok <| .nil) (fun x => by kernel_rfl)

def sort_CheckBelt_C : Ctr := ⟨"", [tBelt], [(.i .i64)], fun x => sort_CheckBelt x, []⟩
theorem sort_CheckBelt_C_ok : Good Try.prog 18 sort_CheckBelt_C :=
  good_of Try.func18 (by kernel_rfl) (An := [(0, ⟨⟨[(52, .c (.i .i64)), (3, .c (.i .i64)), (4, .mp 4)], [(4, .mp (.i .i64) .b)]⟩, ⟨[], []⟩, [51, 50, 1], [0], 5, true, ""⟩)]) [(54, sort_from_C)] (.cons sort_from_C_ok <| .nil) (fun x => by kernel_rfl)

def sort_said_C : Ctr := ⟨"", [(.sl (.i .i64))], [.b], fun x => sort_said x, []⟩
theorem sort_said_C_ok : Good Try.prog 50 sort_said_C :=
  good_of Try.func50 (by kernel_rfl) (An := []) [(54, sort_from_C)] (.cons sort_from_C_ok <| .nil) (fun x => by kernel_rfl)

def sort_CheckFed_C : Ctr := ⟨"", [(.sl tFed)], [(.i .i64)], fun x => sort_CheckFed x, []⟩
theorem sort_CheckFed_C_ok : Good Try.prog 20 sort_CheckFed_C :=
  good_of Try.func20 (by kernel_rfl) (An := [(0, ⟨⟨[(11, .c (.i .i64)), (3, .c (.i .i64))], []⟩, ⟨[], []⟩, [10, 9], [], 0, true, ""⟩)]) [(50, sort_said_C), (54, sort_from_C)] (.cons sort_said_C_ok <| .cons sort_from_C_ok <| .nil) (fun x => by kernel_rfl)

def sort_lay_C : Ctr := ⟨"", [tBelt, (.sl tFed)], [(.op tLine), (.i .i64)], fun x => sort_lay x.1 x.2, []⟩
theorem sort_lay_C_ok : Good Try.prog 59 sort_lay_C :=
  good_of Try.func59 (by kernel_rfl) (An := [(41, ⟨⟨[], []⟩, ⟨[(6, .c (.i .i64))], []⟩, [1, 2], [0], 1, false, ""⟩)]) [(20, sort_CheckFed_C), (18, sort_CheckBelt_C)] (.cons sort_CheckFed_C_ok <| .cons sort_CheckBelt_C_ok <| .nil) (fun x => by kernel_rfl)

def cmp_isNaN_int_C : Ctr := ⟨"", [(.i .i64)], [.b], fun x => cmp_isNaN_int x, []⟩
theorem cmp_isNaN_int_C_ok : Good Try.prog 99 cmp_isNaN_int_C :=
  good_of Try.func99 (by kernel_rfl) (An := []) [] (.nil) (fun x => by kernel_rfl)

def cmp_Compare_int_C : Ctr := ⟨"", [(.i .i64), (.i .i64)], [(.i .i64)], fun x => cmp_Compare_int x.1 x.2, []⟩
theorem cmp_Compare_int_C_ok : Good Try.prog 92 cmp_Compare_int_C :=
  good_of Try.func92 (by kernel_rfl) (An := []) [(99, cmp_isNaN_int_C)] (.cons cmp_isNaN_int_C_ok <| .nil) (fun x => by kernel_rfl)

def cmp_Or_int_C : Ctr := ⟨"", [(.sl (.i .i64))], [(.i .i64)], fun x => cmp_Or_int x, []⟩
theorem cmp_Or_int_C_ok : Good Try.prog 67 cmp_Or_int_C :=
  good_of Try.func67 (by kernel_rfl) (An := [(0, ⟨⟨[(8, .c (.i .i64))], []⟩, ⟨[], []⟩, [7, 6, 3], [], 0, true, ""⟩)]) [] (.nil) (fun x => by kernel_rfl)

def sort_order_C : Ctr := ⟨"", [(.pr (.i .i64) (.pr (.i .i64) .b)), (.pr (.i .i64) (.pr (.i .i64) .b))], [(.i .i64)], fun x => sort_order x.1 x.2, []⟩
theorem sort_order_C_ok : Good Try.prog 73 sort_order_C :=
  good_of Try.func73 (by kernel_rfl) (An := []) [(67, cmp_Or_int_C), (92, cmp_Compare_int_C)] (.cons cmp_Or_int_C_ok <| .cons cmp_Compare_int_C_ok <| .nil) (fun x => by kernel_rfl)

def sort_after_C : Ctr := ⟨"", [(.i .i64), (.i .i64), (.i .i64)], [.b], fun x => sort_after x.1 x.2.1 x.2.2, []⟩
theorem sort_after_C_ok : Good Try.prog 61 sort_after_C :=
  good_of Try.func61 (by kernel_rfl) (An := []) [] (.nil) (fun x => by kernel_rfl)

def sort_line_swung_C : Ctr := ⟨"", [(.op tLine), (.sl (.pr (.i .i64) (.pr (.i .i64) .b)))], [(.sl (.sl (.pr (.i .i64) (.pr (.i .i64) .b)))), .b], fun x => sort_line_swung x.1 x.2, []⟩
theorem sort_line_swung_C_ok : Good Try.prog 60 sort_line_swung_C :=
  good_of Try.func60 (by kernel_rfl) (An := [(0, ⟨⟨[(20, .c (.i .i64)), (6, .fw 1)], [(1, .fm 56 (.sl (.pr (.i .i64) (.pr (.i .i64) .b))) 0 107 (.pr (.i .i64) (.pr (.i .i64) .b)))]⟩, ⟨[(6, .fw 2)], [(2, .fm 56 (.sl (.pr (.i .i64) (.pr (.i .i64) .b))) 0 107 (.pr (.i .i64) (.pr (.i .i64) .b)))]⟩, [19, 18, 0, 1], [], 3, true, ""⟩), (22, ⟨⟨[], []⟩, ⟨[(50, .c .b)], []⟩, [8, 7, 6, 20], [2, 1], 3, false, ""⟩), (38, ⟨⟨[], []⟩, ⟨[(85, .c .b)], []⟩, [8, 10, 9, 6, 20], [2, 1], 3, false, ""⟩), (47, ⟨⟨[], []⟩, ⟨[], []⟩, [2], [2], 0, false, ""⟩)]) [(5000056, famH_C), (61, sort_after_C), (73, sort_order_C), (54, sort_from_C)] (.cons famH_C_ok <| .cons sort_after_C_ok <| .cons sort_order_C_ok <| .cons sort_from_C_ok <| .nil) (fun x => by kernel_rfl)

def sort_read_C : Ctr := ⟨"", [(.sl (.i .i64))], [(.i .i64)], fun x => sort_read x, []⟩
theorem sort_read_C_ok : Good Try.prog 51 sort_read_C :=
  good_of Try.func51 (by kernel_rfl) (An := [(0, ⟨⟨[(12, .c (.i .i64)), (3, .ptr 0 0)], [(0, .el 130 (.ar 16 (.i .i64)))]⟩, ⟨[(3, .ptr 1 0)], [(1, .el 130 (.ar 16 (.i .i64)))]⟩, [11, 10], [], 2, false, ""⟩), (8, ⟨⟨[(25, .c (.i .i64)), (7, .c (.i .i64)), (6, .c (.i .i64))], []⟩, ⟨[(6, .c (.i .i64))], []⟩, [24], [], 2, false, ""⟩)]) [] (.nil) (fun x => by kernel_rfl)

def sort_Run_C : Ctr := ⟨"", [tBelt, (.sl tFed), (.sl (.pr (.i .i64) (.pr (.i .i64) .b)))], [(.sl (.pr (.i .i64) (.pr (.i .i64) (.i .i64)))), (.i .i64)], fun x => sort_Run x.1 x.2.1 x.2.2, []⟩
theorem sort_Run_C_ok : Good Try.prog 31 sort_Run_C :=
  good_of Try.func31 (by kernel_rfl) (An := [(0, ⟨⟨[(39, .c (.i .i64)), (12, .mw 2)], [(2, .sl 86 (.pr (.i .i64) (.pr (.i .i64) (.i .i64))))]⟩, ⟨[(12, .mw 3)], [(3, .sl 86 (.pr (.i .i64) (.pr (.i .i64) (.i .i64))))]⟩, [38, 37, 3, 10], [0], 4, true, ""⟩), (47, ⟨⟨[], []⟩, ⟨[], []⟩, [0, 4, 3, 2], [0, 4, 3, 2], 0, false, ""⟩), (8, ⟨⟨[(55, .c (.i .i64)), (15, .ptr 5 0)], [(5, .bx 86 [.c (.i .i64), .c (.i .i64), .c (.i .i64)])]⟩, ⟨[(15, .ptr 6 0)], [(6, .bx 86 [.c (.i .i64), .c (.i .i64), .c (.i .i64)])]⟩, [54, 53, 14, 12, 39], [4, 2], 7, true, ""⟩), (16, ⟨⟨[(19, .c (.i .i64))], []⟩, ⟨[(19, .c (.i .i64))], []⟩, [16, 18, 17, 15, 55], [6, 5], 7, false, ""⟩), (78, ⟨⟨[], []⟩, ⟨[(103, .c .b)], []⟩, [19, 18, 16, 17, 15, 55], [6, 5], 7, false, ""⟩)]) [(51, sort_read_C), (60, sort_line_swung_C), (61, sort_after_C), (59, sort_lay_C)] (.cons sort_read_C_ok <| .cons sort_line_swung_C_ok <| .cons sort_after_C_ok <| .cons sort_lay_C_ok <| .nil) (fun x => by kernel_rfl)

def ref09_within_C : Ctr := ⟨"", [(.i .i64), (.i .i64), (.i .i64)], [.b], fun x => ref09_within x.1 x.2.1 x.2.2, []⟩
theorem ref09_within_C_ok : Good Try.prog 57 ref09_within_C :=
  good_of Try.func57 (by kernel_rfl) (An := []) [] (.nil) (fun x => by kernel_rfl)

def ref09_Leads_C : Ctr := ⟨"", [tBelt, (.i .i64)], [(.i .i64)], fun x => ref09_Leads x.1 x.2, []⟩
theorem ref09_Leads_C_ok : Good Try.prog 48 ref09_Leads_C :=
  good_of Try.func48 (by kernel_rfl) (An := [(0, ⟨⟨[(5, .c (.i .i64))], []⟩, ⟨[], []⟩, [2, 1], [0], 1, true, ""⟩)]) [] (.nil) (fun x => by kernel_rfl)

def ref09_Belt_C : Ctr := ⟨"", [tBelt], [.b], fun x => ref09_Belt x, []⟩
theorem ref09_Belt_C_ok : Good Try.prog 46 ref09_Belt_C :=
  good_of Try.func46 (by kernel_rfl) (An := [(0, ⟨⟨[(3, .c (.i .i64))], []⟩, ⟨[], []⟩, [1], [0], 1, true, ""⟩), (8, ⟨⟨[(5, .c (.i .i64))], []⟩, ⟨[], []⟩, [1], [0], 1, true, ""⟩)]) [(48, ref09_Leads_C), (57, ref09_within_C)] (.cons ref09_Leads_C_ok <| .cons ref09_within_C_ok <| .nil) (fun x => by kernel_rfl)

def ref09_Said_C : Ctr := ⟨"", [(.sl (.i .i64))], [.b], fun x => ref09_Said x, []⟩
theorem ref09_Said_C_ok : Good Try.prog 52 ref09_Said_C :=
  good_of Try.func52 (by kernel_rfl) (An := [(0, ⟨⟨[(3, .c (.i .i64))], []⟩, ⟨[], []⟩, [0], [], 0, true, ""⟩)]) [(57, ref09_within_C)] (.cons ref09_within_C_ok <| .nil) (fun x => by kernel_rfl)

def ref09_Parts_C : Ctr := ⟨"", [(.sl tFed)], [.b], fun x => ref09_Parts x, []⟩
theorem ref09_Parts_C_ok : Good Try.prog 47 ref09_Parts_C :=
  good_of Try.func47 (by kernel_rfl) (An := [(0, ⟨⟨[(3, .c (.i .i64))], []⟩, ⟨[], []⟩, [0], [], 0, true, ""⟩)]) [(52, ref09_Said_C), (57, ref09_within_C)] (.cons ref09_Said_C_ok <| .cons ref09_within_C_ok <| .nil) (fun x => by kernel_rfl)

def ref09_CheckFed_C : Ctr := ⟨"", [(.sl tFed)], [(.i .i64)], fun x => ref09_CheckFed x, []⟩
theorem ref09_CheckFed_C_ok : Good Try.prog 21 ref09_CheckFed_C :=
  good_of Try.func21 (by kernel_rfl) (An := []) [(47, ref09_Parts_C)] (.cons ref09_Parts_C_ok <| .nil) (fun x => by kernel_rfl)

def ref09_asked_C : Ctr := ⟨"", [tBelt, (.sl tFed)], [(.i .i64)], fun x => ref09_asked x.1 x.2, []⟩
theorem ref09_asked_C_ok : Good Try.prog 62 ref09_asked_C :=
  good_of Try.func62 (by kernel_rfl) (An := []) [(21, ref09_CheckFed_C), (46, ref09_Belt_C)] (.cons ref09_CheckFed_C_ok <| .cons ref09_Belt_C_ok <| .nil) (fun x => by kernel_rfl)

def ref09_inOrder_C : Ctr := ⟨"", [(.pr (.i .i64) (.pr (.i .i64) .b)), (.pr (.i .i64) (.pr (.i .i64) .b))], [.b], fun x => ref09_inOrder x.1 x.2, []⟩
theorem ref09_inOrder_C_ok : Good Try.prog 85 ref09_inOrder_C :=
  good_of Try.func85 (by kernel_rfl) (An := []) [] (.nil) (fun x => by kernel_rfl)

def ref09_before_C : Ctr := ⟨"", [(.i .i64), (.i .i64), (.i .i64)], [.b], fun x => ref09_before x.1 x.2.1 x.2.2, []⟩
theorem ref09_before_C_ok : Good Try.prog 86 ref09_before_C :=
  good_of Try.func86 (by kernel_rfl) (An := []) [] (.nil) (fun x => by kernel_rfl)

def ref09_Swung_C : Ctr := ⟨"", [tBelt, (.sl (.pr (.i .i64) (.pr (.i .i64) .b)))], [.b], fun x => ref09_Swung x.1 x.2, []⟩
theorem ref09_Swung_C_ok : Good Try.prog 63 ref09_Swung_C :=
  good_of Try.func63 (by kernel_rfl) (An := [(0, ⟨⟨[(5, .c (.i .i64))], []⟩, ⟨[], []⟩, [1, 2], [0], 1, true, ""⟩), (18, ⟨⟨[], []⟩, ⟨[(40, .c .b)], []⟩, [5], [], 1, false, ""⟩), (8, ⟨⟨[(6, .c (.i .i64))], []⟩, ⟨[(6, .c (.i .i64))], []⟩, [5], [], 1, false, ""⟩)]) [(86, ref09_before_C), (85, ref09_inOrder_C), (57, ref09_within_C)] (.cons ref09_before_C_ok <| .cons ref09_inOrder_C_ok <| .cons ref09_within_C_ok <| .nil) (fun x => by kernel_rfl)

def ref09_votes_C : Ctr := ⟨"", [(.sl (.i .i64)), (.i .i64)], [(.i .i64)], fun x => ref09_votes x.1 x.2, []⟩
theorem ref09_votes_C_ok : Good Try.prog 80 ref09_votes_C :=
  good_of Try.func80 (by kernel_rfl) (An := [(0, ⟨⟨[(6, .c (.i .i64)), (5, .c (.i .i64))], []⟩, ⟨[(5, .c (.i .i64))], []⟩, [0, 1], [], 0, false, ""⟩)]) [] (.nil) (fun x => by kernel_rfl)

def ref09_Seen_C : Ctr := ⟨"", [(.sl (.i .i64))], [(.i .i64)], fun x => ref09_Seen x, []⟩
theorem ref09_Seen_C_ok : Good Try.prog 53 ref09_Seen_C :=
  good_of Try.func53 (by kernel_rfl) (An := [(0, ⟨⟨[(6, .c (.i .i64)), (4, .c (.i .i64)), (3, .c (.i .i64)), (5, .c .b)], []⟩, ⟨[(4, .c (.i .i64)), (5, .c .b), (3, .c (.i .i64))], []⟩, [0], [], 0, false, ""⟩)]) [(80, ref09_votes_C)] (.cons ref09_votes_C_ok <| .nil) (fun x => by kernel_rfl)

def ref09_passes_C : Ctr := ⟨"", [tBelt, (.sl (.pr (.i .i64) (.pr (.i .i64) .b))), (.i .i64), (.i .i64)], [.b, .b], fun x => ref09_passes x.1 x.2.1 x.2.2.1 x.2.2.2, []⟩
theorem ref09_passes_C_ok : Good Try.prog 64 ref09_passes_C :=
  good_of Try.func64 (by kernel_rfl) (An := [(0, ⟨⟨[(11, .c (.i .i64)), (10, .c .b)], []⟩, ⟨[(10, .c .b)], []⟩, [1, 2, 3, 4], [0], 1, true, ""⟩)]) [(86, ref09_before_C)] (.cons ref09_before_C_ok <| .nil) (fun x => by kernel_rfl)

def ref09_Run_C : Ctr := ⟨"", [tBelt, (.sl tFed), (.sl (.pr (.i .i64) (.pr (.i .i64) .b)))], [(.sl (.pr (.i .i64) (.pr (.i .i64) (.i .i64)))), (.i .i64)], fun x => ref09_Run x.1 x.2.1 x.2.2, []⟩
theorem ref09_Run_C_ok : Good Try.prog 32 ref09_Run_C :=
  good_of Try.func32 (by kernel_rfl) (An := [(0, ⟨⟨[(10, .c (.i .i64)), (9, .mw 2)], [(2, .sl 86 (.pr (.i .i64) (.pr (.i .i64) (.i .i64))))]⟩, ⟨[(9, .mw 3)], [(3, .sl 86 (.pr (.i .i64) (.pr (.i .i64) (.i .i64))))]⟩, [1, 3, 2], [0], 4, true, ""⟩), (43, ⟨⟨[], []⟩, ⟨[], []⟩, [0], [0], 0, false, ""⟩), (8, ⟨⟨[(12, .c (.i .i64)), (11, .ptr 3 0)], [(3, .bx 86 [.c (.i .i64), .c (.i .i64), .c (.i .i64)])]⟩, ⟨[(11, .ptr 4 0)], [(4, .bx 86 [.c (.i .i64), .c (.i .i64), .c (.i .i64)])]⟩, [10, 9], [2], 5, true, ""⟩)]) [(64, ref09_passes_C), (53, ref09_Seen_C), (63, ref09_Swung_C), (62, ref09_asked_C)] (.cons ref09_passes_C_ok <| .cons ref09_Seen_C_ok <| .cons ref09_Swung_C_ok <| .cons ref09_asked_C_ok <| .nil) (fun x => by kernel_rfl)

def ref09_SameFates_C : Ctr := ⟨"", [(.sl (.pr (.i .i64) (.pr (.i .i64) (.i .i64)))), (.sl (.pr (.i .i64) (.pr (.i .i64) (.i .i64))))], [.b], fun x => ref09_SameFates x.1 x.2, []⟩
theorem ref09_SameFates_C_ok : Good Try.prog 33 ref09_SameFates_C :=
  good_of Try.func33 (by kernel_rfl) (An := [(0, ⟨⟨[(5, .c (.i .i64))], []⟩, ⟨[], []⟩, [0, 1], [], 0, true, ""⟩)]) [] (.nil) (fun x => by kernel_rfl)

def law09_SortRuns_C : Ctr := ⟨"", [tBelt, (.sl tFed), (.sl (.pr (.i .i64) (.pr (.i .i64) .b)))], [.b], fun x => law09_SortRuns x.1 x.2.1 x.2.2, []⟩
theorem law09_SortRuns_C_ok : Good Try.prog 5 law09_SortRuns_C :=
  good_of Try.func5 (by kernel_rfl) (An := []) [(33, ref09_SameFates_C), (32, ref09_Run_C), (31, sort_Run_C), (15, ref09_Great_C)] (.cons ref09_SameFates_C_ok <| .cons ref09_Run_C_ok <| .cons sort_Run_C_ok <| .cons ref09_Great_C_ok <| .nil) (fun x => by kernel_rfl)


end Go.Abs

/- Sort: the checks of belts and fed parts, and readings. -/
set_option linter.unusedSimpArgs false
set_option linter.unusedVariables false
namespace Go.Abs
open Go

theorem contains_int (l : List Int) (hl : l.length ≤ 100000) (p : Int → Bool) : slices_ContainsFunc_s_int_int l (fun x => some (p x)) = some (l.any p) := by
  unfold slices_ContainsFunc_s_int_int slices_IndexFunc_s_int_int
  rw [range_iter (F := slices_IndexFunc_s_int_int_L0 l _) l (by omega) (fun i x => if p x then some (i : Int) else none) (fun i hi => by
    unfold slices_IndexFunc_s_int_int_L0
    rw [if_pos (lenI_lt.2 hi), gi_cast hi, w64_add1 (by omega)]
    simp only [Option.bind_some]
    by_cases h : p l[i] = true <;> simp [h, nextL]) (by unfold slices_IndexFunc_s_int_int_L0; rw [if_neg lenI_stop])]
  have : ∀ (l : List Int) (k : Nat), endL ((l.zipIdx k).findSome? fun x => if p x.1 then some (x.2 : Int) else none) = (if l.any p then .inl ((k : Int) + (l.findIdx p : Nat)) else .inr ()) := by
    intro l
    induction l with
    | nil => intro k; rfl
    | cons x l ih =>
      intro k
      rw [List.zipIdx_cons, List.findSome?_cons, List.any_cons, List.findIdx_cons]
      cases hp : p x with
      | true => simp [endL]
      | false =>
        simp only [Bool.false_eq_true, if_false, Bool.false_or, cond_false]
        rw [ih (k + 1)]
        congr 2; push_cast; omega
  rw [this l 0]
  by_cases h : l.any p = true <;> simp [h]
theorem sort_from_eq (lo hi : Int) (l : List Int) (hl : l.length ≤ 100000) : sort_from lo hi l = some (l.all (wi lo hi)) := by
  unfold sort_from
  have e : (fun u0 : Int => (sort_from_c1 u0 lo hi).bind fun u1 => some u1) = fun u => some (!wi lo hi u) := by
    funext u
    unfold sort_from_c1 wi
    by_cases h1 : u < lo <;> by_cases h2 : hi < u <;> simp [h1, h2] <;> omega
  rw [e, contains_int l hl, any_not]
  simp
@[simp] theorem from1 (lo hi n : Int) : sort_from lo hi [n] = some (wi lo hi n) := by rw [sort_from_eq lo hi [n] (by simp)]; simp
@[simp] theorem within_eq (n lo hi : Int) : ref09_within n lo hi = some (wi lo hi n) := by
  unfold ref09_within wi; by_cases h : lo ≤ n <;> simp [h]

/-! readings -/
def saidR (l : List Int) : Bool := wi 1 9 l.length && l.all (wi (-1) 15)
theorem said_eq (l : List Int) (hl : l.length ≤ 100000) : sort_said l = some (saidR l) := by
  unfold sort_said saidR
  rw [sort_from_eq _ _ l hl, from1, lenI_eq]
  by_cases h : wi 1 9 l.length = true <;> simp [h]
theorem Said_eq (l : List Int) (hl : l.length ≤ 100000) : ref09_Said l = some (saidR l) := by
  unfold ref09_Said saidR
  rw [range_any (F := ref09_Said_L0 l) false l (by omega) (fun i x => !wi (-1) 15 x) (fun i hi => by
    unfold ref09_Said_L0
    rw [if_pos (lenI_lt.2 hi), gi_cast hi, w64_add1 (by omega)]
    simp only [Option.bind_some, within_eq]
    by_cases h : wi (-1) 15 l[i] = true <;> simp [h]) (by unfold ref09_Said_L0; rw [if_neg lenI_stop]), zip_any (fun x => !wi (-1) 15 x), any_not]
  simp only [within_eq, Option.bind_some, lenI_eq]
  by_cases h1 : wi 1 9 l.length = true <;> by_cases h3 : l.all (wi (-1) 15) = true <;> simp [h1, h3]
theorem saidR_spec {l : List Int} (h : saidR l = true) : (l.length : Int) ≤ 9 ∧ 0 < l.length ∧ ∀ x ∈ l, -1 ≤ x ∧ x ≤ 15 := by
  simp only [saidR, Bool.and_eq_true, wi_iff, List.all_eq_true] at h
  exact ⟨by omega, by omega, fun x hx => h.2 x hx⟩

/-- how many of a list are such a number -/
def votesF (k : Int) (l : List Int) : Int := (l.countP fun x => x == k : Nat)
theorem votesF_snoc (k x : Int) (l : List Int) : votesF k (l ++ [x]) = votesF k l + if x = k then 1 else 0 := by
  unfold votesF; rw [List.countP_append]; by_cases h : x = k <;> simp [h]
theorem votesF_le (k : Int) (l : List Int) : 0 ≤ votesF k l ∧ votesF k l ≤ l.length := by
  unfold votesF; have := List.countP_le_length (p := fun x => x == k) (l := l); omega
theorem votes_L0 (l : List Int) (kind : Int) (hl : (l.length : Int) ≤ 1000) : ∀ k i : Nat, i + k = l.length → itN (ref09_votes_L0 l kind) (k + 1) ((i : Int), votesF kind (l.take i)) = some (votesF kind l)
  | 0, i, h => itN_stop (by
    have : i = l.length := by omega
    subst this
    unfold ref09_votes_L0; rw [if_neg lenI_stop, List.take_length])
  | k + 1, i, h => by
    have hi : i < l.length := by omega
    have hv := votesF_le kind (l.take i)
    have hs := votesF_snoc kind l[i] (l.take i)
    rw [List.take_append_getElem hi] at hs
    simp only [List.length_take] at hv
    rw [← votes_L0 l kind hl k (i + 1) (by omega)]
    apply itN_go
    unfold ref09_votes_L0
    rw [if_pos (lenI_lt.2 hi), gi_cast hi, w64_add1 (by omega), w64_id (by omega) (by omega)]
    simp only [Option.bind_some]
    by_cases hk : l[i] = kind
    · rw [if_pos (by simpa using hk), hs, if_pos hk]
    · rw [if_neg (by simpa using hk), hs, if_neg hk, Int.add_zero]
theorem votes_eq (l : List Int) (kind : Int) (hl : (l.length : Int) ≤ 1000) : ref09_votes l kind = some (votesF kind l) := by
  unfold ref09_votes
  have := votes_L0 l kind hl l.length 0 (by omega)
  simp only [List.take_zero, Int.natCast_zero] at this
  rw [show votesF kind [] = 0 from rfl] at this
  rw [iter_of this (by omega)]; rfl

/-- the scan over the kinds: the best, and its votes; -1 if two are equal -/
def scanF (v : Int → Int) : Nat → Int → Int → Int → Int × Int
  | 0, _, b, m => (b, m)
  | k + 1, x, b, m => if m < v x then scanF v k (x + 1) x (v x) else if v x = m then scanF v k (x + 1) (-1) m else scanF v k (x + 1) b m
def seenR (l : List Int) : Int := (scanF (fun k => votesF k l) 16 0 (-1) 0).1
theorem scan0 (v : Int → Int) (hv : ∀ k, 0 ≤ v k) : ∀ k x b m, 0 ≤ m → (m = 0 → b = -1) → ((scanF v k x b m).2 = 0 → (scanF v k x b m).1 = -1)
  | 0, x, b, m, _, h => h
  | k + 1, x, b, m, hm, h => by
    simp only [scanF]
    split
    · exact scan0 v hv k _ _ _ (hv x) (fun e => by omega)
    · split
      · exact scan0 v hv k _ _ _ hm (fun _ => rfl)
      · exact scan0 v hv k _ _ _ hm h
theorem Seen_L0 (l : List Int) (hl : (l.length : Int) ≤ 1000) : ∀ (k : Nat) (x b m : Int) (e : Bool), 0 ≤ x → x + k = 16 → ∃ b' m' e', itN (ref09_Seen_L0 l) (k + 1) (x, m, b, e) = some (m', e', b') ∧ scanF (fun k => votesF k l) k x (if e then -1 else b) m = (if e' then -1 else b', m')
  | 0, x, b, m, e, h0, h => ⟨b, m, e, itN_stop (by unfold ref09_Seen_L0; rw [if_neg (by simp; omega)]), rfl⟩
  | k + 1, x, b, m, e, h0, h => by
    have hgo : ref09_Seen_L0 l (x, m, b, e) = some (.inl (x + 1, if m < votesF x l then (votesF x l, x, false) else if votesF x l = m then (m, b, true) else (m, b, e))) := by
      unfold ref09_Seen_L0
      rw [if_pos (by simp; omega), votes_eq l x hl]
      simp only [Option.bind_some, decide_eq_true_eq, beq_iff_eq]
      rw [w64_id (by omega) (by omega)]
      by_cases h1 : m < votesF x l
      · rw [if_pos h1, if_pos h1]
      · rw [if_neg h1, if_neg h1]
        by_cases h2 : votesF x l = m
        · rw [if_pos h2, if_pos h2]
        · rw [if_neg h2, if_neg h2]
    rw [itN_go hgo]
    simp only [scanF]
    by_cases h1 : m < votesF x l
    · rw [if_pos h1, if_pos h1]; exact Seen_L0 l hl k (x + 1) x (votesF x l) false (by omega) (by omega)
    · rw [if_neg h1, if_neg h1]
      by_cases h2 : votesF x l = m
      · rw [if_pos h2, if_pos h2]; exact Seen_L0 l hl k (x + 1) b m true (by omega) (by omega)
      · rw [if_neg h2, if_neg h2]; exact Seen_L0 l hl k (x + 1) b m e (by omega) (by omega)
theorem Seen_eq (l : List Int) (hl : (l.length : Int) ≤ 1000) : ref09_Seen l = some (seenR l) := by
  unfold ref09_Seen seenR
  obtain ⟨b, m, e, h1, h2⟩ := Seen_L0 l hl 16 0 (-1) 0 false (by omega) (by omega)
  simp only [Bool.false_eq_true, if_false] at h2
  have h3 := scan0 (fun k => votesF k l) (fun k => (votesF_le k l).1) 16 0 (-1) 0 (by omega) (fun _ => rfl)
  rw [h2] at h3
  rw [iter_of h1 (by omega), h2]
  simp only [Option.bind_some]
  simp only at h3
  by_cases hm : m = 0
  · rw [h3 hm]; simp [hm]
  · cases e <;> simp [hm]
/-- the votes of all kinds -/
def tally (v : Int → Int) : Arr 16 Int := ⟨(List.range 16).map fun (k : Nat) => v (k : Int), by simp⟩
theorem garr_tally (v : Int → Int) {x : Int} (h0 : 0 ≤ x) (h1 : x ≤ 15) : garr (tally v) x = some (v x) := by
  unfold garr gi tally
  rw [if_pos h0, List.getElem?_map, List.getElem?_range (by omega)]
  simp [Int.toNat_of_nonneg h0]
theorem Arr_ext {n : Nat} {α : Type} {a b : Arr n α} (h : a.l = b.l) : a = b := by cases a; cases b; simp only at h; subst h; rfl
theorem aset_tally (v : Int → Int) {x : Int} (h0 : 0 ≤ x) (h1 : x ≤ 15) (c : Int) : aset (tally v) x c = tally fun k => if k = x then c else v k := by
  apply Arr_ext
  apply List.ext_getElem?
  intro j
  unfold tally aset
  simp only
  rw [List.getElem?_set]
  by_cases hj : x.toNat = j
  · subst hj
    simp [List.getElem?_range, show x.toNat < 16 by omega, Int.toNat_of_nonneg h0]
  · rw [if_neg hj]
    by_cases hj2 : j < 16
    · simp only [List.getElem?_map, List.getElem?_range hj2, Option.map_some]
      rw [if_neg (by omega)]
    · simp [show ¬ j < 16 from hj2]
theorem read_L0 (l : List Int) (hl : (l.length : Int) ≤ 1000) (hx : ∀ x ∈ l, x ≤ 15) : ∀ k i : Nat, i + k = l.length → itN (sort_read_L0 l) (k + 1) ((i : Int), tally fun x => votesF x (l.take i)) = some (tally fun x => votesF x l)
  | 0, i, h => itN_stop (by
    have : i = l.length := by omega
    subst this
    unfold sort_read_L0; rw [if_neg lenI_stop, List.take_length])
  | k + 1, i, h => by
    have hi : i < l.length := by omega
    have hs := fun x => votesF_snoc x l[i] (l.take i)
    simp only [List.take_append_getElem hi] at hs
    have hl15 := hx l[i] (List.getElem_mem hi)
    rw [← read_L0 l hl hx k (i + 1) (by omega)]
    apply itN_go
    unfold sort_read_L0
    rw [if_pos (lenI_lt.2 hi), gi_cast hi, w64_add1 (by omega)]
    simp only [Option.bind_some, decide_eq_true_eq]
    by_cases h0 : 0 ≤ l[i]
    · have hv := votesF_le l[i] (l.take i)
      simp only [List.length_take] at hv
      rw [if_pos h0, garr_tally _ h0 hl15]
      simp only [Option.bind_some]
      rw [w64_id (by omega) (by omega), aset_tally _ h0 hl15]
      congr 4
      funext x
      rw [hs]
      by_cases hxx : x = l[i]
      · simp [hxx]
      · simp [hxx, show ¬ l[i] = x from fun e => hxx e.symm]
    · rw [if_neg h0]
      congr 3
      apply Arr_ext
      unfold tally
      simp only
      apply List.map_congr_left
      intro j _
      show votesF _ _ = votesF _ _
      rw [hs, if_neg (by omega)]; simp
theorem read_L1 (v : Int → Int) : ∀ (k : Nat) (x b m : Int), 0 ≤ x → x + k = 16 → itN (sort_read_L1 (tally v)) (k + 1) (x, m, b) = some (scanF v k x b m).1
  | 0, x, b, m, _, _ => itN_stop (by unfold sort_read_L1; rw [if_neg (by simp; omega)]; rfl)
  | k + 1, x, b, m, h0, h => by
    have hgo : sort_read_L1 (tally v) (x, m, b) = some (.inl (x + 1, if m < v x then (v x, x) else if v x = m then (m, -1) else (m, b))) := by
      unfold sort_read_L1
      rw [if_pos (by simp; omega), garr_tally v h0 (by omega)]
      simp only [Option.bind_some, decide_eq_true_eq, beq_iff_eq]
      rw [w64_id (by omega) (by omega)]
      by_cases h1 : m < v x
      · rw [if_pos h1, if_pos h1]
      · rw [if_neg h1, if_neg h1]
        by_cases h2 : v x = m
        · rw [if_pos h2, if_pos h2]
        · rw [if_neg h2, if_neg h2]
    rw [itN_go hgo]
    simp only [scanF]
    by_cases h1 : m < v x
    · rw [if_pos h1, if_pos h1]; exact read_L1 v k _ _ _ (by omega) (by omega)
    · rw [if_neg h1, if_neg h1]
      by_cases h2 : v x = m
      · rw [if_pos h2, if_pos h2]; exact read_L1 v k _ _ _ (by omega) (by omega)
      · rw [if_neg h2, if_neg h2]; exact read_L1 v k _ _ _ (by omega) (by omega)
theorem read_eq (l : List Int) (hl : (l.length : Int) ≤ 1000) (hx : ∀ x ∈ l, x ≤ 15) : sort_read l = some (seenR l) := by
  unfold sort_read seenR
  have := read_L0 l hl hx l.length 0 (by omega)
  simp only [List.take_zero, Int.natCast_zero] at this
  rw [show (tally fun x => votesF x []) = amk 16 0 from Arr_ext rfl] at this
  rw [iter_of this (by omega)]
  simp only [Option.bind_some]
  rw [iter_of (read_L1 _ 16 0 (-1) 0 (by omega) (by omega)) (by omega)]
  rfl

/-! fed parts -/
def fedF : List Fed → Int → Bool
  | [], _ => true
  | x :: r, m => wi m 1000 x.1 && wi 0 15 x.2.1 && saidR x.2.2 && fedF r (x.1 + 1)
theorem fedF_cons (x : Fed) (r : List Fed) (m : Int) : fedF (x :: r) m = (wi m 1000 x.1 && wi 0 15 x.2.1 && saidR x.2.2 && fedF r (x.1 + 1)) := rfl
def fedR (l : List Fed) : Bool := decide ((l.length : Int) ≤ 40) && fedF l 0
theorem CheckFed_L0 (l : List Fed) (hr : ∀ x ∈ l, x.2.2.length ≤ 1000) (hl : l.length ≤ 1000) : ∀ (k i : Nat) (m : Int), 0 ≤ m → i + k = l.length → itN (sort_CheckFed_L0 l) (k + 1) ((i : Int), m) = some (if fedF (l.drop i) m then .inr () else .inl 91)
  | 0, i, m, hm, h => by
    have : i = l.length := by omega
    subst this
    rw [List.drop_length]
    exact itN_stop (by unfold sort_CheckFed_L0; rw [if_neg lenI_stop]; rfl)
  | k + 1, i, m, hm, h => by
    have hi : i < l.length := by omega
    have hri := hr l[i] (List.getElem_mem hi)
    have e : sort_CheckFed_L0 l ((i : Int), m) = some (if (wi m 1000 l[i].1 && wi 0 15 l[i].2.1 && saidR l[i].2.2) = true then .inl (((i + 1 : Nat) : Int), w64 (l[i].1 + 1)) else .inr (.inl 91)) := by
      unfold sort_CheckFed_L0
      rw [if_pos (lenI_lt.2 hi), gi_cast hi, w64_add1 (by omega)]
      simp only [Option.bind_some, from1, said_eq _ (show l[i].2.2.length ≤ 100000 by omega)]
      by_cases h1 : wi m 1000 l[i].1 = true <;> by_cases h2 : wi 0 15 l[i].2.1 = true <;> by_cases h3 : saidR l[i].2.2 = true <;> simp [h1, h2, h3]
    rw [List.drop_eq_getElem_cons hi]
    rw [fedF_cons]
    by_cases hc : (wi m 1000 l[i].1 && wi 0 15 l[i].2.1 && saidR l[i].2.2) = true
    · rw [hc, Bool.true_and]
      rw [if_pos hc] at e
      simp only [Bool.and_eq_true, wi_iff] at hc
      rw [w64_id (by omega) (by omega)] at e
      rw [itN_go e]
      exact CheckFed_L0 l hr hl k (i + 1) _ (by omega) (by omega)
    · rw [if_neg hc] at e
      rw [itN_stop e, Bool.eq_false_iff.2 hc]; rfl
theorem CheckFed_eq (l : List Fed) (hr : ∀ x ∈ l, x.2.2.length ≤ 1000) (hl : l.length ≤ 1000) : sort_CheckFed l = some (if fedR l then 0 else 91) := by
  unfold sort_CheckFed fedR
  have := CheckFed_L0 l hr hl l.length 0 0 (by omega) (by omega)
  rw [List.drop_zero] at this
  rw [show ((0 : Int), (0 : Int)) = (((0 : Nat) : Int), 0) from rfl, iter_of this (by omega), lenI_eq]
  by_cases h : (l.length : Int) ≤ 40
  · have h' : ¬ (40 : Int) < l.length := by omega
    by_cases h2 : fedF l 0 = true <;> simp [h, h', h2]
  · have h' : (40 : Int) < l.length := by omega
    simp [h, h']
theorem Parts_L0 (l : List Fed) (hr : ∀ x ∈ l, x.2.2.length ≤ 1000) (hl : (l.length : Int) ≤ 40) : ∀ (k i : Nat) (m : Int), 0 ≤ m → (i = 0 → m = 0) → (∀ h : 0 < i, (h' : i - 1 < l.length) → m = l[i - 1].1 + 1) → i + k = l.length → itN (ref09_Parts_L0 l) (k + 1) (i : Int) = some (if fedF (l.drop i) m then .inr () else .inl false)
  | 0, i, m, hm, h0, h1, h => by
    have : i = l.length := by omega
    subst this
    rw [List.drop_length]
    exact itN_stop (by unfold ref09_Parts_L0; rw [if_neg lenI_stop]; rfl)
  | k + 1, i, m, hm, h0, h1, h => by
    have hi : i < l.length := by omega
    have hri := hr l[i] (List.getElem_mem hi)
    have e : ref09_Parts_L0 l (i : Int) = some (if (wi m 1000 l[i].1 && wi 0 15 l[i].2.1 && saidR l[i].2.2) = true then .inl ((i + 1 : Nat) : Int) else .inr (.inl false)) := by
      unfold ref09_Parts_L0
      rw [if_pos (lenI_lt.2 hi), gi_cast hi, w64_add1 (by omega)]
      simp only [Option.bind_some, within_eq, Said_eq _ (show l[i].2.2.length ≤ 100000 by omega), decide_eq_true_eq]
      rcases Nat.eq_zero_or_pos i with hz | hz
      · have hm0 := h0 hz
        subst hm0
        rw [if_neg (show ¬ (0 : Int) < i by omega)]
        by_cases h1 : wi 0 1000 l[i].1 = true <;> by_cases h2 : wi 0 15 l[i].2.1 = true <;> by_cases h3 : saidR l[i].2.2 = true <;> simp [h1, h2, h3]
      · have hm1 := h1 hz (by omega)
        rw [if_pos (show (0 : Int) < i by omega), sub1_cast hz (by omega), gi_cast (show i - 1 < l.length by omega)]
        simp only [Option.bind_some]
        have hw : wi m 1000 l[i].1 = (wi 0 1000 l[i].1 && !decide (l[i].1 ≤ l[i - 1].1)) := by
          rw [Bool.eq_iff_iff]; simp only [Bool.and_eq_true, wi_iff, Bool.not_eq_true', decide_eq_false_iff_not]; omega
        rw [hw]
        by_cases h1 : wi 0 1000 l[i].1 = true <;> by_cases h4 : l[i].1 ≤ l[i - 1].1 <;> by_cases h2 : wi 0 15 l[i].2.1 = true <;> by_cases h3 : saidR l[i].2.2 = true <;> simp [h1, h2, h3, h4]
    rw [List.drop_eq_getElem_cons hi]
    rw [fedF_cons]
    by_cases hc : (wi m 1000 l[i].1 && wi 0 15 l[i].2.1 && saidR l[i].2.2) = true
    · rw [hc, Bool.true_and]
      rw [if_pos hc] at e
      simp only [Bool.and_eq_true, wi_iff] at hc
      rw [itN_go e]
      exact Parts_L0 l hr hl k (i + 1) _ (by omega) (by omega) (fun _ _ => rfl) (by omega)
    · rw [if_neg hc] at e
      rw [itN_stop e, Bool.eq_false_iff.2 hc]; rfl
theorem Parts_eq (l : List Fed) (hr : ∀ x ∈ l, x.2.2.length ≤ 1000) : ref09_Parts l = some (fedR l) := by
  unfold ref09_Parts fedR
  rw [lenI_eq]
  by_cases h : (l.length : Int) ≤ 40
  · have h' : ¬ (40 : Int) < l.length := by omega
    have := Parts_L0 l hr h l.length 0 0 (by omega) (fun _ => rfl) (fun h => by omega) (by omega)
    rw [List.drop_zero] at this
    rw [show (0 : Int) = ((0 : Nat) : Int) from rfl, iter_of this (by omega)]
    by_cases h2 : fedF l 0 = true <;> simp [h, h', h2]
  · have h' : (40 : Int) < l.length := by omega
    simp [h, h']
theorem refCheckFed_eq (l : List Fed) (hr : ∀ x ∈ l, x.2.2.length ≤ 1000) : ref09_CheckFed l = some (if fedR l then 0 else 91) := by
  unfold ref09_CheckFed
  rw [Parts_eq l hr]
  by_cases h : fedR l = true <;> simp [h]

/-! belts -/
def gatesF (hi : Int) : List (Int × Int) → Int → List Int → Bool
  | [], _, _ => true
  | g :: r, m, s => wi m hi g.1 && wi 0 7 g.2 && !s.contains g.2 && gatesF hi r (g.1 + 1) (g.2 :: s)
theorem gatesF_cons (hi : Int) (g : Int × Int) (r : List (Int × Int)) (m : Int) (s : List Int) : gatesF hi (g :: r) m s = (wi m hi g.1 && wi 0 7 g.2 && !s.contains g.2 && gatesF hi r (g.1 + 1) (g.2 :: s)) := rfl
def beltR (b : Belt) : Bool := wi 2 100 b.1 && wi 0 (b.1 - 2) b.2.1 && wi 0 10 b.2.2.1 && decide ((b.2.2.2.1.length : Int) ≤ 8) && decide ((b.2.2.2.2.length : Int) = 16) && (b.2.2.2.2.all (wi (-1) 7)) && gatesF (b.1 - 1) b.2.2.2.1 (b.2.1 + 1) []
theorem mget_mput {κ β : Type} [DecidableEq κ] (l : List (κ × β)) (k k' : κ) (v : β) : mget (mput l k v) k' = if k' = k then some v else mget l k' := by
  induction l with
  | nil => simp [mput, mget]
  | cons p r ih =>
    simp only [mput]
    split
    · rename_i h; subst h; simp only [mget]; split <;> rfl
    · rename_i h
      simp only [mget, ih]
      by_cases h2 : k' = p.1
      · subst h2; rw [if_pos rfl, if_neg (fun e => h e.symm)]; simp
      · rw [if_neg h2]; simp [h2]
theorem CheckBelt_L0 (b : Belt) (hL : wi 2 100 b.1 = true) (hg : b.2.2.2.1.length ≤ 1000) : ∀ (k i : Nat) (m : Int) (bins : List (Int × Bool)) (s : List Int), 0 ≤ m → (∀ x, (mget bins x).getD false = s.contains x) → i + k = b.2.2.2.1.length → itN (sort_CheckBelt_L0 b) (k + 1) ((i : Int), m, bins) = some (if gatesF (b.1 - 1) (b.2.2.2.1.drop i) m s then .inr () else .inl 90)
  | 0, i, m, bins, s, hm, hs, h => by
    have : i = b.2.2.2.1.length := by omega
    subst this
    rw [List.drop_length]
    exact itN_stop (by unfold sort_CheckBelt_L0; rw [if_neg lenI_stop]; rfl)
  | k + 1, i, m, bins, s, hm, hs, h => by
    have hi : i < b.2.2.2.1.length := by omega
    rw [wi_iff] at hL
    have e : sort_CheckBelt_L0 b ((i : Int), m, bins) = some (if (wi m (b.1 - 1) b.2.2.2.1[i].1 && wi 0 7 b.2.2.2.1[i].2 && !s.contains b.2.2.2.1[i].2) = true then .inl (((i + 1 : Nat) : Int), w64 (b.2.2.2.1[i].1 + 1), mput bins b.2.2.2.1[i].2 true) else .inr (.inl 90)) := by
      unfold sort_CheckBelt_L0
      rw [if_pos (lenI_lt.2 hi), gi_cast hi, w64_add1 (by omega), w64_id (x := b.1 - 1) (by omega) (by omega)]
      simp only [Option.bind_some, from1, hs]
      by_cases h1 : wi m (b.1 - 1) b.2.2.2.1[i].1 = true <;> by_cases h2 : wi 0 7 b.2.2.2.1[i].2 = true <;> cases h3 : s.contains b.2.2.2.1[i].2 <;> simp only [h1, h2, h3, Bool.not_true, Bool.not_false, Bool.and_true, Bool.true_and, Bool.false_and, Bool.and_false, Bool.false_eq_true, if_true, if_false]
    rw [List.drop_eq_getElem_cons hi]
    rw [gatesF_cons]
    by_cases hc : (wi m (b.1 - 1) b.2.2.2.1[i].1 && wi 0 7 b.2.2.2.1[i].2 && !s.contains b.2.2.2.1[i].2) = true
    · rw [hc, Bool.true_and]
      rw [if_pos hc] at e
      simp only [Bool.and_eq_true, wi_iff] at hc
      rw [w64_id (by omega) (by omega)] at e
      rw [itN_go e]
      exact CheckBelt_L0 b (wi_iff.2 hL) hg k (i + 1) _ _ _ (by omega) (fun x => by
        rw [mget_mput, List.contains_cons]
        by_cases hx : x = b.2.2.2.1[i].2
        · simp [hx]
        · simp only [if_neg hx, hs, show (x == b.2.2.2.1[i].2) = false by simpa using hx, Bool.false_or]) (by omega)
    · rw [if_neg hc] at e
      rw [itN_stop e, Bool.eq_false_iff.2 hc]; rfl
theorem CheckBelt_eq (b : Belt) (hg : b.2.2.2.1.length ≤ 1000) (hb : b.2.2.2.2.length ≤ 1000) : sort_CheckBelt b = some (if beltR b then 0 else 90) := by
  unfold sort_CheckBelt beltR
  simp only [from1, Option.bind_some, sort_from_eq _ _ b.2.2.2.2 (by omega), lenI_eq]
  by_cases h1 : wi 2 100 b.1 = true
  · have hw := wi_iff.1 h1
    rw [w64_id (x := b.1 - 2) (by omega) (by omega)]
    by_cases h2 : wi 0 (b.1 - 2) b.2.1 = true
    · have hw2 := wi_iff.1 h2
      have := CheckBelt_L0 b h1 hg b.2.2.2.1.length 0 (b.2.1 + 1) [] [] (by omega) (fun x => rfl) (by omega)
      rw [List.drop_zero] at this
      rw [w64_id (x := b.2.1 + 1) (by omega) (by omega), show ((0 : Int), b.2.1 + 1, ([] : List (Int × Bool))) = (((0 : Nat) : Int), b.2.1 + 1, []) from rfl, iter_of this (by omega)]
      by_cases h3 : wi 0 10 b.2.2.1 = true
      · by_cases h4 : (b.2.2.2.1.length : Int) ≤ 8
        · have h4' : ¬ (8 : Int) < b.2.2.2.1.length := by omega
          by_cases h5 : (b.2.2.2.2.length : Int) = 16
          · by_cases h6 : b.2.2.2.2.all (wi (-1) 7) = true
            · by_cases h7 : gatesF (b.1 - 1) b.2.2.2.1 (b.2.1 + 1) [] = true <;> simp [h1, h2, h3, h4, h4', h5, h6, h7]
            · simp [h1, h2, h3, h4, h4', h5, h6]
          · simp [h1, h2, h3, h4, h4', h5]
        · have h4' : (8 : Int) < b.2.2.2.1.length := by omega
          simp [h1, h2, h3, h4, h4']
      · simp [h1, h2, h3]
    · simp [h1, h2]
  · simp [h1]
/-- the first that leads into a bin -/
def idxF {α : Type} (p : α → Bool) : List α → Int → Int
  | [], _ => -1
  | x :: r, i => if p x then i else idxF p r (i + 1)
theorem idxF_lo {α : Type} (p : α → Bool) : ∀ (l : List α) (i : Int), 0 ≤ i → 0 ≤ idxF p l i ∨ idxF p l i = -1
  | [], i, _ => .inr rfl
  | x :: r, i, h => by
    simp only [idxF]
    split
    · exact .inl h
    · exact idxF_lo p r (i + 1) (by omega)
theorem idxF_ge {α : Type} (p : α → Bool) : ∀ (l : List α) (j : Int), 0 ≤ j → idxF p l j = -1 ∨ j ≤ idxF p l j
  | [], j, _ => .inl rfl
  | x :: r, j, h => by
    simp only [idxF]
    split
    · exact .inr (Int.le_refl _)
    · rcases idxF_ge p r (j + 1) (by omega) with h | h
      · exact .inl h
      · exact .inr (by omega)
theorem idxF_first {α : Type} (p : α → Bool) : ∀ (l : List α) (i : Nat) (j : Int), 0 ≤ j → (h : i < l.length) → p l[i] = true → (idxF p l j = j + i ↔ (l.take i).any p = false)
  | [], i, j, _, h, _ => by simp at h
  | x :: r, 0, j, hj, h, hp => by simp at hp; simp [idxF, hp]
  | x :: r, i + 1, j, hj, h, hp => by
    simp only [idxF, List.take_succ_cons, List.any_cons]
    by_cases hx : p x = true
    · simp only [hx, if_true, Bool.true_or]; constructor
      · intro e; omega
      · intro e; cases e
    · have ih := idxF_first p r i (j + 1) (by omega) (by simpa using h) (by simpa using hp)
      rw [if_neg hx, Bool.eq_false_iff.2 hx, Bool.false_or, ← ih]
      constructor <;> intro e <;> rw [e] <;> omega
theorem Leads_L0 (b : Belt) (bin : Int) (hg : b.2.2.2.1.length ≤ 1000) : ∀ k i : Nat, i + k = b.2.2.2.1.length → itN (ref09_Leads_L0 b bin) (k + 1) (i : Int) = some (if 0 ≤ idxF (fun g => g.2 == bin) (b.2.2.2.1.drop i) i then .inl (idxF (fun g => g.2 == bin) (b.2.2.2.1.drop i) i) else .inr ())
  | 0, i, h => by
    have : i = b.2.2.2.1.length := by omega
    subst this
    rw [List.drop_length]
    exact itN_stop (by unfold ref09_Leads_L0; rw [if_neg lenI_stop]; rfl)
  | k + 1, i, h => by
    have hi : i < b.2.2.2.1.length := by omega
    rw [List.drop_eq_getElem_cons hi]
    by_cases hp : (b.2.2.2.1[i].2 == bin) = true
    · have e : idxF (fun g : Int × Int => g.2 == bin) (b.2.2.2.1[i] :: List.drop (i + 1) b.2.2.2.1) i = i := by
        show (if (b.2.2.2.1[i].2 == bin) = true then _ else _) = _
        rw [if_pos hp]
      rw [e, if_pos (by omega)]
      exact itN_stop (by
        unfold ref09_Leads_L0
        rw [if_pos (lenI_lt.2 hi), gi_cast hi]
        simp only [Option.bind_some]
        rw [if_pos hp])
    · have e : idxF (fun g : Int × Int => g.2 == bin) (b.2.2.2.1[i] :: List.drop (i + 1) b.2.2.2.1) i = idxF (fun g : Int × Int => g.2 == bin) (List.drop (i + 1) b.2.2.2.1) ((i + 1 : Nat) : Int) := by
        show (if (b.2.2.2.1[i].2 == bin) = true then _ else _) = _
        rw [if_neg hp]; rfl
      rw [e, ← Leads_L0 b bin hg k (i + 1) (by omega)]
      apply itN_go
      unfold ref09_Leads_L0
      rw [if_pos (lenI_lt.2 hi), gi_cast hi, w64_add1 (by omega)]
      simp only [Option.bind_some]
      rw [if_neg hp]
def leadsR (b : Belt) (bin : Int) : Int := idxF (fun g => g.2 == bin) b.2.2.2.1 0
theorem Leads_eq (b : Belt) (bin : Int) (hg : b.2.2.2.1.length ≤ 1000) : ref09_Leads b bin = some (leadsR b bin) := by
  unfold ref09_Leads leadsR
  have := Leads_L0 b bin hg b.2.2.2.1.length 0 (by omega)
  rw [List.drop_zero] at this
  rw [show (0 : Int) = ((0 : Nat) : Int) from rfl, iter_of this (by omega)]
  rcases idxF_lo (fun g => g.2 == bin) b.2.2.2.1 ((0 : Nat) : Int) (by omega) with h | h
  · rw [if_pos h]; rfl
  · rw [if_neg (by omega), h]; rfl
theorem Belt_L0 (b : Belt) (hL : wi 2 100 b.1 = true) (hC : wi 0 (b.1 - 2) b.2.1 = true) (hl : (b.2.2.2.1.length : Int) ≤ 8) : ∀ (k i : Nat) (m : Int), b.2.1 + 1 ≤ m → (i = 0 → m = b.2.1 + 1) → (∀ h : 0 < i, (h' : i - 1 < b.2.2.2.1.length) → m = b.2.2.2.1[i - 1].1 + 1) → i + k = b.2.2.2.1.length →
    itN (ref09_Belt_L0 b) (k + 1) (i : Int) = some (if gatesF (b.1 - 1) (b.2.2.2.1.drop i) m ((b.2.2.2.1.take i).map (·.2)).reverse then .inr () else .inl false)
  | 0, i, m, hm, h0, h1, h => by
    have : i = b.2.2.2.1.length := by omega
    subst this
    rw [List.drop_length]
    exact itN_stop (by unfold ref09_Belt_L0; rw [if_neg lenI_stop]; rfl)
  | k + 1, i, m, hm, h0, h1, h => by
    have hi : i < b.2.2.2.1.length := by omega
    have hw0 := wi_iff.1 hL
    have hw1 := wi_iff.1 hC
    have htk : ((b.2.2.2.1.take (i + 1)).map (·.2)).reverse = b.2.2.2.1[i].2 :: ((b.2.2.2.1.take i).map (·.2)).reverse := by
      rw [← List.take_append_getElem hi, List.map_append, List.reverse_append]; rfl
    have hlead : (leadsR b b.2.2.2.1[i].2 != (i : Int)) = ((b.2.2.2.1.take i).map (·.2)).reverse.contains b.2.2.2.1[i].2 := by
      have := idxF_first (fun g => g.2 == b.2.2.2.1[i].2) b.2.2.2.1 i 0 (by omega) hi (by simp)
      unfold leadsR
      rw [Int.zero_add] at this
      rw [Bool.eq_iff_iff, bne_iff_ne]
      rw [Ne, this]
      rw [Bool.not_eq_false, List.any_eq_true, List.contains_iff_mem, List.mem_reverse, List.mem_map]
      simp only [beq_iff_eq]
    have e : ref09_Belt_L0 b (i : Int) = some (if (wi m (b.1 - 1) b.2.2.2.1[i].1 && wi 0 7 b.2.2.2.1[i].2 && !((b.2.2.2.1.take i).map (·.2)).reverse.contains b.2.2.2.1[i].2) = true then .inl ((i + 1 : Nat) : Int) else .inr (.inl false)) := by
      unfold ref09_Belt_L0
      rw [if_pos (lenI_lt.2 hi), gi_cast hi, w64_add1 (by omega), w64_id (x := b.1 - 1) (by omega) (by omega), w64_id (x := b.2.1 + 1) (by omega) (by omega)]
      simp only [Option.bind_some, within_eq, Leads_eq b _ (show b.2.2.2.1.length ≤ 1000 by omega), decide_eq_true_eq, hlead]
      rcases Nat.eq_zero_or_pos i with hz | hz
      · have hm0 := h0 hz
        rw [if_neg (show ¬ (0 : Int) < i by omega), ← hm0]
        cases h1 : wi m (b.1 - 1) b.2.2.2.1[i].1 <;> cases h2 : wi 0 7 b.2.2.2.1[i].2 <;> cases h3 : ((b.2.2.2.1.take i).map (·.2)).reverse.contains b.2.2.2.1[i].2 <;> simp only [Bool.not_true, Bool.not_false, Bool.and_true, Bool.true_and, Bool.false_and, Bool.and_false, Bool.false_eq_true, if_true, if_false]
      · have hm1 := h1 hz (by omega)
        rw [if_pos (show (0 : Int) < i by omega), sub1_cast hz (by omega), gi_cast (show i - 1 < b.2.2.2.1.length by omega)]
        simp only [Option.bind_some]
        have hw : wi m (b.1 - 1) b.2.2.2.1[i].1 = (wi (b.2.1 + 1) (b.1 - 1) b.2.2.2.1[i].1 && !decide (b.2.2.2.1[i].1 ≤ b.2.2.2.1[i - 1].1)) := by
          rw [Bool.eq_iff_iff]; simp only [Bool.and_eq_true, wi_iff, Bool.not_eq_true', decide_eq_false_iff_not]; omega
        rw [hw]
        by_cases h4 : b.2.2.2.1[i].1 ≤ b.2.2.2.1[i - 1].1
        · rw [if_pos h4]
          cases h1 : wi (b.2.1 + 1) (b.1 - 1) b.2.2.2.1[i].1 <;> simp [h4]
        · rw [if_neg h4]
          cases h1 : wi (b.2.1 + 1) (b.1 - 1) b.2.2.2.1[i].1 <;> cases h2 : wi 0 7 b.2.2.2.1[i].2 <;> cases h3 : ((b.2.2.2.1.take i).map (·.2)).reverse.contains b.2.2.2.1[i].2 <;> simp only [h4, decide_false, Bool.not_true, Bool.not_false, Bool.and_true, Bool.true_and, Bool.false_and, Bool.and_false, Bool.false_eq_true, if_true, if_false]
    rw [List.drop_eq_getElem_cons hi]
    rw [gatesF_cons]
    by_cases hc : (wi m (b.1 - 1) b.2.2.2.1[i].1 && wi 0 7 b.2.2.2.1[i].2 && !((b.2.2.2.1.take i).map (·.2)).reverse.contains b.2.2.2.1[i].2) = true
    · rw [hc, Bool.true_and]
      rw [if_pos hc] at e
      simp only [Bool.and_eq_true, wi_iff] at hc
      rw [itN_go e, ← htk]
      exact Belt_L0 b hL hC hl k (i + 1) _ (by omega) (by omega) (fun _ _ => rfl) (by omega)
    · rw [if_neg hc] at e
      rw [itN_stop e, Bool.eq_false_iff.2 hc]; rfl
theorem Belt_L1 (b : Belt) (hb : (b.2.2.2.2.length : Int) = 16) : iter (ref09_Belt_L1 b) 0 = some (if b.2.2.2.2.all (wi (-1) 7) then .inr () else .inl false) := by
  rw [range_any (F := ref09_Belt_L1 b) false b.2.2.2.2 (by omega) (fun i x => !wi (-1) 7 x) (fun i hi => by
    unfold ref09_Belt_L1
    rw [if_pos (by simp; omega), gi_cast hi, w64_add1 (by omega)]
    simp only [Option.bind_some, within_eq]
    by_cases h : wi (-1) 7 b.2.2.2.2[i] = true <;> simp [h]) (by unfold ref09_Belt_L1; rw [if_neg (by simp; omega)]), zip_any (fun x => !wi (-1) 7 x), any_not]
  by_cases h : b.2.2.2.2.all (wi (-1) 7) = true <;> simp [h]
theorem Belt_eq (b : Belt) : ref09_Belt b = some (beltR b) := by
  unfold ref09_Belt beltR
  simp only [within_eq, Option.bind_some, lenI_eq]
  by_cases h1 : wi 2 100 b.1 = true
  · have hw := wi_iff.1 h1
    rw [w64_id (x := b.1 - 2) (by omega) (by omega)]
    by_cases h2 : wi 0 (b.1 - 2) b.2.1 = true
    · by_cases h3 : wi 0 10 b.2.2.1 = true
      · by_cases h4 : (b.2.2.2.1.length : Int) ≤ 8
        · have h4' : ¬ (8 : Int) < b.2.2.2.1.length := by omega
          have hw2 := wi_iff.1 h2
          have := Belt_L0 b h1 h2 h4 b.2.2.2.1.length 0 (b.2.1 + 1) (by omega) (fun _ => rfl) (fun h => by omega) (by omega)
          rw [List.drop_zero, List.take_zero] at this
          by_cases h5 : (b.2.2.2.2.length : Int) = 16
          · rw [Belt_L1 b h5, show (0 : Int) = ((0 : Nat) : Int) from rfl, iter_of this (by omega)]
            by_cases h6 : b.2.2.2.2.all (wi (-1) 7) = true
            · by_cases h7 : gatesF (b.1 - 1) b.2.2.2.1 (b.2.1 + 1) [] = true <;> simp [h1, h2, h3, h4, h4', h5, h6, h7]
            · by_cases h7 : gatesF (b.1 - 1) b.2.2.2.1 (b.2.1 + 1) [] = true <;> simp [h1, h2, h3, h4, h4', h5, h6, h7]
          · simp [h1, h2, h3, h4, h4', h5]
        · have h4' : (8 : Int) < b.2.2.2.1.length := by omega
          simp [h1, h2, h3, h4, h4']
      · simp [h1, h2, h3]
    · simp [h1, h2]
  · simp [h1]
theorem asked_eq (b : Belt) (f : List Fed) (hr : ∀ x ∈ f, x.2.2.length ≤ 1000) : ref09_asked b f = some (if beltR b then (if fedR f then 0 else 91) else 90) := by
  unfold ref09_asked
  rw [Belt_eq, refCheckFed_eq f hr]
  by_cases h : beltR b = true <;> simp [h]
theorem lay_eq (b : Belt) (f : List Fed) (hg : b.2.2.2.1.length ≤ 1000) (hb : b.2.2.2.2.length ≤ 1000) (hr : ∀ x ∈ f, x.2.2.length ≤ 1000) (hl : f.length ≤ 1000) :
    sort_lay b f = some (if beltR b then (if fedR f then (some (b, f), 0) else (none, 91)) else (none, 90)) := by
  unfold sort_lay
  rw [CheckBelt_eq b hg hb, CheckFed_eq f hr hl]
  by_cases h : beltR b = true <;> by_cases h2 : fedR f = true <;> simp [h, h2]
end Go.Abs

/- Sort: swings of gates. -/
set_option linter.unusedSimpArgs false
set_option linter.unusedVariables false
namespace Go.Abs
open Go

abbrev Swg := Int × Int × Bool
def lt2 (x y : Swg) : Bool := decide (x.1 < y.1) || (x.1 == y.1 && decide (x.2.1 < y.2.1))
theorem Compare_eq (a b : Int) : cmp_Compare_int a b = some (if a < b then -1 else if b < a then 1 else 0) := by
  unfold cmp_Compare_int cmp_isNaN_int
  by_cases h1 : a < b <;> by_cases h2 : b < a <;> simp [h1, h2]
theorem Or_eq (a b : Int) : cmp_Or_int [a, b] = some (if a = 0 then b else a) := by
  unfold cmp_Or_int
  rw [range_iter (F := cmp_Or_int_L0 [a, b]) [a, b] (by simp) (fun i x => if x = 0 then none else some x) (fun i hi => by
    unfold cmp_Or_int_L0
    rw [if_pos (lenI_lt.2 hi), gi_cast hi, w64_add1 (by simp at hi; omega)]
    simp only [Option.bind_some]
    by_cases h : [a, b][i] = 0 <;> simp [h, nextL]) (by unfold cmp_Or_int_L0; rw [if_neg lenI_stop])]
  simp only [List.zipIdx_cons, List.zipIdx_nil, List.findSome?_cons, List.findSome?_nil]
  by_cases h1 : a = 0 <;> by_cases h2 : b = 0 <;> simp [h1, h2, endL]
theorem order_eq (x y : Swg) : ∃ o, sort_order x y = some o ∧ decide (0 ≤ o) = !lt2 x y := by
  unfold sort_order lt2
  rw [Compare_eq, Compare_eq]
  simp only [Option.bind_some, Or_eq]
  refine ⟨_, rfl, ?_⟩
  rcases Int.lt_trichotomy x.1 y.1 with h | h | h
  · simp [h]
  · by_cases h2 : x.2.1 < y.2.1
    · simp [h, h2]
    · by_cases h3 : y.2.1 < x.2.1 <;> simp [h, h2, h3]
  · have h4 : ¬ x.1 < y.1 := by omega
    have h5 : ¬ x.1 = y.1 := by omega
    simp [h, h4, h5]
theorem inOrder_eq (x y : Swg) : ref09_inOrder x y = some (lt2 x y) := by
  unfold ref09_inOrder lt2
  by_cases h : x.1 < y.1
  · simp [h]
  · by_cases h2 : x.1 = y.1 <;> simp [h, h2]
/-- too early behind another one -/
def early (t u s : Int) : Bool := decide (IntKind.wrap .u64 (IntKind.wrap .u64 t - IntKind.wrap .u64 u) < IntKind.wrap .u64 s)
theorem after_eq (t u s : Int) : sort_after t u s = some (!early t u s) := by
  unfold sort_after early
  congr 1
  rw [Bool.eq_iff_iff]; simp
theorem before_eq (t u s : Int) : ref09_before t u s = some (early t u s) := rfl
/-- those of one gate -/
def rowG (g : Int) (l : List Swg) : List Swg := l.filter fun x => x.2.1 == g
def prevOk (l : List Swg) (i : Nat) (x : Swg) : Bool := match i with | 0 => true | j + 1 => (match l[j]? with | none => true | some y => lt2 y x)
def lastOk (slow : Int) (x : Swg) (o : Option Swg) : Bool := match o with | none => x.2.2 | some y => (y.2.2 != x.2.2) && !early x.1 y.1 (imax slow 1)
def okW9 (slow G : Int) (l : List Swg) (i : Nat) : Bool :=
  match l[i]? with
  | none => true
  | some x => wi 0 (G - 1) x.2.1 && prevOk l i x && lastOk slow x (rowG x.2.1 (l.take i)).getLast?
theorem lastOk_none (slow : Int) (x : Swg) : lastOk slow x none = x.2.2 := rfl
theorem lastOk_some (slow : Int) (x y : Swg) : lastOk slow x (some y) = ((y.2.2 != x.2.2) && !early x.1 y.1 (imax slow 1)) := rfl
theorem okW9_eq {slow G : Int} {l : List Swg} {i : Nat} (hi : i < l.length) : okW9 slow G l i = (wi 0 (G - 1) l[i].2.1 && prevOk l i l[i] && lastOk slow l[i] (rowG l[i].2.1 (l.take i)).getLast?) := by
  unfold okW9; rw [List.getElem?_eq_getElem hi]
def upto (slow G : Int) (l : List Swg) (i k : Nat) : Bool := (List.range' i k).all (okW9 slow G l)
theorem upto_succ (slow G : Int) (l : List Swg) (i k : Nat) : upto slow G l i (k + 1) = (okW9 slow G l i && upto slow G l (i + 1) k) := by
  unfold upto; rw [List.range'_succ, List.all_cons]
theorem rowG_snoc (g : Int) (l : List Swg) (x : Swg) : rowG g (l ++ [x]) = rowG g l ++ (if x.2.1 = g then [x] else []) := by
  unfold rowG; rw [List.filter_append]; by_cases h : x.2.1 = g <;> simp [h]
/-- the last one of the same gate, looked for from behind -/
theorem Swung_L1 (l : List Swg) (i : Nat) (hi : i < l.length) (hl : l.length ≤ 1000) : ∀ n, n ≤ i → ∃ j : Int, itN (ref09_Swung_L1 l i) (n + 1) ((n : Int) - 1) = some j ∧ (match (rowG l[i].2.1 (l.take n)).getLast? with | none => j < 0 | some y => 0 ≤ j ∧ gi l j = some y)
  | 0, _ => ⟨-1, itN_stop (by unfold ref09_Swung_L1; rw [if_neg (by simp)]; rfl), by simp [rowG]⟩
  | n + 1, hn => by
    have hn2 : n < l.length := by omega
    have e0 : (((n + 1 : Nat) : Int) - 1) = (n : Int) := by omega
    rw [e0]
    have hs := rowG_snoc l[i].2.1 (l.take n) l[n]
    rw [List.take_append_getElem hn2] at hs
    rw [hs]
    by_cases hg : l[n].2.1 = l[i].2.1
    · rw [if_pos hg, List.getLast?_append]
      refine ⟨n, itN_stop ?_, ?_⟩
      · unfold ref09_Swung_L1
        rw [if_pos (by simp), gi_cast hn2, gi_cast hi]
        simp only [Option.bind_some]
        rw [if_neg (by simpa using hg)]
      · simp [gi_cast hn2]
    · rw [if_neg hg, List.append_nil]
      obtain ⟨j, h1, h2⟩ := Swung_L1 l i hi hl n (by omega)
      refine ⟨j, ?_, h2⟩
      rw [← h1]
      apply itN_go
      unfold ref09_Swung_L1
      rw [if_pos (by simp), gi_cast hn2, gi_cast hi, w64_id (by omega) (by omega)]
      simp only [Option.bind_some]
      rw [if_pos (by simpa using hg)]
theorem Swung_step (b : Belt) (hG : (b.2.2.2.1.length : Int) ≤ 8) (l : List Swg) (hl : l.length ≤ 1000) (i : Nat) (hi : i < l.length) :
    ref09_Swung_L0 b l (i : Int) = some (if okW9 b.2.2.1 b.2.2.2.1.length l i = true then .inl ((i + 1 : Nat) : Int) else .inr (.inl false)) := by
  unfold ref09_Swung_L0
  obtain ⟨j, h1, h2⟩ := Swung_L1 l i hi hl i (by omega)
  have hj := iter_of h1 (by omega)
  rw [if_pos (lenI_lt.2 hi), gi_cast hi, w64_add1 (by omega), w64_id (x := lenI b.2.2.2.1 - 1) (by rw [lenI_eq]; omega) (by rw [lenI_eq]; omega), lenI_eq]
  simp only [Option.bind_some, within_eq, before_eq, inOrder_eq]
  rw [okW9_eq hi]
  cases hw : wi 0 ((b.2.2.2.1.length : Int) - 1) l[i].2.1 with
  | false => simp
  | true =>
    simp only [Bool.not_true, Bool.false_eq_true, if_false, Bool.true_and]
    have hprev : (if decide (0 < (i : Int)) = true then (gi l (w64 ((i : Int) - 1))).bind fun v3 => some !lt2 v3 l[i] else some false) = some !prevOk l i l[i] := by
      unfold prevOk
      cases i with
      | zero => simp
      | succ j =>
        rw [if_pos (by simp only [decide_eq_true_eq]; omega), sub1_cast (by omega) (by omega), gi_cast (show j + 1 - 1 < l.length by omega)]
        simp only [Option.bind_some, Nat.add_sub_cancel]
        rw [List.getElem?_eq_getElem (by omega)]
    rw [hprev]
    simp only [Option.bind_some]
    generalize prevOk l i l[i] = pr
    cases pr with
    | false => simp
    | true =>
      simp only [Bool.not_true, Bool.false_eq_true, if_false, Bool.true_and]
      have hsub : w64 ((i : Int) - 1) = (i : Int) - 1 := w64_id (by omega) (by omega)
      rw [hsub, hj]
      simp only [Option.bind_some]
      cases hg : (rowG l[i].2.1 (l.take i)).getLast? with
      | none =>
        rw [hg] at h2
        simp only at h2
        rw [lastOk_none]
        have h3 : ¬ 0 ≤ j := by omega
        simp only [h2, h3, decide_true, decide_false, if_true, if_false, Bool.false_eq_true]
        cases l[i].2.2 <;> simp
      | some y =>
        rw [hg] at h2
        simp only at h2
        rw [lastOk_some]
        have h3 : ¬ j < 0 := by omega
        simp only [h2.1, h3, h2.2, decide_true, decide_false, if_true, if_false, Bool.false_eq_true, Option.bind_some]
        cases hy : y.2.2 <;> cases hx : l[i].2.2 <;> cases early l[i].1 y.1 (imax b.2.2.1 1) <;> simp
theorem Swung_eq (b : Belt) (hG : (b.2.2.2.1.length : Int) ≤ 8) (l : List Swg) (hl : l.length ≤ 1000) : ref09_Swung b l = some (upto b.2.2.1 b.2.2.2.1.length l 0 l.length) := by
  have : ∀ k i : Nat, i + k = l.length → itN (ref09_Swung_L0 b l) (k + 1) (i : Int) = some (if upto b.2.2.1 b.2.2.2.1.length l i k = true then .inr () else .inl false) := by
    intro k
    induction k with
    | zero =>
      intro i h
      have : i = l.length := by omega
      subst this
      exact itN_stop (by unfold ref09_Swung_L0; rw [if_neg lenI_stop]; rfl)
    | succ k ih =>
      intro i h
      have e := Swung_step b hG l hl i (by omega)
      rw [upto_succ]
      cases ho : okW9 b.2.2.1 b.2.2.2.1.length l i with
      | false => rw [ho, if_neg (by simp)] at e; rw [itN_stop e]; rfl
      | true => rw [ho, if_pos rfl] at e; rw [itN_go e, ih (i + 1) (by omega), Bool.true_and]
  have h := this l.length 0 (by omega)
  unfold ref09_Swung
  rw [show (0 : Int) = ((0 : Nat) : Int) from rfl, iter_of h (by omega)]
  cases upto b.2.2.1 b.2.2.2.1.length l 0 l.length <;> rfl

/-! the stage's rows -/
def rowsG (n : Nat) (l : List Swg) : List (List Swg) := (List.range n).map fun (g : Nat) => rowG (g : Int) l
theorem gi_rows {n : Nat} {l : List Swg} {g : Int} (h0 : 0 ≤ g) (h1 : g < n) : gi (rowsG n l) g = some (rowG g l) := by
  unfold gi rowsG
  rw [if_pos h0, List.getElem?_map, List.getElem?_range (by omega)]
  simp [Int.toNat_of_nonneg h0]
theorem rows_snoc {n : Nat} {l : List Swg} {x : Swg} (h0 : 0 ≤ x.2.1) (h1 : x.2.1 < n) : lset (rowsG n l) x.2.1 (rowG x.2.1 l ++ [x]) = rowsG n (l ++ [x]) := by
  apply List.ext_getElem?
  intro j
  unfold lset rowsG
  rw [List.getElem?_set]
  by_cases hj : x.2.1.toNat = j
  · subst hj
    simp only [List.length_map, List.length_range, show x.2.1.toNat < n by omega, if_true, List.getElem?_map, List.getElem?_range (show x.2.1.toNat < n by omega), Option.map_some, Int.toNat_of_nonneg h0]
    rw [rowG_snoc, if_pos rfl]
  · rw [if_neg hj]
    by_cases hj2 : j < n
    · simp only [List.getElem?_map, List.getElem?_range hj2, Option.map_some]
      rw [rowG_snoc, if_neg (by omega), List.append_nil]
    · simp [show ¬ j < n from hj2]
/-- on, off, on, .. -/
def alt (r : List Swg) : Prop := ∀ k (h : k < r.length), r[k].2.2 = decide (k % 2 = 0)
theorem alt_snoc {r : List Swg} {x : Swg} (h : alt r) (hx : x.2.2 = decide (r.length % 2 = 0)) : alt (r ++ [x]) := fun k hk => by
  by_cases hk2 : k < r.length
  · rw [List.getElem_append_left hk2]; exact h k hk2
  · have : k = r.length := by simp at hk; omega
    subst this
    simpa using hx
theorem alt_last {r : List Swg} (h : alt r) : (match r.getLast? with | none => r.length = 0 | some y => 0 < r.length ∧ gi r ((r.length : Int) - 1) = some y ∧ y.2.2 = !decide (r.length % 2 = 0)) := by
  cases hr : r.getLast? with
  | none => simp only; rw [List.getLast?_eq_none_iff] at hr; simp [hr]
  | some y =>
    simp only
    rw [List.getLast?_eq_getElem?] at hr
    obtain ⟨h1, h2⟩ := List.getElem?_eq_some_iff.1 hr
    have h3 := h _ h1
    refine ⟨by omega, ?_, ?_⟩
    · rw [show (r.length : Int) - 1 = ((r.length - 1 : Nat) : Int) by omega, gi_nat]; exact hr
    · rw [← h2, h3, Bool.eq_iff_iff]; simp; omega
theorem swung_step (b : Belt) (f : List Fed) (hG : (b.2.2.2.1.length : Int) ≤ 8) (l : List Swg) (hl : l.length ≤ 1000) (i : Nat) (hi : i < l.length) (ha : ∀ g, alt (rowG g (l.take i))) :
    sort_line_swung_L0 (some (b, f)) l ((i : Int), rowsG b.2.2.2.1.length (l.take i)) = some (if okW9 b.2.2.1 b.2.2.2.1.length l i = true then .inl (((i + 1 : Nat) : Int), rowsG b.2.2.2.1.length (l.take (i + 1))) else .inr (.inl ([], false))) := by
  unfold sort_line_swung_L0
  simp only
  rw [if_pos (lenI_lt.2 hi), gi_cast hi, w64_add1 (by omega)]
  simp only [Option.bind_some, from1, after_eq]
  rw [w64_id (x := lenI b.2.2.2.1 - 1) (by rw [lenI_eq]; omega) (by rw [lenI_eq]; omega), lenI_eq b.2.2.2.1]
  rw [okW9_eq hi]
  cases hw : wi 0 ((b.2.2.2.1.length : Int) - 1) l[i].2.1 with
  | false => simp
  | true =>
    rw [wi_iff] at hw
    simp only [Bool.not_true, Bool.false_eq_true, if_false, Bool.true_and]
    have hprev : (if decide (0 < (i : Int)) = true then (gi l (w64 ((i : Int) - 1))).bind fun v3 => (sort_order v3 l[i]).bind fun v7 => some (decide (0 ≤ v7)) else some false) = some !prevOk l i l[i] := by
      unfold prevOk
      cases i with
      | zero => simp
      | succ j =>
        obtain ⟨o, ho1, ho2⟩ := order_eq l[j] l[j + 1]
        rw [if_pos (by simp only [decide_eq_true_eq]; omega), sub1_cast (by omega) (by omega), gi_cast (show j + 1 - 1 < l.length by omega)]
        simp only [Option.bind_some, Nat.add_sub_cancel]
        rw [List.getElem?_eq_getElem (by omega), ho1]
        simp only [Option.bind_some, ho2]
    rw [hprev]
    simp only [Option.bind_some]
    generalize prevOk l i l[i] = pr
    cases pr with
    | false => simp
    | true =>
      simp only [Bool.not_true, Bool.false_eq_true, if_false, Bool.true_and]
      have hrow := gi_rows (n := b.2.2.2.1.length) (l := l.take i) hw.1 (show l[i].2.1 < (b.2.2.2.1.length : Int) by omega)
      simp only [hrow, Option.bind_some]
      have hal := alt_last (ha l[i].2.1)
      have hlen : (rowG l[i].2.1 (l.take i)).length ≤ 1000 := by
        have := List.length_filter_le (fun x : Swg => x.2.1 == l[i].2.1) (l.take i)
        unfold rowG
        rw [List.length_take] at this; omega
      have hrs := rows_snoc (n := b.2.2.2.1.length) (l := l.take i) (x := l[i]) hw.1 (by omega)
      rw [List.take_append_getElem hi] at hrs
      have hgr : grem (lenI (rowG l[i].2.1 (l.take i))) 2 = some (((rowG l[i].2.1 (l.take i)).length : Int) % 2) := by
        unfold grem; rw [if_neg (by omega), lenI_eq, Int.tmod_eq_emod_of_nonneg (by omega)]
      have happ : gapp (rowG l[i].2.1 (l.take i)) [l[i]] = some (rowG l[i].2.1 (l.take i) ++ [l[i]]) := gapp_some (by simp; omega)
      rw [hgr, happ]
      simp only [Option.bind_some, gsame, if_true]
      rw [hrs]
      cases hg : (rowG l[i].2.1 (l.take i)).getLast? with
      | none =>
        rw [hg] at hal
        simp only at hal
        rw [lastOk_none]
        rw [lenI_eq, hal]
        cases hx : l[i].2.2 <;> simp
      | some y =>
        rw [hg] at hal
        simp only at hal
        rw [lastOk_some]
        obtain ⟨h1, h2, h3⟩ := hal
        rw [lenI_eq, w64_id (x := ((rowG l[i].2.1 (l.take i)).length : Int) - 1) (by omega) (by omega), h2]
        simp only [Option.bind_some, after_eq]
        have hd : (((rowG l[i].2.1 (l.take i)).length : Int) % 2 == 0) = decide ((rowG l[i].2.1 (l.take i)).length % 2 = 0) := by
          rw [Bool.eq_iff_iff]; simp; omega
        rw [hd, if_pos (show decide ((0 : Int) < ((rowG l[i].2.1 (l.take i)).length : Int)) = true by simp only [decide_eq_true_eq]; omega), h3]
        cases decide ((rowG l[i].2.1 (l.take i)).length % 2 = 0) <;> cases hx : l[i].2.2 <;> cases early l[i].1 y.1 (imax b.2.2.1 1) <;> simp
theorem alt_step {slow G : Int} {l : List Swg} {i : Nat} (hi : i < l.length) (ho : okW9 slow G l i = true) (ha : ∀ g, alt (rowG g (l.take i))) (g : Int) : alt (rowG g (l.take (i + 1))) := by
  rw [← List.take_append_getElem hi, rowG_snoc]
  by_cases hg : l[i].2.1 = g
  · rw [if_pos hg]
    apply alt_snoc (ha g)
    rw [okW9_eq hi] at ho
    simp only [Bool.and_eq_true] at ho
    have hal := alt_last (ha l[i].2.1)
    rw [hg] at ho hal
    unfold lastOk at ho
    cases hr : (rowG g (l.take i)).getLast? with
    | none =>
      rw [hr] at ho hal
      simp only at ho hal
      rw [hal, ho.2]; rfl
    | some y =>
      rw [hr] at ho hal
      simp only [Bool.and_eq_true] at ho hal
      have h1 := ho.2.1
      rw [hal.2.2] at h1
      cases hx : l[i].2.2 <;> cases hd : decide ((rowG g (l.take i)).length % 2 = 0) <;> simp [hx, hd] at h1 ⊢
  · rw [if_neg hg, List.append_nil]; exact ha g
theorem alt_nil : alt [] := fun k h => by simp at h
theorem alt_all {slow G : Int} {l : List Swg} (h : upto slow G l 0 l.length = true) : ∀ i, i ≤ l.length → ∀ g, alt (rowG g (l.take i))
  | 0, _, g => by rw [List.take_zero]; exact alt_nil
  | i + 1, hi, g => by
    unfold upto at h
    rw [List.all_eq_true] at h
    exact alt_step (by omega) (h i (by rw [List.mem_range'_1]; omega)) (alt_all (by unfold upto; rw [List.all_eq_true]; exact h) i (by omega)) g
theorem swung_eq (b : Belt) (f : List Fed) (hG : (b.2.2.2.1.length : Int) ≤ 8) (l : List Swg) (hl : l.length ≤ 1000) : sort_line_swung (some (b, f)) l = some (if upto b.2.2.1 b.2.2.2.1.length l 0 l.length = true then (rowsG b.2.2.2.1.length l, true) else ([], false)) := by
  have : ∀ k i : Nat, i + k = l.length → (∀ g, alt (rowG g (l.take i))) → itN (sort_line_swung_L0 (some (b, f)) l) (k + 1) ((i : Int), rowsG b.2.2.2.1.length (l.take i)) = some (if upto b.2.2.1 b.2.2.2.1.length l i k = true then .inr (rowsG b.2.2.2.1.length l) else .inl ([], false)) := by
    intro k
    induction k with
    | zero =>
      intro i h ha
      have : i = l.length := by omega
      subst this
      exact itN_stop (by unfold sort_line_swung_L0; rw [if_neg lenI_stop, List.take_length]; rfl)
    | succ k ih =>
      intro i h ha
      have e := swung_step b f hG l hl i (by omega) ha
      rw [upto_succ]
      cases ho : okW9 b.2.2.1 b.2.2.2.1.length l i with
      | false => rw [ho, if_neg (by simp)] at e; rw [itN_stop e]; rfl
      | true =>
        rw [ho, if_pos rfl] at e
        rw [itN_go e, ih (i + 1) (by omega) (fun g => alt_step (by omega) ho ha g), Bool.true_and]
  have h := this l.length 0 (by omega) (fun g => by rw [List.take_zero]; exact alt_nil)
  unfold sort_line_swung
  simp only [Option.bind_some]
  have hmk : gmk (lenI b.2.2.2.1) ([] : List Swg) = some (rowsG b.2.2.2.1.length (l.take 0)) := by
    unfold gmk
    rw [if_pos (by rw [lenI_eq]; omega), lenI_eq, Int.toNat_natCast, List.take_zero]
    unfold rowsG rowG
    simp
    exact (List.map_const' ..).symm ▸ by simp
  rw [hmk]
  simp only [Option.bind_some]
  rw [show (0 : Int) = ((0 : Nat) : Int) from rfl, iter_of h (by omega)]
  cases upto b.2.2.1 b.2.2.2.1.length l 0 l.length <;> rfl
end Go.Abs

/- Sort: belts that run with any swings. -/
set_option linter.unusedSimpArgs false
set_option linter.unusedVariables false
namespace Go.Abs
open Go

theorem u64_mod (n : Int) : IntKind.u64.wrap n = n % 18446744073709551616 := by simp [IntKind.wrap, IntKind.bits, IntKind.signed]
def inR (t : Int) : Prop := -9223372036854775808 ≤ t ∧ t ≤ 9223372036854775807
theorem early_eq {t u s : Int} (ht : inR t) (hu : inR u) (h : u ≤ t) (hs : 0 ≤ s ∧ s ≤ 10) : early t u s = decide (t - u < s) := by
  unfold inR at ht hu
  unfold early
  rw [u64_mod, u64_mod, u64_mod, u64_mod, ← Int.sub_emod, Int.emod_eq_of_lt (by omega) (by omega), Int.emod_eq_of_lt (a := s) (by omega) (by omega)]
theorem lt2_trans {x y z : Swg} (h1 : lt2 x y = true) (h2 : lt2 y z = true) : lt2 x z = true := by
  unfold lt2 at *
  simp only [Bool.or_eq_true, Bool.and_eq_true, decide_eq_true_eq, beq_iff_eq] at *
  omega
theorem sorted_all {slow G : Int} {l : List Swg} (h : upto slow G l 0 l.length = true) : l.Pairwise fun x y => lt2 x y = true := by
  have h1 : ∀ i (hi : i + 1 < l.length), lt2 l[i] l[i + 1] = true := fun i hi => by
    unfold upto at h
    rw [List.all_eq_true] at h
    have := h (i + 1) (by rw [List.mem_range'_1]; omega)
    rw [okW9_eq hi] at this
    simp only [Bool.and_eq_true] at this
    have h3 := this.1.2
    unfold prevOk at h3
    simp only at h3
    rw [List.getElem?_eq_getElem (by omega)] at h3
    exact h3
  rw [List.pairwise_iff_getElem]
  intro i j hi hj hij
  induction j with
  | zero => omega
  | succ j ih =>
    by_cases e : i = j
    · subst e; exact h1 i hj
    · exact lt2_trans (ih (by omega) (by omega)) (h1 j hj)
theorem sorted_row {slow G : Int} {l : List Swg} (h : upto slow G l 0 l.length = true) (g : Int) : (rowG g l).Pairwise fun x y => x.1 < y.1 := by
  have h2 := (sorted_all h).filter (fun x : Swg => x.2.1 == g)
  refine List.Pairwise.imp_of_mem ?_ h2
  intro x y hx hy hl
  unfold rowG at hx hy
  rw [List.mem_filter] at hx hy
  unfold lt2 at hl
  simp only [Bool.or_eq_true, Bool.and_eq_true, decide_eq_true_eq, beq_iff_eq] at hl hx hy
  omega
theorem take_filter {r : List Swg} (h : r.Pairwise fun x y => x.1 < y.1) (t : Int) : r.filter (fun x => decide (x.1 ≤ t)) = r.take (r.filter (fun x => decide (x.1 ≤ t))).length := by
  induction r with
  | nil => rfl
  | cons x r ih =>
    rw [List.pairwise_cons] at h
    by_cases hx : x.1 ≤ t
    · have e : (x :: r).filter (fun x => decide (x.1 ≤ t)) = x :: r.filter (fun x => decide (x.1 ≤ t)) := List.filter_cons_of_pos (by simpa using hx)
      rw [e, List.length_cons, List.take_succ_cons, ← ih h.2]
    · have e : (x :: r).filter (fun x => decide (x.1 ≤ t)) = [] := by
        rw [List.filter_eq_nil_iff]
        intro y hy
        rw [List.mem_cons] at hy
        rcases hy with rfl | hy
        · simpa using hx
        · have := h.1 y hy; simp; omega
      rw [e]; rfl
/-- those of a gate up to a time -/
def seg (k t : Int) (l : List Swg) : List Swg := (rowG k l).filter fun x => decide (x.1 ≤ t)
theorem seg_cons (k t : Int) (x : Swg) (l : List Swg) : seg k t (x :: l) = if x.2.1 = k ∧ x.1 ≤ t then x :: seg k t l else seg k t l := by
  unfold seg rowG
  by_cases h1 : x.2.1 = k <;> by_cases h2 : x.1 ≤ t <;> simp [h1, h2]
def stG (slow t : Int) (T : List Swg) : Nat := if (T.any fun x => early t x.1 slow) = true then 2 else if (match T.getLast? with | none => false | some y => y.2.2) = true then 1 else 0
theorem any_last {slow t : Int} (hs : 0 ≤ slow ∧ slow ≤ 10) (ht : inR t) : ∀ {T : List Swg}, (T.Pairwise fun x y => x.1 < y.1) → (∀ x ∈ T, inR x.1 ∧ x.1 ≤ t) → (T.any fun x => early t x.1 slow) = (match T.getLast? with | none => false | some y => early t y.1 slow)
  | [], _, _ => rfl
  | [x], _, _ => by simp
  | x :: y :: T, h, hb => by
    have ih := any_last hs ht (T := y :: T) (List.pairwise_cons.1 h).2 (fun z hz => hb z (List.mem_cons_of_mem _ hz))
    rw [List.any_cons, ih, List.getLast?_cons_cons]
    cases hl : (y :: T).getLast? with
    | none => simp at hl
    | some z =>
      have hz := List.mem_of_getLast? hl
      have h1 := (List.pairwise_cons.1 h).1 z hz
      have hx := hb x (by simp)
      have hz2 := hb z (List.mem_cons_of_mem _ hz)
      simp only
      rw [early_eq ht hx.1 hx.2 hs, early_eq ht hz2.1 hz2.2 hs, Bool.eq_iff_iff]
      simp; omega
/-- the reference's passing: what was early, what is open -/
def passT (s t : Int) : List Swg → Bool → (Bool × Bool) ⊕ Bool
  | [], o => .inr o
  | x :: r, o => if early t x.1 s = true then .inl (true, o) else passT s t r x.2.2
theorem passT_eq (s t : Int) : ∀ (T : List Swg) (o : Bool), (match passT s t T o with | .inl p => p.1 = true ∧ (T.any fun x => early t x.1 s) = true | .inr q => (T.any fun x => early t x.1 s) = false ∧ q = (match T.getLast? with | none => o | some y => y.2.2))
  | [], o => ⟨rfl, rfl⟩
  | x :: r, o => by
    simp only [passT, List.any_cons]
    by_cases h : early t x.1 s = true
    · rw [if_pos h, h]; exact ⟨rfl, rfl⟩
    · rw [if_neg h, Bool.eq_false_iff.2 h, Bool.false_or]
      have ih := passT_eq s t r x.2.2
      cases hp : passT s t r x.2.2 with
      | inl p => rw [hp] at ih; exact ih
      | inr q =>
        rw [hp] at ih
        refine ⟨ih.1, ih.2.trans ?_⟩
        cases r with
        | nil => rfl
        | cons y r => rw [List.getLast?_cons_cons]; cases hy : (y :: r).getLast? with
          | none => simp at hy
          | some z => rfl
theorem passes_L0 (b : Belt) (l : List Swg) (k t : Int) (hl : l.length ≤ 1000) : ∀ n i : Nat, ∀ o : Bool, i + n = l.length → itN (ref09_passes_L0 b l k t) (n + 1) ((i : Int), o) = some (passT b.2.2.1 t (seg k t (l.drop i)) o)
  | 0, i, o, h => by
    have : i = l.length := by omega
    subst this
    rw [List.drop_length]
    exact itN_stop (by unfold ref09_passes_L0; rw [if_neg lenI_stop]; rfl)
  | n + 1, i, o, h => by
    have hi : i < l.length := by omega
    have ih := fun o => passes_L0 b l k t hl n (i + 1) o (by omega)
    rw [List.drop_eq_getElem_cons hi]
    have hun : ref09_passes_L0 b l k t ((i : Int), o) = (if (l[i].2.1 != k) = true then some (.inl (((i + 1 : Nat) : Int), o)) else if decide (t < l[i].1) = true then some (.inl (((i + 1 : Nat) : Int), o)) else if early t l[i].1 b.2.2.1 = true then some (.inr (.inl (true, o))) else some (.inl (((i + 1 : Nat) : Int), l[i].2.2))) := by
      unfold ref09_passes_L0
      rw [if_pos (lenI_lt.2 hi), gi_cast hi, w64_add1 (by omega)]
      simp only [Option.bind_some, before_eq]
    by_cases h1 : l[i].2.1 = k
    · by_cases h2 : l[i].1 ≤ t
      · have e : seg k t (l[i] :: l.drop (i + 1)) = l[i] :: seg k t (l.drop (i + 1)) := by rw [seg_cons, if_pos ⟨h1, h2⟩]
        rw [e]
        simp only [passT]
        rw [if_neg (by simpa using h1), if_neg (by simpa using h2)] at hun
        by_cases h3 : early t l[i].1 b.2.2.1 = true
        · rw [if_pos h3] at hun ⊢; exact itN_stop hun
        · rw [if_neg h3] at hun ⊢; rw [itN_go hun, ih]
      · have e : seg k t (l[i] :: l.drop (i + 1)) = seg k t (l.drop (i + 1)) := by rw [seg_cons, if_neg fun h => h2 h.2]
        rw [e]
        rw [if_neg (by simpa using h1), if_pos (by simp; omega)] at hun
        rw [itN_go hun, ih]
    · have e : seg k t (l[i] :: l.drop (i + 1)) = seg k t (l.drop (i + 1)) := by rw [seg_cons, if_neg fun h => h1 h.1]
      rw [e]
      rw [if_pos (by simpa using h1)] at hun
      rw [itN_go hun, ih]
theorem passes_eq (b : Belt) (l : List Swg) (k t : Int) (hl : l.length ≤ 1000) : ∃ p, ref09_passes b l k t = some p ∧ (if stG b.2.2.1 t (seg k t l) = 2 then p.1 = true else p = (false, decide (stG b.2.2.1 t (seg k t l) = 1))) := by
  have h := passes_L0 b l k t hl l.length 0 false (by omega)
  rw [List.drop_zero] at h
  unfold ref09_passes
  rw [show ((0 : Int), false) = (((0 : Nat) : Int), false) from rfl, iter_of h (by omega)]
  have h2 := passT_eq b.2.2.1 t (seg k t l) false
  unfold stG
  simp only [Option.bind_some]
  cases hp : passT b.2.2.1 t (seg k t l) false with
  | inl p => rw [hp] at h2; simp only at h2; exact ⟨p, rfl, by rw [h2.2]; simp [h2.1]⟩
  | inr q =>
    rw [hp] at h2
    simp only at h2
    refine ⟨(false, q), rfl, ?_⟩
    rw [h2.1, ← h2.2]
    cases q <;> simp
/-- one part on its way -/
def runG (slow tick read e : Int) (l : List Swg) : List (Int × Int) → Nat → (List (Int × Int × Int) × Int) ⊕ (Int × Int × Int)
  | [], _ => .inr (read, -1, e)
  | g :: r, k => if stG slow (w64 (tick + g.1)) (seg k (w64 (tick + g.1)) l) = 2 then .inl ([], 92) else if stG slow (w64 (tick + g.1)) (seg k (w64 (tick + g.1)) l) = 1 then .inr (read, g.2, w64 (tick + g.1)) else runG slow tick read e l r (k + 1)
theorem ref_L1 (b : Belt) (f : List Fed) (l : List Swg) (v2 : Int × List (Int × Int × Int)) (x : Fed) (hx : gi f v2.1 = some x) (hl : l.length ≤ 1000) (hg : b.2.2.2.1.length ≤ 1000) (hb : ∀ g ∈ b.2.2.2.1, 0 ≤ g.2) (read e : Int) : ∀ n k : Nat, k + n = b.2.2.2.1.length → itN (ref09_Run_L1 b f l v2) (n + 2) ((k : Int), read, -1, e) = some (runG b.2.2.1 x.1 read e l (b.2.2.2.1.drop k) k)
  | 0, k, h => by
    have : k = b.2.2.2.1.length := by omega
    subst this
    rw [List.drop_length]
    exact itN_stop (by unfold ref09_Run_L1; rw [if_neg lenI_stop]; rfl)
  | n + 1, k, h => by
    have hk : k < b.2.2.2.1.length := by omega
    have ih := ref_L1 b f l v2 x hx hl hg hb read e n (k + 1) (by omega)
    rw [List.drop_eq_getElem_cons hk]
    obtain ⟨p, h1, h2⟩ := passes_eq b l k (w64 (x.1 + b.2.2.2.1[k].1)) hl
    have hun : ref09_Run_L1 b f l v2 ((k : Int), read, -1, e) = (if p.1 = true then some (.inr (.inl ([], 92))) else if p.2 = true then some (.inl (((k + 1 : Nat) : Int), read, b.2.2.2.1[k].2, w64 (x.1 + b.2.2.2.1[k].1))) else some (.inl (((k + 1 : Nat) : Int), read, -1, e))) := by
      unfold ref09_Run_L1
      rw [if_pos (lenI_lt.2 hk), if_pos (by simp), hx, gi_cast hk, w64_add1 (by omega)]
      simp only [Option.bind_some, h1]
    simp only [runG]
    by_cases h3 : stG b.2.2.1 (w64 (x.1 + b.2.2.2.1[k].1)) (seg k (w64 (x.1 + b.2.2.2.1[k].1)) l) = 2
    · rw [if_pos h3] at h2 ⊢
      rw [h2, if_pos rfl] at hun
      exact itN_stop hun
    · rw [if_neg h3] at h2 ⊢
      rw [h2] at hun
      by_cases h4 : stG b.2.2.1 (w64 (x.1 + b.2.2.2.1[k].1)) (seg k (w64 (x.1 + b.2.2.2.1[k].1)) l) = 1
      · rw [if_pos h4]
        simp only [h4, decide_true, Bool.false_eq_true, if_false, if_true] at hun
        rw [itN_go hun]
        have hpos := hb b.2.2.2.1[k] (List.getElem_mem _)
        refine itN_stop ?_
        unfold ref09_Run_L1
        by_cases hk2 : k + 1 < b.2.2.2.1.length
        · rw [if_pos (lenI_lt.2 hk2), if_neg (by simp; omega)]
        · rw [if_neg (by rw [lenI_lt]; exact hk2)]
      · rw [if_neg h4]
        simp only [h4, decide_false, Bool.false_eq_true, if_false] at hun
        rw [itN_go hun, ih]
/-- the stage's count of swings -/
theorem run_L2 (x : Fed) (G : Nat) (l : List Swg) (v5 : Int × Int × Int × Int) (g : Int × Int) (h0 : 0 ≤ v5.1) (h1 : v5.1 < G) (hl : l.length ≤ 1000) (hs : (rowG v5.1 l).Pairwise fun x y => x.1 < y.1) :
    iter (sort_Run_L2 (rowsG G l, true) x v5 g) 0 = some ((seg v5.1 (w64 (x.1 + g.1)) l).length : Int) := by
  have hle : (rowG v5.1 l).length ≤ 1000 := by
    have := List.length_filter_le (fun x : Swg => x.2.1 == v5.1) l
    unfold rowG; omega
  have : ∀ n k : Nat, k + n = (rowG v5.1 l).length → itN (sort_Run_L2 (rowsG G l, true) x v5 g) (n + 1) (k : Int) = some ((k : Int) + (((rowG v5.1 l).drop k).filter fun y => decide (y.1 ≤ w64 (x.1 + g.1))).length) := by
    intro n
    induction n with
    | zero =>
      intro k h
      have : k = (rowG v5.1 l).length := by omega
      subst this
      rw [List.drop_length]
      exact itN_stop (by
        unfold sort_Run_L2
        simp only [gi_rows h0 h1, Option.bind_some]
        rw [if_neg lenI_stop]; simp)
    | succ n ih =>
      intro k h
      have hk : k < (rowG v5.1 l).length := by omega
      have hun : sort_Run_L2 (rowsG G l, true) x v5 g (k : Int) = (if decide ((rowG v5.1 l)[k].1 ≤ w64 (x.1 + g.1)) = true then some (.inl ((k + 1 : Nat) : Int)) else some (.inr (k : Int))) := by
        unfold sort_Run_L2
        simp only [gi_rows h0 h1, Option.bind_some]
        rw [if_pos (lenI_lt.2 hk), gi_cast hk, w64_add1 (by omega)]
        rfl
      by_cases hc : (rowG v5.1 l)[k].1 ≤ w64 (x.1 + g.1)
      · rw [if_pos (by simpa using hc)] at hun
        rw [itN_go hun, ih (k + 1) (by omega), List.drop_eq_getElem_cons hk, List.filter_cons_of_pos (by simpa using hc)]
        congr 1; simp only [List.length_cons]; push_cast; omega
      · rw [if_neg (by simpa using hc)] at hun
        rw [itN_stop hun]
        have hp := List.Pairwise.sublist (List.drop_sublist k (rowG v5.1 l)) hs
        rw [List.drop_eq_getElem_cons hk] at hp ⊢
        rw [List.pairwise_cons] at hp
        rw [show ((rowG v5.1 l)[k] :: (rowG v5.1 l).drop (k + 1)).filter (fun y => decide (y.1 ≤ w64 (x.1 + g.1))) = [] from by
          rw [List.filter_eq_nil_iff]
          intro y hy
          rw [List.mem_cons] at hy
          rcases hy with rfl | hy
          · simpa using hc
          · have := hp.1 y hy; simp; omega]
        simp
  have h := this (rowG v5.1 l).length 0 (by omega)
  rw [List.drop_zero] at h
  rw [show (0 : Int) = ((0 : Nat) : Int) from rfl, iter_of h (by omega)]
  simp [seg]
theorem w64_inR (n : Int) : inR (w64 n) := by
  unfold inR w64
  rw [IntKind.wrap_i64]; omega
theorem seg_facts {slow G : Int} {l : List Swg} (h : upto slow G l 0 l.length = true) (hr : ∀ x ∈ l, inR x.1) (k t : Int) : ((seg k t l).Pairwise fun x y => x.1 < y.1) ∧ (∀ x ∈ seg k t l, inR x.1 ∧ x.1 ≤ t) ∧ alt (seg k t l) := by
  have hs := sorted_row h k
  refine ⟨hs.filter _, fun x hx => ?_, ?_⟩
  · unfold seg rowG at hx
    simp only [List.mem_filter, decide_eq_true_eq] at hx
    exact ⟨hr x hx.1.1, hx.2⟩
  · have ha := alt_all h l.length (Nat.le_refl _) k
    rw [List.take_length] at ha
    unfold seg
    rw [take_filter hs t]
    intro i hi
    rw [List.getElem_take]
    exact ha i (by rw [List.length_take] at hi; omega)
theorem run_L1 (b : Belt) (f : List Fed) (l : List Swg) (x : Fed) (hl : l.length ≤ 1000) (hg : b.2.2.2.1.length ≤ 1000) (hsl : 0 ≤ b.2.2.1 ∧ b.2.2.1 ≤ 10) (h : upto b.2.2.1 b.2.2.2.1.length l 0 l.length = true) (hr : ∀ x ∈ l, inR x.1) (read e : Int) : ∀ n k : Nat, k + n = b.2.2.2.1.length → itN (sort_Run_L1 b (rowsG b.2.2.2.1.length l, true) x) (n + 1) ((k : Int), read, -1, e) = some (runG b.2.2.1 x.1 read e l (b.2.2.2.1.drop k) k)
  | 0, k, hk => by
    have : k = b.2.2.2.1.length := by omega
    subst this
    rw [List.drop_length]
    exact itN_stop (by unfold sort_Run_L1; rw [if_neg lenI_stop]; rfl)
  | n + 1, k, hk => by
    have hk2 : k < b.2.2.2.1.length := by omega
    have ih := run_L1 b f l x hl hg hsl h hr read e n (k + 1) (by omega)
    rw [List.drop_eq_getElem_cons hk2]
    have hc := run_L2 x b.2.2.2.1.length l ((k : Int), read, -1, e) b.2.2.2.1[k] (by simp) (by simp; omega) hl (sorted_row h k)
    simp only at hc
    obtain ⟨f1, f2, f3⟩ := seg_facts h hr k (w64 (x.1 + b.2.2.2.1[k].1))
    have hlast := any_last hsl (w64_inR _) f1 f2
    have hal := alt_last f3
    have hpre : ∀ j : Nat, j < (seg k (w64 (x.1 + b.2.2.2.1[k].1)) l).length → gi (rowG k l) (j : Int) = gi (seg k (w64 (x.1 + b.2.2.2.1[k].1)) l) (j : Int) := fun j hj => by
      have e1 : seg k (w64 (x.1 + b.2.2.2.1[k].1)) l = (rowG k l).take (seg k (w64 (x.1 + b.2.2.2.1[k].1)) l).length := by
        unfold seg; exact take_filter (sorted_row h k) _
      rw [gi_nat, gi_nat]
      conv => rhs; rw [e1]
      rw [List.getElem?_take, if_pos hj]
    have hle : (seg k (w64 (x.1 + b.2.2.2.1[k].1)) l).length ≤ 1000 := by
      have h1 := List.length_filter_le (fun y : Swg => decide (y.1 ≤ w64 (x.1 + b.2.2.2.1[k].1))) (rowG k l)
      have h2 := List.length_filter_le (fun y : Swg => y.2.1 == (k : Int)) l
      unfold seg; unfold rowG at h1 ⊢; omega
    have hgk : gi (rowsG b.2.2.2.1.length l) (k : Int) = some (rowG k l) := gi_rows (by omega) (by omega)
    have hun : sort_Run_L1 b (rowsG b.2.2.2.1.length l, true) x ((k : Int), read, -1, e) = (if stG b.2.2.1 (w64 (x.1 + b.2.2.2.1[k].1)) (seg k (w64 (x.1 + b.2.2.2.1[k].1)) l) = 2 then some (.inr (.inl ([], 92))) else if stG b.2.2.1 (w64 (x.1 + b.2.2.2.1[k].1)) (seg k (w64 (x.1 + b.2.2.2.1[k].1)) l) = 1 then some (.inr (.inr (read, b.2.2.2.1[k].2, w64 (x.1 + b.2.2.2.1[k].1)))) else some (.inl (((k + 1 : Nat) : Int), read, -1, e))) := by
      unfold sort_Run_L1 stG
      rw [if_pos (lenI_lt.2 hk2), gi_cast hk2, w64_add1 (by omega)]
      simp only [Option.bind_some, hc, hgk, after_eq]
      rw [hlast]
      generalize hT : seg k (w64 (x.1 + b.2.2.2.1[k].1)) l = T at *
      have hgr : grem (T.length : Int) 2 = some ((T.length : Int) % 2) := by
        unfold grem; rw [if_neg (by omega), Int.tmod_eq_emod_of_nonneg (by omega)]
      rw [hgr]
      cases hg : T.getLast? with
      | none =>
        rw [hg] at hal
        simp only at hal
        rw [hal]
        simp
      | some y =>
        rw [hg] at hal
        simp only at hal
        obtain ⟨a1, a2, a3⟩ := hal
        have hsub : w64 ((T.length : Int) - 1) = ((T.length - 1 : Nat) : Int) := by rw [w64_id (by omega) (by omega)]; omega
        rw [if_pos (by simpa using a1), hsub, hpre (T.length - 1) (by omega), show ((T.length - 1 : Nat) : Int) = (T.length : Int) - 1 by omega, a2]
        simp only [Option.bind_some, Bool.not_not, a3]
        have hd : ((T.length : Int) % 2 == 1) = !decide (T.length % 2 = 0) := by rw [Bool.eq_iff_iff]; simp; omega
        rw [hd]
        cases early (w64 (x.1 + b.2.2.2.1[k].1)) y.1 b.2.2.1 <;> cases decide (T.length % 2 = 0) <;> simp
    simp only [runG]
    by_cases h3 : stG b.2.2.1 (w64 (x.1 + b.2.2.2.1[k].1)) (seg k (w64 (x.1 + b.2.2.2.1[k].1)) l) = 2
    · rw [if_pos h3] at hun ⊢; exact itN_stop hun
    · rw [if_neg h3] at hun ⊢
      by_cases h4 : stG b.2.2.1 (w64 (x.1 + b.2.2.2.1[k].1)) (seg k (w64 (x.1 + b.2.2.2.1[k].1)) l) = 1
      · rw [if_pos h4] at hun ⊢; exact itN_stop hun
      · rw [if_neg h4] at hun ⊢; rw [itN_go hun, ih]
theorem gates_bins : ∀ {hi : Int} {l : List (Int × Int)} {m : Int} {s : List Int}, gatesF hi l m s = true → ∀ g ∈ l, 0 ≤ g.2
  | _, [], _, _, _, g, hg => by simp at hg
  | hi, x :: l, m, s, h, g, hg => by
    simp only [gatesF, Bool.and_eq_true, wi_iff] at h
    rw [List.mem_cons] at hg
    rcases hg with rfl | hg
    · exact h.1.1.2.1
    · exact gates_bins h.2 g hg
theorem fed_said : ∀ {l : List Fed} {m : Int}, fedF l m = true → ∀ x ∈ l, saidR x.2.2 = true
  | [], _, _, x, hx => by simp at hx
  | y :: l, m, h, x, hx => by
    simp only [fedF, Bool.and_eq_true] at h
    rw [List.mem_cons] at hx
    rcases hx with rfl | hx
    · exact h.1.2
    · exact fed_said h.2 x hx
theorem SameFates_self (v : List (Int × Int × Int)) (h : v.length ≤ 1000) : ref09_SameFates v v = some true := by
  unfold ref09_SameFates
  rw [if_neg (by simp), range_any (F := ref09_SameFates_L0 v v) false v (by omega) (fun i x => false) (fun i hi => by
    unfold ref09_SameFates_L0
    rw [if_pos (lenI_lt.2 hi), gi_cast hi, w64_add1 (by omega)]
    simp) (by unfold ref09_SameFates_L0; rw [if_neg lenI_stop])]
  have : (v.zipIdx.any fun x => false) = false := by simp
  rw [this]; rfl
theorem Run_same (b : Belt) (f : List Fed) (l : List Swg) (hg : b.2.2.2.1.length ≤ 1000) (hb : b.2.2.2.2.length ≤ 1000) (hf : ∀ x ∈ f, x.2.2.length ≤ 1000) (hfl : f.length ≤ 1000) (hl : l.length ≤ 1000) (hr : ∀ x ∈ l, inR x.1) :
    ∃ v, sort_Run b f l = some v ∧ ref09_Run b f l = some v ∧ v.1.length ≤ 1000 := by
  unfold sort_Run ref09_Run
  rw [lay_eq b f hg hb hf hfl, asked_eq b f hf]
  by_cases h1 : beltR b = true
  · by_cases h2 : fedR f = true
    · rw [if_pos h1, if_pos h2, if_pos h1, if_pos h2]
      have hbelt := h1
      have hfed := h2
      unfold beltR at hbelt
      unfold fedR at hfed
      simp only [Bool.and_eq_true, decide_eq_true_eq, wi_iff] at hbelt hfed
      have hG := hbelt.1.1.1.2
      simp only [Option.bind_some]
      rw [if_neg (by simp), if_neg (by simp), swung_eq b f hG l hl, Swung_eq b hG l hl]
      by_cases hu : upto b.2.2.1 b.2.2.2.1.length l 0 l.length = true
      · rw [if_pos hu, hu]
        simp only [Option.bind_some, Bool.not_true, Bool.false_eq_true, if_false]
        have key : ∀ v2 : Int × List (Int × Int × Int), ∀ i : Nat, (hi : i < f.length) → v2.1 = (i : Int) →
            let r := runG b.2.2.1 f[i].1 (seenR f[i].2.2) (w64 (f[i].1 + b.1)) l b.2.2.2.1 0
            sort_Run_L0 b f (rowsG b.2.2.2.1.length l, true) v2 = (match r with | .inl e => some (.inr (.inl e)) | .inr y => (gapp v2.2 [y]).bind fun v => some (.inl (((i + 1 : Nat) : Int), v))) ∧
            ref09_Run_L0 b f l v2 = (match r with | .inl e => some (.inr (.inl e)) | .inr y => (gapp v2.2 [y]).bind fun v => some (.inl (((i + 1 : Nat) : Int), v))) := by
          intro v2 i hi hv r
          have hgi : gi f v2.1 = some f[i] := by rw [hv, gi_cast hi]
          have hsaid := saidR_spec (fed_said hfed.2 f[i] (List.getElem_mem hi))
          have m1 := run_L1 b f l f[i] hl hg hbelt.1.1.1.1.2 hu hr (seenR f[i].2.2) (w64 (f[i].1 + b.1)) b.2.2.2.1.length 0 (by omega)
          have m2 := ref_L1 b f l v2 f[i] hgi hl hg (gates_bins hbelt.2) (seenR f[i].2.2) (w64 (f[i].1 + b.1)) b.2.2.2.1.length 0 (by omega)
          rw [List.drop_zero] at m1 m2
          have hlt : decide (v2.1 < lenI f) = true := by rw [hv]; exact lenI_lt.2 hi
          have hw : w64 (v2.1 + 1) = ((i + 1 : Nat) : Int) := by rw [hv]; exact w64_add1 (by omega)
          constructor
          · unfold sort_Run_L0
            rw [if_pos hlt, hgi]
            simp only [Option.bind_some]
            rw [read_eq _ (by omega) (fun x hx => (hsaid.2.2 x hx).2)]
            simp only [Option.bind_some]
            rw [show ((0 : Int), seenR f[i].2.2, (-1 : Int), w64 (f[i].1 + b.1)) = (((0 : Nat) : Int), seenR f[i].2.2, (-1 : Int), w64 (f[i].1 + b.1)) from rfl, iter_of m1 (by omega), hw]
            simp only [Option.bind_some]
            show (match r with | .inl v18 => _ | .inr v19 => _) = _
            cases r <;> rfl
          · unfold ref09_Run_L0
            rw [if_pos hlt, hgi]
            simp only [Option.bind_some]
            rw [Seen_eq _ (by omega)]
            simp only [Option.bind_some]
            rw [show ((0 : Int), seenR f[i].2.2, (-1 : Int), w64 (f[i].1 + b.1)) = (((0 : Nat) : Int), seenR f[i].2.2, (-1 : Int), w64 (f[i].1 + b.1)) from rfl, iter_of m2 (by omega), hw]
            simp only [Option.bind_some]
            show (match r with | .inl v18 => _ | .inr v19 => _) = _
            cases r <;> rfl
        have go : ∀ n i : Nat, ∀ s : List (Int × Int × Int), i + n = f.length → s.length = i → ∃ z : ((List (Int × Int × Int)) × Int) ⊕ List (Int × Int × Int), itN (sort_Run_L0 b f (rowsG b.2.2.2.1.length l, true)) (n + 1) ((i : Int), s) = some z ∧ itN (ref09_Run_L0 b f l) (n + 1) ((i : Int), s) = some z ∧ (match z with | .inl e => e.1.length ≤ 1000 | .inr e => e.length ≤ 1000) := by
          intro n
          induction n with
          | zero =>
            intro i s h hs
            have : i = f.length := by omega
            subst this
            exact ⟨.inr s, itN_stop (by unfold sort_Run_L0; rw [if_neg lenI_stop]), itN_stop (by unfold ref09_Run_L0; rw [if_neg lenI_stop]), by simp only; omega⟩
          | succ n ih =>
            intro i s h hs
            have hi : i < f.length := by omega
            obtain ⟨k1, k2⟩ := key ((i : Int), s) i hi rfl
            cases hrr : runG b.2.2.1 f[i].1 (seenR f[i].2.2) (w64 (f[i].1 + b.1)) l b.2.2.2.1 0 with
            | inl e =>
              rw [hrr] at k1 k2
              have he : e = ([], 92) := by
                have : ∀ (gs : List (Int × Int)) (k : Nat) (read en : Int), ∀ e, runG b.2.2.1 f[i].1 read en l gs k = .inl e → e = ([], 92) := by
                  intro gs
                  induction gs with
                  | nil => intro k read en e h; cases h
                  | cons g gs ih =>
                    intro k read en e h
                    simp only [runG] at h
                    split at h
                    · cases h; rfl
                    · split at h
                      · cases h
                      · exact ih _ _ _ _ h
                exact this _ _ _ _ _ hrr
              exact ⟨.inl e, itN_stop k1, itN_stop k2, by subst he; simp⟩
            | inr y =>
              rw [hrr] at k1 k2
              simp only at k1 k2
              rw [gapp_some (by simp; omega)] at k1 k2
              obtain ⟨z, z1, z2, z3⟩ := ih (i + 1) (s ++ [y]) (by omega) (by simp; omega)
              exact ⟨z, by rw [itN_go k1]; exact z1, by rw [itN_go k2]; exact z2, z3⟩
        obtain ⟨z, z1, z2, z3⟩ := go f.length 0 [] (by omega) rfl
        rw [show ((0 : Int), ([] : List (Int × Int × Int))) = (((0 : Nat) : Int), []) from rfl, iter_of z1 (by omega), iter_of z2 (by omega)]
        cases z with
        | inl e => exact ⟨e, rfl, rfl, z3⟩
        | inr e => exact ⟨(e, 0), rfl, rfl, z3⟩
      · rw [if_neg hu, Bool.eq_false_iff.2 hu]
        exact ⟨([], 8), rfl, rfl, by simp⟩
    · rw [if_pos h1, if_neg h2, if_pos h1, if_neg h2]
      exact ⟨([], 91), rfl, rfl, by simp⟩
  · rw [if_neg h1, if_neg h1]
    exact ⟨([], 90), rfl, rfl, by simp⟩
theorem Great_eq (b : Belt) (f : List Fed) : ∃ r, ref09_Great b f = some r ∧ (r = false → b.2.2.2.1.length ≤ 1000 ∧ b.2.2.2.2.length ≤ 1000 ∧ (∀ x ∈ f, x.2.2.length ≤ 1000) ∧ f.length ≤ 1000) := by
  unfold ref09_Great
  rw [lenI_eq, lenI_eq, lenI_eq]
  by_cases h1 : (12 : Int) < b.2.2.2.1.length
  · exact ⟨true, by rw [if_pos (by simpa using h1)], by simp⟩
  · rw [if_neg (by simpa using h1)]
    by_cases h2 : (30 : Int) < b.2.2.2.2.length
    · exact ⟨true, by rw [if_pos (by simpa using h2)], by simp⟩
    · rw [if_neg (by simpa using h2)]
      by_cases h3 : (60 : Int) < f.length
      · exact ⟨true, by rw [if_pos (by simpa using h3)], by simp⟩
      · rw [if_neg (by simpa using h3), range_any (F := ref09_Great_L0 f) true f (by omega) (fun i x => decide (20 < x.2.2.length)) (fun i hi => by
          unfold ref09_Great_L0
          rw [if_pos (lenI_lt.2 hi), gi_cast hi, w64_add1 (by omega)]
          simp only [Option.bind_some]
          rw [lenI_eq]
          by_cases h : 20 < f[i].2.2.length
          · rw [if_pos (show decide ((20 : Int) < f[i].2.2.length) = true by simp only [decide_eq_true_eq]; omega), if_pos (decide_eq_true h)]
          · rw [if_neg (show ¬ decide ((20 : Int) < f[i].2.2.length) = true by simp only [decide_eq_true_eq]; omega), if_neg (by simpa using h)]) (by unfold ref09_Great_L0; rw [if_neg lenI_stop]), zip_any (fun x : Fed => decide (20 < x.2.2.length))]
        cases ha : f.any fun x => decide (20 < x.2.2.length) with
        | true => exact ⟨true, rfl, by simp⟩
        | false =>
          refine ⟨false, rfl, fun _ => ⟨by omega, by omega, fun x hx => ?_, by omega⟩⟩
          have := List.any_eq_false.1 ha x hx
          simp at this; omega
theorem law09_SortRuns_eq (b : Belt) (f : List Fed) (l : List Swg) (hr : ∀ x ∈ l, inR x.1) : law09_SortRuns b f l = some true := by
  unfold law09_SortRuns
  obtain ⟨r, hr1, hr2⟩ := Great_eq b f
  rw [hr1]
  simp only [Option.bind_some]
  cases r with
  | true => rfl
  | false =>
    obtain ⟨a1, a2, a3, a4⟩ := hr2 rfl
    simp only [Bool.false_eq_true, if_false]
    by_cases hl : decide (100 < lenI l) = true
    · rw [if_pos hl]
    · rw [if_neg hl]
      rw [lenI_eq, decide_eq_true_eq] at hl
      obtain ⟨v, v1, v2, v3⟩ := Run_same b f l a1 a2 a3 a4 (by omega) hr
      rw [v1, v2]
      simp only [Option.bind_some, SameFates_self v.1 v3, if_true]
      simp
end Go.Abs
