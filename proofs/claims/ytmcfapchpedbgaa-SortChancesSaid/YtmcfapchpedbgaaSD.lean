/- Go functions as Lean functions. -/
import Derived.Test.YtmcfapchpedbgaaZD3
import Derived.Test.YtmcfapchpedbgaaZE4
set_option linter.unusedSimpArgs false
set_option linter.unusedVariables false
set_option maxRecDepth 10000
set_option maxHeartbeats 2000000
namespace Go.Abs
open Go

structure Gate where
  At : Int
  Bin : Int
deriving DecidableEq
abbrev Gate.cells (x : Gate) : List AV := [(int x.At), (int x.Bin)]
theorem Gate.fr (x : Gate) : FreeL (Gate.cells x) := (FreeL.cons (.sc _) (FreeL.cons (.sc _) FreeL.nil))
theorem Gate.len (x : Gate) : (Gate.cells x).length = 2 := rfl

structure Belt where
  Length : Int
  Camera : Int
  Slow : Int
  Gates : (List Gate)
  Bins : (List Int)
deriving DecidableEq
abbrev Belt.cells (x : Belt) : List AV := [(int x.Length), (int x.Camera), (int x.Slow), (.sl (List.map Gate.cells x.Gates)), (.sl (List.map int1 x.Bins))]
theorem Belt.fr (x : Belt) : FreeL (Belt.cells x) := (FreeL.cons (.sc _) (FreeL.cons (.sc _) (FreeL.cons (.sc _) (FreeL.cons (Free.slm Gate.fr) (FreeL.cons (Free.slm fr_int1) FreeL.nil)))))
theorem Belt.len (x : Belt) : (Belt.cells x).length = 5 := rfl

structure Fed where
  Tick : Int
  Kind : Int
  Readings : (List Int)
deriving DecidableEq
abbrev Fed.cells (x : Fed) : List AV := [(int x.Tick), (int x.Kind), (.sl (List.map int1 x.Readings))]
theorem Fed.fr (x : Fed) : FreeL (Fed.cells x) := (FreeL.cons (.sc _) (FreeL.cons (.sc _) (FreeL.cons (Free.slm fr_int1) FreeL.nil)))
theorem Fed.len (x : Fed) : (Fed.cells x).length = 3 := rfl

def ref09_Great_L0 (l_5 : (List Fed)) : Nat → Int → Option (Bool ⊕ Unit)
  | 0, _ => (some (Sum.inr ()))
  | k0 + 1, i_12 => (gi l_5 i_12).bind fun e_14 => (if (decide (20 < (List.length e_14.Readings : Int))) = true then (some (Sum.inl true)) else ref09_Great_L0 l_5 k0 ((i_12 + 1)))

def ref09_Great (b_4 : Belt) (l_5 : (List Fed)) : Option Bool :=
  (if (decide (12 < (List.length b_4.Gates : Int))) = true then (some true) else (if (decide (30 < (List.length b_4.Bins : Int))) = true then (some true) else (if (decide (60 < (List.length l_5 : Int))) = true then (some true) else (ref09_Great_L0 l_5 (Int.toNat ((List.length l_5 : Int) - 0)) 0).bind (fun s_ => sumE s_ (fun r_ => (some r_)) (fun s_ => un0 s_ ((some false)))))))

def slices_IndexFunc_int_int_L0 (f_24 : Int → Option Bool) (s_23 : (List Int)) : Nat → Int → Option (Int ⊕ Unit)
  | 0, _ => (some (Sum.inr ()))
  | k0 + 1, x_35 => (gi s_23 x_35).bind fun e_38 => (f_24 e_38).bind fun r_39 => (if r_39 = true then (some (Sum.inl x_35)) else slices_IndexFunc_int_int_L0 f_24 s_23 k0 ((x_35 + 1)))

def slices_IndexFunc_int_int (s_23 : (List Int)) (f_24 : Int → Option Bool) : Option Int :=
  (slices_IndexFunc_int_int_L0 f_24 s_23 (Int.toNat ((List.length s_23 : Int) - 0)) 0).bind (fun s_ => sumE s_ (fun r_ => (some r_)) (fun s_ => un0 s_ ((some (-1)))))

def slices_ContainsFunc_int_int (s_21 : (List Int)) (f_22 : Int → Option Bool) : Option Bool :=
  (slices_IndexFunc_int_int s_21 f_22).bind fun r_40 => (some (decide (0 ≤ r_40)))

def sort_from_c1 (n_41 : Int) (c_42 : Int) (c_43 : Int) : Option Bool :=
  (if (decide (n_41 < c_42)) = true then (some true) else (some (decide (c_43 < n_41))))

def sort_from (lo_18 : Int) (hi_19 : Int) (all_20 : (List Int)) : Option Bool :=
  (slices_ContainsFunc_int_int all_20 (fun x0 => sort_from_c1 x0 lo_18 hi_19)).bind fun r_44 => (some (!r_44))

def sort_said (l_17 : (List Int)) : Option Bool :=
  (sort_from 1 9 ([(List.length l_17 : Int)])).bind fun r_45 => (if r_45 = true then (sort_from (-1) 15 l_17).bind fun r_46 => (some r_46) else (some false))

def sort_read_L0 (l_48 : (List Int)) : Nat → (List Int) → Int → Option (List Int)
  | 0, votes_61, _ => (some votes_61)
  | k0 + 1, votes_61, x_62 => (gi l_48 x_62).bind fun e_65 => (if (decide (0 ≤ e_65)) = true then (gi votes_61 e_65).bind fun e_66 => sort_read_L0 l_48 k0 ((List.set votes_61 (Int.toNat e_65) (w64 (e_66 + 1)))) ((x_62 + 1)) else sort_read_L0 l_48 k0 votes_61 ((x_62 + 1)))

def sort_read_L1 (votes_57 : (List Int)) : Nat → Int → Int → Int → Option Int
  | 0, best_76, _, _ => (some best_76)
  | k0 + 1, best_76, most_77, x_78 => (gi votes_57 x_78).bind fun e_80 => (if (decide (most_77 < e_80)) = true then sort_read_L1 votes_57 k0 x_78 e_80 ((x_78 + 1)) else (if (e_80 == most_77) = true then sort_read_L1 votes_57 k0 ((-1)) most_77 ((x_78 + 1)) else sort_read_L1 votes_57 k0 best_76 most_77 ((x_78 + 1))))

def sort_read (l_48 : (List Int)) : Option Int :=
  (sort_read_L0 l_48 (Int.toNat ((List.length l_48 : Int) - 0)) ((List.replicate 16 0)) 0).bind (fun s_ => un1 s_ fun votes_57 => (sort_read_L1 votes_57 (Int.toNat (16 - 0)) ((-1)) 0 0).bind (fun s_ => un1 s_ fun best_73 => (some best_73)))

def sort_Read (readings_16 : (List Int)) : Option (Int × Int) :=
  (sort_said readings_16).bind fun r_47 => (if (!r_47) = true then (some (0, 2)) else (sort_read readings_16).bind fun r_81 => (some (r_81, 0)))

def ref09_within (n_86 : Int) (lo_87 : Int) (hi_88 : Int) : Option Bool :=
  (if (decide (lo_87 ≤ n_86)) = true then (some (decide (n_86 ≤ hi_88))) else (some false))

def ref09_Said_L0 (l_85 : (List Int)) : Nat → Int → Option (Bool ⊕ Unit)
  | 0, _ => (some (Sum.inr ()))
  | k0 + 1, i_100 => (gi l_85 i_100).bind fun e_103 => (ref09_within e_103 (-1) 15).bind fun r_104 => (if (!r_104) = true then (some (Sum.inl false)) else ref09_Said_L0 l_85 k0 ((i_100 + 1)))

def ref09_Said (l_85 : (List Int)) : Option Bool :=
  (ref09_within (List.length l_85 : Int) 1 9).bind fun r_89 => (if (!r_89) = true then (some false) else (ref09_Said_L0 l_85 (Int.toNat ((List.length l_85 : Int) - 0)) 0).bind (fun s_ => sumE s_ (fun r_ => (some r_)) (fun s_ => un0 s_ ((some true)))))

def ref09_votes_L0 (l_107 : (List Int)) (kind_108 : Int) : Nat → Int → Int → Option Int
  | 0, n_117, _ => (some n_117)
  | k0 + 1, n_117, i_118 => (gi l_107 i_118).bind fun e_120 => (if (e_120 == kind_108) = true then ref09_votes_L0 l_107 kind_108 k0 ((w64 (n_117 + 1))) ((i_118 + 1)) else ref09_votes_L0 l_107 kind_108 k0 n_117 ((i_118 + 1)))

def ref09_votes (l_107 : (List Int)) (kind_108 : Int) : Option Int :=
  (ref09_votes_L0 l_107 kind_108 (Int.toNat ((List.length l_107 : Int) - 0)) 0 0).bind (fun s_ => un1 s_ fun n_114 => (some n_114))

def ref09_Seen_L0 (l_106 : (List Int)) : Nat → Int → Int → Bool → Int → Option (Int × Int × Bool)
  | 0, best_133, most_134, equal_135, _ => (some (best_133, most_134, equal_135))
  | k0 + 1, best_133, most_134, equal_135, kind_136 => (ref09_votes l_106 kind_136).bind fun r_138 => (if (decide (most_134 < r_138)) = true then ref09_Seen_L0 l_106 k0 kind_136 r_138 false ((kind_136 + 1)) else (if (r_138 == most_134) = true then ref09_Seen_L0 l_106 k0 best_133 most_134 true ((kind_136 + 1)) else ref09_Seen_L0 l_106 k0 best_133 most_134 equal_135 ((kind_136 + 1))))

def ref09_Seen (l_106 : (List Int)) : Option Int :=
  (ref09_Seen_L0 l_106 (Int.toNat (16 - 0)) ((-1)) 0 false 0).bind (fun s_ => un3 s_ fun best_128 most_129 equal_130 => (if (most_129 == 0) = true then (some (-1)) else (if equal_130 = true then (some (-1)) else (some best_128))))

def ref09_Read (l_84 : (List Int)) : Option (Int × Int) :=
  (ref09_Said l_84).bind fun r_105 => (if (!r_105) = true then (some (0, 2)) else (ref09_Seen l_84).bind fun r_139 => (some (r_139, 0)))

def sort_CheckBelt_L0 (b_142 : Belt) : Nat → Int → (List (Int × Bool)) → Int → Option (Int ⊕ Unit)
  | 0, _, _, _ => (some (Sum.inr ()))
  | k0 + 1, least_165, bins_166, x_167 => (gi b_142.Gates x_167).bind fun e_172 => (sort_from least_165 (w64 (b_142.Length - 1)) ([e_172.At])).bind fun r_173 => (if (!r_173) = true then (some (Sum.inl 90)) else (sort_from 0 7 ([e_172.Bin])).bind fun r_174 => (if (!r_174) = true then (some (Sum.inl 90)) else (if (((mget bins_166 e_172.Bin)).getD false) = true then (some (Sum.inl 90)) else sort_CheckBelt_L0 b_142 k0 ((w64 (e_172.At + 1))) ((mput bins_166 e_172.Bin true)) ((x_167 + 1)))))

def sort_CheckBelt (b_142 : Belt) : Option Int :=
  (sort_from 2 100 ([b_142.Length])).bind fun r_143 => (if (!r_143) = true then (some 90) else (sort_from 0 (w64 (b_142.Length - 2)) ([b_142.Camera])).bind fun r_144 => (if (!r_144) = true then (some 90) else (sort_from 0 10 ([b_142.Slow])).bind fun r_145 => (if (!r_145) = true then (some 90) else (if (decide (8 < (List.length b_142.Gates : Int))) = true then (some 90) else (if ((List.length b_142.Bins : Int) != 16) = true then (some 90) else (sort_from (-1) 7 b_142.Bins).bind fun r_146 => (if (!r_146) = true then (some 90) else (sort_CheckBelt_L0 b_142 (Int.toNat ((List.length b_142.Gates : Int) - 0)) ((w64 (b_142.Camera + 1))) ([]) 0).bind (fun s_ => sumE s_ (fun r_ => (some r_)) (fun s_ => un0 s_ ((some 0))))))))))

def ref09_Leads_L0 (b_185 : Belt) (bin_186 : Int) : Nat → Int → Option (Int ⊕ Unit)
  | 0, _ => (some (Sum.inr ()))
  | k0 + 1, i_193 => (gi b_185.Gates i_193).bind fun e_195 => (if (e_195.Bin == bin_186) = true then (some (Sum.inl i_193)) else ref09_Leads_L0 b_185 bin_186 k0 ((i_193 + 1)))

def ref09_Leads (b_185 : Belt) (bin_186 : Int) : Option Int :=
  (ref09_Leads_L0 b_185 bin_186 (Int.toNat ((List.length b_185.Gates : Int) - 0)) 0).bind (fun s_ => sumE s_ (fun r_ => (some r_)) (fun s_ => un0 s_ ((some (-1)))))

def ref09_Belt_L0 (b_177 : Belt) : Nat → Int → Option (Bool ⊕ Unit)
  | 0, _ => (some (Sum.inr ()))
  | k0 + 1, i_224 => (gi b_177.Gates i_224).bind fun e_233 => (ref09_within e_233.At (w64 (b_177.Camera + 1)) (w64 (b_177.Length - 1))).bind fun r_234 => (if (!r_234) = true then (some (Sum.inl false)) else (if (decide (0 < i_224)) = true then (gi b_177.Gates (w64 (i_224 - 1))).bind fun e_235 => (if (decide (e_233.At ≤ e_235.At)) = true then (some (Sum.inl false)) else (ref09_within e_233.Bin 0 7).bind fun r_236 => (if (!r_236) = true then (some (Sum.inl false)) else (ref09_Leads b_177 e_233.Bin).bind fun r_237 => (if (r_237 != i_224) = true then (some (Sum.inl false)) else ref09_Belt_L0 b_177 k0 ((i_224 + 1))))) else (ref09_within e_233.Bin 0 7).bind fun r_238 => (if (!r_238) = true then (some (Sum.inl false)) else (ref09_Leads b_177 e_233.Bin).bind fun r_239 => (if (r_239 != i_224) = true then (some (Sum.inl false)) else ref09_Belt_L0 b_177 k0 ((i_224 + 1))))))

def ref09_Belt_L1 (b_177 : Belt) : Nat → Int → Option (Bool ⊕ Unit)
  | 0, _ => (some (Sum.inr ()))
  | k0 + 1, i_250 => (gi b_177.Bins i_250).bind fun e_253 => (ref09_within e_253 (-1) 7).bind fun r_254 => (if (!r_254) = true then (some (Sum.inl false)) else ref09_Belt_L1 b_177 k0 ((i_250 + 1)))

def ref09_Belt (b_177 : Belt) : Option Bool :=
  (ref09_within b_177.Length 2 100).bind fun r_178 => (if (!r_178) = true then (some false) else (ref09_within b_177.Camera 0 (w64 (b_177.Length - 2))).bind fun r_179 => (if (!r_179) = true then (some false) else (ref09_within b_177.Slow 0 10).bind fun r_180 => (if (!r_180) = true then (some false) else (if (decide (8 < (List.length b_177.Gates : Int))) = true then (some false) else (if ((List.length b_177.Bins : Int) != 16) = true then (some false) else (ref09_Belt_L0 b_177 (Int.toNat ((List.length b_177.Gates : Int) - 0)) 0).bind (fun s_ => sumE s_ (fun r_ => (some r_)) (fun s_ => un0 s_ ((ref09_Belt_L1 b_177 (Int.toNat (16 - 0)) 0).bind (fun s_ => sumE s_ (fun r_ => (some r_)) (fun s_ => un0 s_ ((some true))))))))))))

def ref09_CheckBelt (b_176 : Belt) : Option Int :=
  (ref09_Belt b_176).bind fun r_255 => (if (!r_255) = true then (some 90) else (some 0))

def sort_CheckFed_L0 (l_257 : (List Fed)) : Nat → Int → Int → Option (Int ⊕ Unit)
  | 0, _, _ => (some (Sum.inr ()))
  | k0 + 1, least_279, x_280 => (gi l_257 x_280).bind fun e_286 => (sort_from least_279 1000 ([e_286.Tick])).bind fun r_287 => (if (!r_287) = true then (some (Sum.inl 91)) else (sort_from 0 15 ([e_286.Kind])).bind fun r_288 => (if (!r_288) = true then (some (Sum.inl 91)) else (sort_said e_286.Readings).bind fun r_289 => (if (!r_289) = true then (some (Sum.inl 91)) else sort_CheckFed_L0 l_257 k0 ((w64 (e_286.Tick + 1))) ((x_280 + 1)))))

def sort_CheckFed (l_257 : (List Fed)) : Option Int :=
  (if (decide (40 < (List.length l_257 : Int))) = true then (some 91) else (sort_CheckFed_L0 l_257 (Int.toNat ((List.length l_257 : Int) - 0)) 0 0).bind (fun s_ => sumE s_ (fun r_ => (some r_)) (fun s_ => un0 s_ ((some 0)))))

def ref09_Parts_L0 (l_292 : (List Fed)) : Nat → Int → Option (Bool ⊕ Unit)
  | 0, _ => (some (Sum.inr ()))
  | k0 + 1, i_325 => (gi l_292 i_325).bind fun e_334 => (ref09_within e_334.Tick 0 1000).bind fun r_335 => (if (!r_335) = true then (some (Sum.inl false)) else (if (decide (0 < i_325)) = true then (gi l_292 (w64 (i_325 - 1))).bind fun e_336 => (if (decide (e_334.Tick ≤ e_336.Tick)) = true then (some (Sum.inl false)) else (ref09_within e_334.Kind 0 15).bind fun r_337 => (if (!r_337) = true then (some (Sum.inl false)) else (ref09_Said e_334.Readings).bind fun r_338 => (if (!r_338) = true then (some (Sum.inl false)) else ref09_Parts_L0 l_292 k0 ((i_325 + 1))))) else (ref09_within e_334.Kind 0 15).bind fun r_339 => (if (!r_339) = true then (some (Sum.inl false)) else (ref09_Said e_334.Readings).bind fun r_340 => (if (!r_340) = true then (some (Sum.inl false)) else ref09_Parts_L0 l_292 k0 ((i_325 + 1))))))

def ref09_Parts (l_292 : (List Fed)) : Option Bool :=
  (if (decide (40 < (List.length l_292 : Int))) = true then (some false) else (ref09_Parts_L0 l_292 (Int.toNat ((List.length l_292 : Int) - 0)) 0).bind (fun s_ => sumE s_ (fun r_ => (some r_)) (fun s_ => un0 s_ ((some true)))))

def ref09_CheckFed (l_291 : (List Fed)) : Option Int :=
  (ref09_Parts l_291).bind fun r_341 => (if (!r_341) = true then (some 91) else (some 0))

def law09_SortChecks (b_1 : Belt) (l_2 : (List Fed)) (readings_3 : (List Int)) : Option Bool :=
  (ref09_Great b_1 l_2).bind fun r_15 => (if r_15 = true then (some true) else (if (decide (20 < (List.length readings_3 : Int))) = true then (some true) else (sort_Read readings_3).bind fun r_ => un2 r_ fun r0_82 r1_83 => (ref09_Read readings_3).bind fun r_ => un2 r_ fun r0_140 r1_141 => (sort_CheckBelt b_1).bind fun r_175 => (ref09_CheckBelt b_1).bind fun r_256 => (if (r_175 == r_256) = true then (sort_CheckFed l_2).bind fun r_290 => (ref09_CheckFed l_2).bind fun r_342 => (if (r_290 == r_342) = true then (if (r0_82 == r0_140) = true then (some (r1_83 == r1_141)) else (some false)) else (some false)) else (some false))))

structure Mix where
  Num : Int
  Den : Int
deriving DecidableEq
abbrev Mix.cells (x : Mix) : List AV := [(int x.Num), (int x.Den)]
theorem Mix.fr (x : Mix) : FreeL (Mix.cells x) := (FreeL.cons (.sc _) (FreeL.cons (.sc _) FreeL.nil))
theorem Mix.len (x : Mix) : (Mix.cells x).length = 2 := rfl

def law09_wide_L0 (table_348 : (List (List Int))) : Nat → Int → Option (Bool ⊕ Unit)
  | 0, _ => (some (Sum.inr ()))
  | k0 + 1, x_355 => (gi table_348 x_355).bind fun e_357 => (if (decide (12 < (List.length e_357 : Int))) = true then (some (Sum.inl true)) else law09_wide_L0 table_348 k0 ((x_355 + 1)))

def law09_wide (table_348 : (List (List Int))) : Option Bool :=
  (law09_wide_L0 table_348 (Int.toNat ((List.length table_348 : Int) - 0)) 0).bind (fun s_ => sumE s_ (fun r_ => (some r_)) (fun s_ => un0 s_ ((some (decide (10 < (List.length table_348 : Int)))))))

def law09_heavy (table_359 : (List (List Int))) (n_360 : Int) : Option Bool :=
  (if (decide (4 < (List.length table_359 : Int))) = true then (some (decide (3 < n_360))) else (some false))

def sort_CheckTable_L1 (e_432 : (List Int)) : Nat → Int → Int → Option Int
  | 0, sum_442, _ => (some sum_442)
  | k1 + 1, sum_442, x_443 => (gi e_432 x_443).bind fun e_445 => sort_CheckTable_L1 e_432 k1 ((w64 (sum_442 + e_445))) ((x_443 + 1))

def sort_CheckTable_L0 (table_365 : (List (List Int))) : Nat → Int → Option (Int ⊕ Unit)
  | 0, _ => (some (Sum.inr ()))
  | k0 + 1, x_419 => (gi table_365 x_419).bind fun e_432 => (if ((List.length e_432 : Int) != (w64 ((List.length table_365 : Int) + 1))) = true then (some (Sum.inl 8)) else (sort_from 0 1000 e_432).bind fun r_433 => (if (!r_433) = true then (some (Sum.inl 8)) else (sort_CheckTable_L1 e_432 (Int.toNat ((List.length e_432 : Int) - 0)) 0 0).bind (fun s_ => un1 s_ fun sum_439 => (if (sum_439 != 1000) = true then (some (Sum.inl 8)) else sort_CheckTable_L0 table_365 k0 ((x_419 + 1))))))

def sort_CheckTable (table_365 : (List (List Int))) : Option Int :=
  (sort_from 1 8 ([(List.length table_365 : Int)])).bind fun r_366 => (if (!r_366) = true then (some 8) else (sort_CheckTable_L0 table_365 (Int.toNat ((List.length table_365 : Int) - 0)) 0).bind (fun s_ => sumE s_ (fun r_ => (some r_)) (fun s_ => un0 s_ ((some 0)))))

def sort_chances_c1_m_L0 (self_ : Int → Int → Int → (List Int) → Nat → Int → (List Int) → Nat → (List Int) → Option ((List Int) × (List Int))) (i_485 : Int) (ways_486 : Int) (c_487 : Int) (len_489 : Nat) (c_490 : Int) (len_492 : Nat) (c_493 : (List Int)) : Nat → (List Int) → (List Int) → Int → Option ((List Int) × (List Int))
  | 0, x_633, x_634, _ => (some (x_633, x_634))
  | k0 + 1, x_633, x_634, x_635 => (gi c_493 x_635).bind fun e_643 => (if (e_643 == 0) = true then sort_chances_c1_m_L0 self_ i_485 ways_486 c_487 len_489 c_490 len_492 c_493 k0 x_633 x_634 ((x_635 + 1)) else (gi x_633 i_485).bind fun e_644 => (if (x_635 == c_490) = true then (gi (List.set x_633 (Int.toNat i_485) x_635) i_485).bind fun e_645 => (self_ (w64 (i_485 + 1)) (w64 (ways_486 * e_643)) c_487 (List.set (List.set x_633 (Int.toNat i_485) x_635) (Int.toNat i_485) (-1)) len_489 c_490 x_634 len_492 c_493).bind fun r_ => un2 r_ fun c_646 c_647 => sort_chances_c1_m_L0 self_ i_485 ways_486 c_487 len_489 c_490 len_492 c_493 k0 c_646 c_647 ((x_635 + 1)) else (self_ (w64 (i_485 + 1)) (w64 (ways_486 * e_643)) c_487 (List.set x_633 (Int.toNat i_485) x_635) len_489 c_490 x_634 len_492 c_493).bind fun r_ => un2 r_ fun c_648 c_649 => sort_chances_c1_m_L0 self_ i_485 ways_486 c_487 len_489 c_490 len_492 c_493 k0 c_648 c_649 ((x_635 + 1))))

def sort_chances_c1_m : Nat → Int → Int → Int → (List Int) → Nat → Int → (List Int) → Nat → (List Int) → Option ((List Int) × (List Int))
  | 0, _, _, _, _, _, _, _, _, _ => none
  | fuel + 1, i_485, ways_486, c_487, c_488, len_489, c_490, c_491, len_492, c_493 => (if (i_485 == c_487) = true then (sort_read c_488).bind fun r_596 => (if (decide (r_596 < 0)) = true then (gi c_491 c_490).bind fun e_597 => (some (c_488, (List.set c_491 (Int.toNat c_490) (w64 (e_597 + ways_486))))) else (gi c_491 r_596).bind fun e_598 => (some (c_488, (List.set c_491 (Int.toNat r_596) (w64 (e_598 + ways_486)))))) else (sort_chances_c1_m_L0 (sort_chances_c1_m fuel) i_485 ways_486 c_487 len_489 c_490 len_492 c_493 (Int.toNat ((List.length c_493 : Int) - 0)) c_488 c_491 0).bind (fun s_ => un2 s_ fun v_623 v_624 => (some (v_623, v_624))))

def sort_chances (row_450 : (List Int)) (n_451 : Int) : Option (List Int) :=
  (gmk (List.length row_450 : Int) 0).bind fun x_452 => (gmk n_451 0).bind fun x_453 => (sort_chances_c1_m 100000 0 1 n_451 x_453 (List.length x_453) (w64 ((List.length row_450 : Int) - 1)) x_452 (List.length x_452) row_450).bind fun r_ => un2 r_ fun c_650 c_651 => (some c_651)

def sort_Chances (table_362 : (List (List Int))) (kind_363 : Int) (n_364 : Int) : Option ((List Int) × Int) :=
  (sort_CheckTable table_362).bind fun r_446 => (if (r_446 != 0) = true then (some ([], r_446)) else (sort_from 0 (w64 ((List.length table_362 : Int) - 1)) ([kind_363])).bind fun r_447 => (if (!r_447) = true then (some ([], 2)) else (sort_from 1 5 ([n_364])).bind fun r_448 => (if (!r_448) = true then (some ([], 2)) else (gi table_362 kind_363).bind fun e_449 => (sort_chances e_449 n_364).bind fun r_652 => (some (r_652, 0)))))

def ref09_Table_L1 (e_750 : (List Int)) : Nat → Int → Int → Option (Bool ⊕ Int)
  | 0, sum_763, _ => (some (Sum.inr sum_763))
  | k1 + 1, sum_763, k_764 => (gi e_750 k_764).bind fun e_767 => (ref09_within e_767 0 1000).bind fun r_768 => (if (!r_768) = true then (some (Sum.inl false)) else ref09_Table_L1 e_750 k1 ((w64 (sum_763 + e_767))) ((k_764 + 1)))

def ref09_Table_L0 (l_658 : (List (List Int))) : Nat → Int → Option (Bool ⊕ Unit)
  | 0, _ => (some (Sum.inr ()))
  | k0 + 1, i_732 => (gi l_658 i_732).bind fun e_750 => (if ((List.length e_750 : Int) != (w64 ((List.length l_658 : Int) + 1))) = true then (some (Sum.inl false)) else (ref09_Table_L1 e_750 (Int.toNat ((List.length e_750 : Int) - 0)) 0 0).bind (fun s_ => sumE s_ (fun r_ => (some (Sum.inl r_))) (fun s_ => un1 s_ fun sum_759 => (if (sum_759 != 1000) = true then (some (Sum.inl false)) else ref09_Table_L0 l_658 k0 ((i_732 + 1))))))

def ref09_Table (l_658 : (List (List Int))) : Option Bool :=
  (ref09_within (List.length l_658 : Int) 1 8).bind fun r_659 => (if (!r_659) = true then (some false) else (ref09_Table_L0 l_658 (Int.toNat ((List.length l_658 : Int) - 0)) 0).bind (fun s_ => sumE s_ (fun r_ => (some r_)) (fun s_ => un0 s_ ((some true)))))

def ref09_counted_m1_L0 (self_ : (List Int) → (List Int) → Nat → Int → Int → (List Int) → Nat → Option (List Int)) (row_817 : (List Int)) (begin_818 : (List Int)) (n_820 : Int) (way_821 : Int) (len_823 : Nat) : Nat → (List Int) → Int → Option (List Int)
  | 0, out_1046, _ => (some out_1046)
  | k0 + 1, out_1046, j_1047 => ((if (j_1047 == (w64 ((List.length row_817 : Int) - 1))) = true then (some (-1)) else (some j_1047))).bind (fun s_ => un1 s_ fun says_1063 => (gi row_817 j_1047).bind fun e_1065 => (if (decide (0 < e_1065)) = true then (gapp ([]) begin_818).bind fun l_1068 => (gapp l_1068 ([says_1063])).bind fun l_1069 => (self_ row_817 l_1069 (List.length l_1069) n_820 (w64 (way_821 * e_1065)) out_1046 len_823).bind fun out_1070 => (grd (List.length out_1070 = len_823)).bind fun u_1071 => ref09_counted_m1_L0 self_ row_817 begin_818 n_820 way_821 len_823 k0 out_1070 ((j_1047 + 1)) else ref09_counted_m1_L0 self_ row_817 begin_818 n_820 way_821 len_823 k0 out_1046 ((j_1047 + 1))))

def ref09_counted_m1 : Nat → (List Int) → (List Int) → Nat → Int → Int → (List Int) → Nat → Option (List Int)
  | 0, _, _, _, _, _, _, _ => none
  | fuel + 1, row_817, begin_818, len_819, n_820, way_821, out_822, len_823 => (if (((len_819 : Nat) : Int) == n_820) = true then (ref09_Seen begin_818).bind fun r_986 => (if (decide (r_986 < 0)) = true then (gi out_822 (w64 ((List.length row_817 : Int) - 1))).bind fun e_987 => (some (List.set out_822 (Int.toNat (w64 ((List.length row_817 : Int) - 1))) (w64 (e_987 + way_821)))) else (gi out_822 r_986).bind fun e_988 => (some (List.set out_822 (Int.toNat r_986) (w64 (e_988 + way_821))))) else (ref09_counted_m1_L0 (ref09_counted_m1 fuel) row_817 begin_818 n_820 way_821 len_823 (Int.toNat ((List.length row_817 : Int) - 0)) out_822 0).bind (fun s_ => un1 s_ fun v_1029 => (some v_1029)))

def ref09_counted_m_L0 (row_784 : (List Int)) (n_785 : Int) (way_786 : Int) (len_788 : Nat) : Nat → (List Int) → Int → Option (List Int)
  | 0, out_1296, _ => (some out_1296)
  | k0 + 1, out_1296, j_1297 => ((if (j_1297 == (w64 ((List.length row_784 : Int) - 1))) = true then (some (-1)) else (some j_1297))).bind (fun s_ => un1 s_ fun says_1313 => (gi row_784 j_1297).bind fun e_1315 => (if (decide (0 < e_1315)) = true then (gapp ([]) ([])).bind fun l_1318 => (gapp l_1318 ([says_1313])).bind fun l_1319 => (ref09_counted_m1 100000 row_784 l_1319 (List.length l_1319) n_785 (w64 (way_786 * e_1315)) out_1296 len_788).bind fun out_1320 => (grd (List.length out_1320 = len_788)).bind fun u_1321 => ref09_counted_m_L0 row_784 n_785 way_786 len_788 k0 out_1320 ((j_1297 + 1)) else ref09_counted_m_L0 row_784 n_785 way_786 len_788 k0 out_1296 ((j_1297 + 1))))

def ref09_counted_m (row_784 : (List Int)) (n_785 : Int) (way_786 : Int) (out_787 : (List Int)) (len_788 : Nat) : Option (List Int) :=
  (if (0 == n_785) = true then (ref09_Seen ([])).bind fun r_1236 => (if (decide (r_1236 < 0)) = true then (gi out_787 (w64 ((List.length row_784 : Int) - 1))).bind fun e_1237 => (some (List.set out_787 (Int.toNat (w64 ((List.length row_784 : Int) - 1))) (w64 (e_1237 + way_786)))) else (gi out_787 r_1236).bind fun e_1238 => (some (List.set out_787 (Int.toNat r_1236) (w64 (e_1238 + way_786))))) else (ref09_counted_m_L0 row_784 n_785 way_786 len_788 (Int.toNat ((List.length row_784 : Int) - 0)) out_787 0).bind (fun s_ => un1 s_ fun v_1279 => (some v_1279)))

def ref09_Counted (l_772 : (List (List Int))) (kind_773 : Int) (n_774 : Int) : Option (List Int) :=
  (gmk (w64 ((List.length l_772 : Int) + 1)) 0).bind fun x_775 => (gi l_772 kind_773).bind fun e_776 => (ref09_counted_m e_776 n_774 1 x_775 (List.length x_775)).bind fun out_1322 => (some out_1322)

def ref09_Chances (l_655 : (List (List Int))) (kind_656 : Int) (n_657 : Int) : Option ((List Int) × Int) :=
  (ref09_Table l_655).bind fun r_769 => (if (!r_769) = true then (some ([], 8)) else (ref09_within kind_656 0 (w64 ((List.length l_655 : Int) - 1))).bind fun r_770 => (if (!r_770) = true then (some ([], 2)) else (ref09_within n_657 1 5).bind fun r_771 => (if (!r_771) = true then (some ([], 2)) else (ref09_Counted l_655 kind_656 n_657).bind fun r_1323 => (some (r_1323, 0)))))

def sort_Wrong_L1 (counts_1328 : (List Int)) (bins_1329 : (List Int)) (x_1510 : Int) (x_1556 : (List Int)) : Nat → (List Mix) → Int → Option (List Mix)
  | 0, out_1585, _ => (some out_1585)
  | k1 + 1, out_1585, x_1586 => (gi x_1556 x_1586).bind fun e_1593 => (gi bins_1329 x_1586).bind fun e_1594 => (if (decide (e_1594 < 0)) = true then sort_Wrong_L1 counts_1328 bins_1329 x_1510 x_1556 k1 out_1585 ((x_1586 + 1)) else (gi out_1585 e_1594).bind fun e_1595 => (gi counts_1328 x_1510).bind fun e_1596 => (gi bins_1329 x_1510).bind fun e_1597 => (if (e_1597 != e_1594) = true then (gi (List.set out_1585 (Int.toNat e_1594) (Mix.mk e_1595.Num (w64 (e_1595.Den + (w64 (e_1596 * e_1593)))))) e_1594).bind fun e_1598 => sort_Wrong_L1 counts_1328 bins_1329 x_1510 x_1556 k1 ((List.set (List.set out_1585 (Int.toNat e_1594) (Mix.mk e_1595.Num (w64 (e_1595.Den + (w64 (e_1596 * e_1593)))))) (Int.toNat e_1594) (Mix.mk (w64 (e_1598.Num + (w64 (e_1596 * e_1593)))) e_1598.Den))) ((x_1586 + 1)) else sort_Wrong_L1 counts_1328 bins_1329 x_1510 x_1556 k1 ((List.set out_1585 (Int.toNat e_1594) (Mix.mk e_1595.Num (w64 (e_1595.Den + (w64 (e_1596 * e_1593))))))) ((x_1586 + 1))))

def sort_Wrong_L0 (table_1326 : (List (List Int))) (n_1327 : Int) (counts_1328 : (List Int)) (bins_1329 : (List Int)) : Nat → (List Mix) → Int → Option (List Mix)
  | 0, out_1509, _ => (some out_1509)
  | k0 + 1, out_1509, x_1510 => (gi table_1326 x_1510).bind fun e_1554 => (sort_chances e_1554 n_1327).bind fun r_1555 => (gsl r_1555 0 (List.length table_1326 : Int)).bind fun x_1556 => (sort_Wrong_L1 counts_1328 bins_1329 x_1510 x_1556 (Int.toNat ((List.length x_1556 : Int) - 0)) out_1509 0).bind (fun s_ => un1 s_ fun out_1577 => sort_Wrong_L0 table_1326 n_1327 counts_1328 bins_1329 k0 out_1577 ((x_1510 + 1)))

def sort_Wrong (table_1326 : (List (List Int))) (n_1327 : Int) (counts_1328 : (List Int)) (bins_1329 : (List Int)) : Option ((List Mix) × Int) :=
  (sort_CheckTable table_1326).bind fun r_1330 => (if (r_1330 != 0) = true then (some ([], r_1330)) else (sort_from 1 5 ([n_1327])).bind fun r_1331 => (if (!r_1331) = true then (some ([], 2)) else (if ((List.length counts_1328 : Int) != (List.length table_1326 : Int)) = true then (some ([], 2)) else (if ((List.length bins_1329 : Int) != (List.length table_1326 : Int)) = true then (some ([], 2)) else (sort_from 0 1000 counts_1328).bind fun r_1332 => (if (!r_1332) = true then (some ([], 2)) else (sort_from (-1) 7 bins_1329).bind fun r_1333 => (if (!r_1333) = true then (some ([], 2)) else (gmk 8 (Mix.mk 0 0)).bind fun x_1334 => (sort_Wrong_L0 table_1326 n_1327 counts_1328 bins_1329 (Int.toNat ((List.length table_1326 : Int) - 0)) x_1334 0).bind (fun s_ => un1 s_ fun out_1466 => (some (out_1466, 0)))))))))

def ref09_Wrong_L0 (l_1601 : (List (List Int))) (counts_1603 : (List Int)) (bins_1604 : (List Int)) : Nat → Int → Option (((List Mix) × Int) ⊕ Unit)
  | 0, _ => (some (Sum.inr ()))
  | k0 + 1, i_1625 => (gi counts_1603 i_1625).bind fun e_1630 => (ref09_within e_1630 0 1000).bind fun r_1631 => (if (!r_1631) = true then (some (Sum.inl ([], 2))) else (gi bins_1604 i_1625).bind fun e_1632 => (ref09_within e_1632 (-1) 7).bind fun r_1633 => (if (!r_1633) = true then (some (Sum.inl ([], 2))) else ref09_Wrong_L0 l_1601 counts_1603 bins_1604 k0 ((i_1625 + 1))))

def ref09_Wrong_L2 (l_1601 : (List (List Int))) (counts_1603 : (List Int)) (bins_1604 : (List Int)) (k_1789 : Int) (r_1828 : (List Int)) : Nat → (List Mix) → Int → Option (List Mix)
  | 0, out_1855, _ => (some out_1855)
  | k1 + 1, out_1855, j_1856 => (gi bins_1604 j_1856).bind fun e_1863 => (if (decide (e_1863 < 0)) = true then ref09_Wrong_L2 l_1601 counts_1603 bins_1604 k_1789 r_1828 k1 out_1855 ((j_1856 + 1)) else (gi out_1855 e_1863).bind fun e_1864 => (gi counts_1603 k_1789).bind fun e_1865 => (gi r_1828 j_1856).bind fun e_1866 => (gi bins_1604 k_1789).bind fun e_1867 => (if (e_1867 != e_1863) = true then ref09_Wrong_L2 l_1601 counts_1603 bins_1604 k_1789 r_1828 k1 ((List.set out_1855 (Int.toNat e_1863) (Mix.mk (w64 (e_1864.Num + (w64 (e_1865 * e_1866)))) (w64 (e_1864.Den + (w64 (e_1865 * e_1866))))))) ((j_1856 + 1)) else ref09_Wrong_L2 l_1601 counts_1603 bins_1604 k_1789 r_1828 k1 ((List.set out_1855 (Int.toNat e_1863) (Mix.mk e_1864.Num (w64 (e_1864.Den + (w64 (e_1865 * e_1866))))))) ((j_1856 + 1))))

def ref09_Wrong_L1 (l_1601 : (List (List Int))) (n_1602 : Int) (counts_1603 : (List Int)) (bins_1604 : (List Int)) : Nat → (List Mix) → Int → Option (List Mix)
  | 0, out_1788, _ => (some out_1788)
  | k0 + 1, out_1788, k_1789 => (ref09_Counted l_1601 k_1789 n_1602).bind fun r_1828 => (ref09_Wrong_L2 l_1601 counts_1603 bins_1604 k_1789 r_1828 (Int.toNat ((List.length l_1601 : Int) - 0)) out_1788 0).bind (fun s_ => un1 s_ fun out_1847 => ref09_Wrong_L1 l_1601 n_1602 counts_1603 bins_1604 k0 out_1847 ((k_1789 + 1)))

def ref09_Wrong (l_1601 : (List (List Int))) (n_1602 : Int) (counts_1603 : (List Int)) (bins_1604 : (List Int)) : Option ((List Mix) × Int) :=
  (ref09_Table l_1601).bind fun r_1605 => (if (!r_1605) = true then (some ([], 8)) else (ref09_within n_1602 1 5).bind fun r_1606 => (if (!r_1606) = true then (some ([], 2)) else (if ((List.length counts_1603 : Int) != (List.length l_1601 : Int)) = true then (some ([], 2)) else (if ((List.length bins_1604 : Int) != (List.length l_1601 : Int)) = true then (some ([], 2)) else (ref09_Wrong_L0 l_1601 counts_1603 bins_1604 (Int.toNat ((List.length l_1601 : Int) - 0)) 0).bind (fun s_ => sumE s_ (fun r_ => (some r_)) (fun s_ => un0 s_ ((gmk 8 (Mix.mk 0 0)).bind fun x_1634 => (ref09_Wrong_L1 l_1601 n_1602 counts_1603 bins_1604 (Int.toNat ((List.length l_1601 : Int) - 0)) x_1634 0).bind (fun s_ => un1 s_ fun out_1750 => (some (out_1750, 0))))))))))

def ref09_CheckTable (l_1886 : (List (List Int))) : Option Int :=
  (ref09_Table l_1886).bind fun r_1887 => (if (!r_1887) = true then (some 8) else (some 0))

def ref09_SameInts_L0 (a_1889 : (List Int)) (b_1890 : (List Int)) : Nat → Int → Option (Bool ⊕ Unit)
  | 0, _ => (some (Sum.inr ()))
  | k0 + 1, i_1901 => (gi a_1889 i_1901).bind fun e_1904 => (gi b_1890 i_1901).bind fun e_1905 => (if (e_1904 != e_1905) = true then (some (Sum.inl false)) else ref09_SameInts_L0 a_1889 b_1890 k0 ((i_1901 + 1)))

def ref09_SameInts (a_1889 : (List Int)) (b_1890 : (List Int)) : Option Bool :=
  (if ((List.length a_1889 : Int) != (List.length b_1890 : Int)) = true then (some false) else (ref09_SameInts_L0 a_1889 b_1890 (Int.toNat ((List.length a_1889 : Int) - 0)) 0).bind (fun s_ => sumE s_ (fun r_ => (some r_)) (fun s_ => un0 s_ ((some true)))))

def law09_SortChances_L0 (r0_1599 : (List Mix)) (r0_1868 : (List Mix)) : Nat → Int → Option (Bool ⊕ Unit)
  | 0, _ => (some (Sum.inr ()))
  | k0 + 1, x_1880 => (gi r0_1599 x_1880).bind fun e_1883 => (gi r0_1868 x_1880).bind fun e_1884 => (if (!((e_1883.Num == e_1884.Num) && (e_1883.Den == e_1884.Den))) = true then (some (Sum.inl false)) else law09_SortChances_L0 r0_1599 r0_1868 k0 ((x_1880 + 1)))

def law09_SortChances (table_343 : (List (List Int))) (kind_344 : Int) (n_345 : Int) (counts_346 : (List Int)) (bins_347 : (List Int)) : Option Bool :=
  (law09_wide table_343).bind fun r_358 => (if r_358 = true then (some true) else (law09_heavy table_343 n_345).bind fun r_361 => (if r_361 = true then (some true) else (if (decide (20 < (List.length counts_346 : Int))) = true then (some true) else (if (decide (20 < (List.length bins_347 : Int))) = true then (some true) else (sort_Chances table_343 kind_344 n_345).bind fun r_ => un2 r_ fun r0_653 r1_654 => (ref09_Chances table_343 kind_344 n_345).bind fun r_ => un2 r_ fun r0_1324 r1_1325 => (sort_Wrong table_343 n_345 counts_346 bins_347).bind fun r_ => un2 r_ fun r0_1599 r1_1600 => (ref09_Wrong table_343 n_345 counts_346 bins_347).bind fun r_ => un2 r_ fun r0_1868 r1_1869 => (if ((List.length r0_1599 : Int) != (List.length r0_1868 : Int)) = true then (some false) else (law09_SortChances_L0 r0_1599 r0_1868 (Int.toNat ((List.length r0_1599 : Int) - 0)) 0).bind (fun s_ => sumE s_ (fun r_ => (some r_)) (fun s_ => un0 s_ ((sort_CheckTable table_343).bind fun r_1885 => (ref09_CheckTable table_343).bind fun r_1888 => (if (r_1885 == r_1888) = true then (ref09_SameInts r0_653 r0_1324).bind fun r_1906 => (if r_1906 = true then (if (r1_654 == r1_1325) = true then (some (r1_1600 == r1_1869)) else (some false)) else (some false)) else (some false))))))))))

def Gate.ok (x : Gate) : Prop := (okI .i64) x.At ∧ (okI .i64) x.Bin
theorem Gate.dec : Dec (.st [(.int .i64), (.int .i64)]) Gate.cells Gate.ok := fun bs h0 => by
  obtain ⟨a0, r0, rfl, e0, h1⟩ := enc_cons h0
  obtain ⟨a1, r1, rfl, e1, h2⟩ := enc_cons h1
  cases enc_nil h2
  obtain ⟨x0, rfl, o0⟩ := dec_i64 _ e0
  obtain ⟨x1, rfl, o1⟩ := dec_i64 _ e1
  exact ⟨⟨x0, x1⟩, rfl, o0, o1⟩

def Belt.ok (x : Belt) : Prop := (okI .i64) x.Length ∧ (okI .i64) x.Camera ∧ (okI .i64) x.Slow ∧ (okL Gate.ok) x.Gates ∧ (okL (okI .i64)) x.Bins
theorem Belt.dec : Dec (.st [(.int .i64), (.int .i64), (.int .i64), (.sl (.st [(.int .i64), (.int .i64)])), (.sl (.int .i64))]) Belt.cells Belt.ok := fun bs h0 => by
  obtain ⟨a0, r0, rfl, e0, h1⟩ := enc_cons h0
  obtain ⟨a1, r1, rfl, e1, h2⟩ := enc_cons h1
  obtain ⟨a2, r2, rfl, e2, h3⟩ := enc_cons h2
  obtain ⟨a3, r3, rfl, e3, h4⟩ := enc_cons h3
  obtain ⟨a4, r4, rfl, e4, h5⟩ := enc_cons h4
  cases enc_nil h5
  obtain ⟨x0, rfl, o0⟩ := dec_i64 _ e0
  obtain ⟨x1, rfl, o1⟩ := dec_i64 _ e1
  obtain ⟨x2, rfl, o2⟩ := dec_i64 _ e2
  obtain ⟨x3, rfl, o3⟩ := (dec_sl Gate.dec) _ e3
  obtain ⟨x4, rfl, o4⟩ := (dec_sl dec_i64) _ e4
  exact ⟨⟨x0, x1, x2, x3, x4⟩, rfl, o0, o1, o2, o3, o4⟩

def Fed.ok (x : Fed) : Prop := (okI .i64) x.Tick ∧ (okI .i64) x.Kind ∧ (okL (okI .i64)) x.Readings
theorem Fed.dec : Dec (.st [(.int .i64), (.int .i64), (.sl (.int .i64))]) Fed.cells Fed.ok := fun bs h0 => by
  obtain ⟨a0, r0, rfl, e0, h1⟩ := enc_cons h0
  obtain ⟨a1, r1, rfl, e1, h2⟩ := enc_cons h1
  obtain ⟨a2, r2, rfl, e2, h3⟩ := enc_cons h2
  cases enc_nil h3
  obtain ⟨x0, rfl, o0⟩ := dec_i64 _ e0
  obtain ⟨x1, rfl, o1⟩ := dec_i64 _ e1
  obtain ⟨x2, rfl, o2⟩ := (dec_sl dec_i64) _ e2
  exact ⟨⟨x0, x1, x2⟩, rfl, o0, o1, o2⟩

def Mix.ok (x : Mix) : Prop := (okI .i64) x.Num ∧ (okI .i64) x.Den
theorem Mix.dec : Dec (.st [(.int .i64), (.int .i64)]) Mix.cells Mix.ok := fun bs h0 => by
  obtain ⟨a0, r0, rfl, e0, h1⟩ := enc_cons h0
  obtain ⟨a1, r1, rfl, e1, h2⟩ := enc_cons h1
  cases enc_nil h2
  obtain ⟨x0, rfl, o0⟩ := dec_i64 _ e0
  obtain ⟨x1, rfl, o1⟩ := dec_i64 _ e1
  exact ⟨⟨x0, x1⟩, rfl, o0, o1⟩

end Go.Abs
