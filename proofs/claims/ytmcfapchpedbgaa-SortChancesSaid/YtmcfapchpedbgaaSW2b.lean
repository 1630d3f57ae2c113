/- What Go functions do, told by Lean functions: the proofs. -/
import Derived.Test.YtmcfapchpedbgaaSD
import Derived.Test.YtmcfapchpedbgaaSW2a
import Derived.Test.YtmcfapchpedbgaaSF
import Derived.Test.YtmcfapchpedbgaaSQ
set_option linter.unusedSimpArgs false
set_option linter.unusedVariables false
set_option maxRecDepth 10000
set_option maxHeartbeats 2000000
namespace Go.Abs
open Go Go.Proofs

theorem sort_Wrong_PC {table_1326 : (List (List Int))} {n_1327 : Int} {counts_1328 : (List Int)} {bins_1329 : (List Int)} {r : ((List Mix) × Int)} (H0 : sort_Wrong table_1326 n_1327 counts_1328 bins_1329 = some r) : PC Try.prog 26 [(.sl (List.map (sl1 int1) table_1326)), (int n_1327), (.sl (List.map int1 counts_1328)), (.sl (List.map int1 bins_1329))] (· = (.tp [(.sl (List.map Mix.cells r.1)), (int r.2)])) := by
  unfold sort_Wrong at H0
  refine PC.of_bodyL [(0, (.sl (List.map (sl1 int1) table_1326))), (1, (int n_1327)), (2, (.sl (List.map int1 counts_1328))), (3, (.sl (List.map int1 bins_1329)))] Try.func26 rfl rfl (Nat.le_of_ble_eq_true rfl) rfl fun O => ?_
  repeat refine SatL.seq ?_
  refine SatL.reg [0, 1, 2, 3] [some 8, some 9] rfl rfl fun K1 hK1 => ?_
  refine st (fun _ hk => s_as (v := nilS) rfl hk) ?_
  refine st (fun _ hk => s_as (v := (int 0)) rfl hk) ?_
  refine aopsS_end (hK1 _ (SatL.norm (n := 0) (h := hl []) (env' := [(0, (.sl (List.map (sl1 int1) table_1326))), (1, (int n_1327)), (2, (.sl (List.map int1 counts_1328))), (3, (.sl (List.map int1 bins_1329)))]) (L' := []) rfl hs_refl ?_))
  repeat refine SatL.seq ?_
  refine SatL.reg [0, 1, 2, 3, 10] [some 18, some 19, some 10] rfl rfl fun K4 hK4 => ?_
  refine st (fun _ hk => s_mv (v := (.sl (List.map (sl1 int1) table_1326))) rfl hk) ?_
  obtain ⟨r_1330, hr_1330, H0⟩ := bindS H0
  refine st (fun _ hk => s_call (avs := [(.sl (List.map (sl1 int1) table_1326))]) rfl rfl rfl (PC.call1 (sort_CheckTable_PC hr_1330) (FreeL.cons (Free.slm (fr_sl1 fr_int1)) FreeL.nil) hk)) ?_
  refine st (fun _ hk => s_as (v := (int r_1330)) rfl hk) ?_
  refine aopsS_end (hK4 _ (SatL.norm (n := 0) (h := hl []) (env' := [(0, (.sl (List.map (sl1 int1) table_1326))), (1, (int n_1327)), (2, (.sl (List.map int1 counts_1328))), (3, (.sl (List.map int1 bins_1329))), (10, (int r_1330))]) (L' := []) rfl hs_refl ?_))
  repeat refine SatL.seq ?_
  refine SatL.reg [0, 1, 2, 3, 10, 21] [some 20, some 21] rfl rfl fun K8 hK8 => ?_
  refine st (fun _ hk => s_mv (v := (int r_1330)) rfl hk) ?_
  refine st (fun _ hk => s_bin rfl rfl (b_neq hk)) ?_
  refine aopsS_end (hK8 _ (SatL.norm (n := 0) (h := hl []) (env' := [(0, (.sl (List.map (sl1 int1) table_1326))), (1, (int n_1327)), (2, (.sl (List.map int1 counts_1328))), (3, (.sl (List.map int1 bins_1329))), (10, (int r_1330)), (21, (bool (r_1330 != 0)))]) (L' := []) rfl hs_refl ?_))
  repeat refine SatL.seq ?_
  refine SatL.condX rfl (fun hc11 => ?_) (fun hc11 => ?_)
  ·
    replace H0 := iteT H0 hc11
    repeat refine SatL.seq ?_
    refine SatL.reg [8, 9] [some 22, some 8, some 9] rfl rfl fun K12 hK12 => ?_
    refine st (fun _ hk => s_mv (v := (int r_1330)) rfl hk) ?_
    refine st (fun _ hk => s_as (v := nilS) rfl hk) ?_
    refine st (fun _ hk => s_as (v := (int r_1330)) rfl hk) ?_
    refine aopsS_end (hK12 _ (SatL.norm (n := 0) (h := hl []) (env' := [(8, nilS), (9, (int r_1330))]) (L' := []) rfl hs_refl ?_))
    obtain rfl := Option.some.inj H0
    exact SatL.ret (fnQ_snap [] (.tp [nilS, (int r_1330)]) (.tp [(.sl []), (int r_1330)]) rfl (Snap.tpL (SnapL.cons Snap.nilS (SnapL.cons (Snap.free _ (.sc _)) SnapL.nil))) rfl)
  ·
    replace H0 := iteF H0 hc11
    refine SatL.skip ?_
    repeat refine SatL.seq ?_
    refine SatL.reg [0, 1, 2, 3, 11] [some 23, some 24, some 11] rfl rfl fun K16 hK16 => ?_
    refine st (fun _ hk => s_mv (v := (.sl (List.map (sl1 int1) table_1326))) rfl hk) ?_
    refine aopsS_step fun _ hK => s_lenSl elem_38 rfl (fun hl18 => hK _ _ _ ?_)
    clear hK
    refine st (fun _ hk => s_as (v := (int (List.length table_1326 : Int))) rfl hk) ?_
    refine aopsS_end (hK16 _ (SatL.norm (n := 0) (h := hl []) (env' := [(0, (.sl (List.map (sl1 int1) table_1326))), (1, (int n_1327)), (2, (.sl (List.map int1 counts_1328))), (3, (.sl (List.map int1 bins_1329))), (11, (int (List.length table_1326 : Int)))]) (L' := []) rfl hs_refl ?_))
    repeat refine SatL.seq ?_
    refine SatL.reg [0, 1, 2, 3, 11, 50] [some 25, some 26, some 27, some 28, some 29, some 30, some 31, some 32, some 33, some 34, some 35, some 36, some 37, some 38, some 39, some 40, some 41, some 42, some 43, some 44, some 45, some 46, some 47, some 48, some 49, some 50] rfl rfl fun K20 hK20 => ?_
    refine st (fun _ hk => s_mv (v := (int n_1327)) rfl hk) ?_
    refine st (fun _ hk => s_bslF (es := [[(int n_1327)]]) (es' := List.map int1 [n_1327]) elem_23 zero_3 rfl (by decide) (by decide) rfl rfl hk) ?_
    obtain ⟨r_1331, hr_1331, H0⟩ := bindS H0
    refine st (fun _ hk => s_call (avs := [(int 1), (int 5), (.sl (List.map int1 ([n_1327])))]) rfl rfl rfl (PC.call1 (sort_from_PC hr_1331) (FreeL.cons (.sc _) (FreeL.cons (.sc _) (FreeL.cons (Free.slm fr_int1) FreeL.nil))) hk)) ?_
    refine st (fun _ hk => s_not rfl hk) ?_
    refine st (fun _ hk => s_mv (v := (bool (!r_1331))) rfl hk) ?_
    refine aopsS_split rfl _ rfl (fun g26 => ?_) (fun g26 => ?_)
    ·
      replace H0 := iteF H0 (by simpa using g26)
      refine sx (fun _ hk => s_mv (v := (.sl (List.map int1 counts_1328))) rfl hk) ?_
      refine aopsS_on rfl rfl fun _ hK => s_lenSl elem_23 rfl (fun hl28 => hK _ _ _ ?_)
      clear hK
      refine sg rfl rfl (fun _ hk => s_mv (v := (int (List.length table_1326 : Int))) rfl hk) ?_
      refine sg rfl rfl (fun _ hk => s_bin rfl rfl (b_neq hk)) ?_
      refine st (fun _ hk => s_pickF (v := (bool ((List.length counts_1328 : Int) != (List.length table_1326 : Int)))) rfl rfl hk) ?_
      refine st (fun _ hk => s_mv (v := (bool ((List.length counts_1328 : Int) != (List.length table_1326 : Int)))) rfl hk) ?_
      refine aopsS_split rfl _ rfl (fun g33 => ?_) (fun g33 => ?_)
      ·
        replace H0 := iteF H0 (by simpa using g33)
        refine sx (fun _ hk => s_mv (v := (.sl (List.map int1 bins_1329))) rfl hk) ?_
        refine aopsS_on rfl rfl fun _ hK => s_lenSl elem_23 rfl (fun hl35 => hK _ _ _ ?_)
        clear hK
        refine sg rfl rfl (fun _ hk => s_mv (v := (int (List.length table_1326 : Int))) rfl hk) ?_
        refine sg rfl rfl (fun _ hk => s_bin rfl rfl (b_neq hk)) ?_
        refine st (fun _ hk => s_pickF (v := (bool ((List.length bins_1329 : Int) != (List.length table_1326 : Int)))) rfl rfl hk) ?_
        refine st (fun _ hk => s_mv (v := (bool ((List.length bins_1329 : Int) != (List.length table_1326 : Int)))) rfl hk) ?_
        refine aopsS_split rfl _ rfl (fun g40 => ?_) (fun g40 => ?_)
        ·
          replace H0 := iteF H0 (by simpa using g40)
          refine sx (fun _ hk => s_mv (v := (.sl (List.map int1 counts_1328))) rfl hk) ?_
          obtain ⟨r_1332, hr_1332, H0⟩ := bindS H0
          refine sg rfl rfl (fun _ hk => s_call (avs := [(int 0), (int 1000), (.sl (List.map int1 counts_1328))]) rfl rfl rfl (PC.call1 (sort_from_PC hr_1332) (FreeL.cons (.sc _) (FreeL.cons (.sc _) (FreeL.cons (Free.slm fr_int1) FreeL.nil))) hk)) ?_
          refine sg rfl rfl (fun _ hk => s_not rfl hk) ?_
          refine st (fun _ hk => s_pickF (v := (bool (!r_1332))) rfl rfl hk) ?_
          refine st (fun _ hk => s_mv (v := (bool (!r_1332))) rfl hk) ?_
          refine aopsS_split rfl _ rfl (fun g46 => ?_) (fun g46 => ?_)
          ·
            replace H0 := iteF H0 (by simpa using g46)
            refine sx (fun _ hk => s_mv (v := (.sl (List.map int1 bins_1329))) rfl hk) ?_
            obtain ⟨r_1333, hr_1333, H0⟩ := bindS H0
            refine sg rfl rfl (fun _ hk => s_call (avs := [(int (-1)), (int 7), (.sl (List.map int1 bins_1329))]) rfl rfl rfl (PC.call1 (sort_from_PC hr_1333) (FreeL.cons (.sc _) (FreeL.cons (.sc _) (FreeL.cons (Free.slm fr_int1) FreeL.nil))) hk)) ?_
            refine sg rfl rfl (fun _ hk => s_not rfl hk) ?_
            refine st (fun _ hk => s_pickF (v := (bool (!r_1333))) rfl rfl hk) ?_
            refine aopsS_end (hK20 _ (SatL.norm (n := 0) (h := hl []) (env' := [(0, (.sl (List.map (sl1 int1) table_1326))), (1, (int n_1327)), (2, (.sl (List.map int1 counts_1328))), (3, (.sl (List.map int1 bins_1329))), (11, (int (List.length table_1326 : Int))), (50, (bool (!r_1333)))]) (L' := []) rfl hs_refl ?_))
            repeat refine SatL.seq ?_
            refine SatL.condX rfl (fun hc51 => ?_) (fun hc51 => ?_)
            ·
              replace H0 := iteT H0 hc51
              repeat refine SatL.seq ?_
              refine SatL.reg [8, 9] [some 8, some 9] rfl rfl fun K52 hK52 => ?_
              refine st (fun _ hk => s_as (v := nilS) rfl hk) ?_
              refine st (fun _ hk => s_as (v := (int 2)) rfl hk) ?_
              refine aopsS_end (hK52 _ (SatL.norm (n := 0) (h := hl []) (env' := [(8, nilS), (9, (int 2))]) (L' := []) rfl hs_refl ?_))
              obtain rfl := Option.some.inj H0
              exact SatL.ret (fnQ_snap [] (.tp [nilS, (int 2)]) (.tp [(.sl []), (int 2)]) rfl (Snap.tpL (SnapL.cons Snap.nilS (SnapL.cons (Snap.free _ (.sc _)) SnapL.nil))) rfl)
            ·
              replace H0 := iteF H0 hc51
              refine SatL.skip ?_
              repeat refine SatL.seq ?_
              refine SatL.reg [0, 1, 2, 3, 11, 12] [some 51, some 12] rfl rfl fun K55 hK55 => ?_
              obtain ⟨x_1334, hx_1334, H0⟩ := bindS H0
              refine st (fun _ hk => s_mkT (n' := 1) (f := Mix.cells) elem_45 (zeroT zero_51 rfl) ⟨rfl, by decide⟩ rfl rfl hx_1334 bytes1_51 rfl hk) ?_
              refine st (fun _ hk => s_as (v := (.ms 0 0 (List.length x_1334))) rfl hk) ?_
              refine aopsS_end (hK55 _ (SatL.norm (n := 1) (h := hl [(0, (some (.cells 2 51 (List.map Mix.cells x_1334))))]) (env' := [(0, (.sl (List.map (sl1 int1) table_1326))), (1, (int n_1327)), (2, (.sl (List.map int1 counts_1328))), (3, (.sl (List.map int1 bins_1329))), (11, (int (List.length table_1326 : Int))), (12, (.ms 0 0 (List.length x_1334)))]) (L' := [(0, (some (.cells 2 51 (List.map Mix.cells x_1334))))]) rfl hs_refl ?_))
              repeat refine SatL.seq ?_
              refine SatL.reg [1, 2, 3, 11, 12, 52, 53, 54] [some 52, some 53, some 54] rfl rfl fun K58 hK58 => ?_
              refine st (fun _ hk => s_mv (v := (.sl (List.map (sl1 int1) table_1326))) rfl hk) ?_
              refine aopsS_step fun _ hK => s_lenSl elem_38 rfl (fun hl60 => hK _ _ _ ?_)
              clear hK
              refine st (fun _ hk => s_mv (v := (int 0)) rfl hk) ?_
              refine aopsS_end (hK58 _ (SatL.norm (n := 1) (h := hl [(0, (some (.cells 2 51 (List.map Mix.cells x_1334))))]) (env' := [(1, (int n_1327)), (2, (.sl (List.map int1 counts_1328))), (3, (.sl (List.map int1 bins_1329))), (11, (int (List.length table_1326 : Int))), (12, (.ms 0 0 (List.length x_1334))), (52, (.sl (List.map (sl1 int1) table_1326))), (53, (int (List.length table_1326 : Int))), (54, (int 0))]) (L' := [(0, (some (.cells 2 51 (List.map Mix.cells x_1334))))]) rfl hs_refl ?_))
              repeat refine SatL.seq ?_
              obtain ⟨o_1467, H1, H0⟩ := bindS H0
              refine SatL.mid [12] (fun s_ => ∃ (out_1466 : (List Mix)), out_1466 = o_1467 ∧ StLe s_ [(12, (.ms 0 0 (List.length x_1334)))] [(0, (some (.cells 2 51 (List.map Mix.cells out_1466))))] 1 ∧ List.length out_1466 = (List.length x_1334)) ?_ ?_
              ·
                repeat refine SatL.seq ?_
                refine SatL.block ?_
                repeat refine SatL.seq ?_
                refine SatL.loopK [1, 2, 3, 11, 12, 52, 53, 54] (fun k0 s_ => ∃ (out_1509 : (List Mix)) (x_1510 : Int), StLe s_ [(1, (int n_1327)), (2, (.sl (List.map int1 counts_1328))), (3, (.sl (List.map int1 bins_1329))), (11, (int (List.length table_1326 : Int))), (12, (.ms 0 0 (List.length x_1334))), (52, (.sl (List.map (sl1 int1) table_1326))), (53, (int (List.length table_1326 : Int))), (54, (int x_1510))] [(0, (some (.cells 2 51 (List.map Mix.cells out_1509))))] 1 ∧ List.length out_1509 = (List.length x_1334) ∧ 0 ≤ x_1510 ∧ k0 = Int.toNat ((List.length table_1326 : Int) - x_1510) ∧ sort_Wrong_L0 table_1326 n_1327 counts_1328 bins_1329 k0 out_1509 x_1510 = some o_1467) (Int.toNat ((List.length table_1326 : Int) - 0)) ?_ ?_
                · exact ⟨x_1334, 0, (StLe.of [(0, (some (.cells 2 51 (List.map Mix.cells x_1334))))] 1 rfl (hs_cons (hl_self _ _ _) hs_nil) (Nat.le_refl _)), (by first | exact rfl | simp), (by omega), rfl, H1⟩
                rintro k0 s_ ⟨out_1509, x_1510, hs_, hlenout_1509, _, hk_, H1⟩
                refine SatL.le hs_ ?_
                clear hs_
                rcases k0 with _ | k0
                ·
                  rw [sort_Wrong_L0.eq_1] at H1
                  repeat refine SatL.seq ?_
                  refine SatL.reg [1, 2, 3, 11, 12, 52, 53, 54, 55] [some 55] rfl rfl fun K2406 hK2406 => ?_
                  refine st (fun _ hk => s_bin rfl rfl (b_lss hk)) ?_
                  refine aopsS_end (hK2406 _ (SatL.norm (n := 1) (h := hl [(0, (some (.cells 2 51 (List.map Mix.cells out_1509))))]) (env' := [(1, (int n_1327)), (2, (.sl (List.map int1 counts_1328))), (3, (.sl (List.map int1 bins_1329))), (11, (int (List.length table_1326 : Int))), (12, (.ms 0 0 (List.length x_1334))), (52, (.sl (List.map (sl1 int1) table_1326))), (53, (int (List.length table_1326 : Int))), (54, (int x_1510)), (55, (bool (decide (x_1510 < (List.length table_1326 : Int)))))]) (L' := [(0, (some (.cells 2 51 (List.map Mix.cells out_1509))))]) rfl hs_refl ?_))
                  repeat refine SatL.seq ?_
                  refine SatL.condF rfl (decide_eq_false (by omega)) ?_
                  refine SatL.exit ?_
                  simp only [thenQ, blockQ, if_true, reduceIte, Nat.reduceEqDiff]
                  obtain rfl := Option.some.inj H1
                  exact SatL.nil (thenN ⟨out_1509, rfl, (StLe.of [(0, (some (.cells 2 51 (List.map Mix.cells out_1509))))] 1 rfl (hs_cons (hl_self _ _ _) hs_nil) (Nat.le_refl _)), (by first | exact hlenout_1509 | simp)⟩)
                ·
                  rw [sort_Wrong_L0.eq_2] at H1
                  repeat refine SatL.seq ?_
                  refine SatL.reg [1, 2, 3, 11, 12, 52, 53, 54, 55] [some 55] rfl rfl fun K2408 hK2408 => ?_
                  refine st (fun _ hk => s_bin rfl rfl (b_lss hk)) ?_
                  refine aopsS_end (hK2408 _ (SatL.norm (n := 1) (h := hl [(0, (some (.cells 2 51 (List.map Mix.cells out_1509))))]) (env' := [(1, (int n_1327)), (2, (.sl (List.map int1 counts_1328))), (3, (.sl (List.map int1 bins_1329))), (11, (int (List.length table_1326 : Int))), (12, (.ms 0 0 (List.length x_1334))), (52, (.sl (List.map (sl1 int1) table_1326))), (53, (int (List.length table_1326 : Int))), (54, (int x_1510)), (55, (bool (decide (x_1510 < (List.length table_1326 : Int)))))]) (L' := [(0, (some (.cells 2 51 (List.map Mix.cells out_1509))))]) rfl hs_refl ?_))
                  repeat refine SatL.seq ?_
                  refine SatL.condT rfl (decide_eq_true (by omega)) ?_
                  have hlt2410 : (x_1510 < (List.length table_1326 : Int)) := by omega
                  refine SatL.skip ?_
                  repeat refine SatL.seq ?_
                  refine SatL.block ?_
                  repeat refine SatL.seq ?_
                  refine SatL.reg [1, 2, 3, 11, 12, 13, 14, 52, 53, 54] [some 56, some 57, some 58, some 13, some 14] rfl rfl fun K2411 hK2411 => ?_
                  refine st (fun _ hk => s_mv (v := (int x_1510)) rfl hk) ?_
                  obtain ⟨e_1554, he_1554, H1⟩ := bindS H1
                  refine st (fun _ hk => s_ixSl elem_38 rfl rfl he_1554 cells_23 rfl (by decide) hk) ?_
                  refine st (fun _ hk => s_load1 (c := (.sl (List.map int1 e_1554))) agg_23 (d_fp rfl) rfl hk) ?_
                  refine st (fun _ hk => s_as (v := (int x_1510)) rfl hk) ?_
                  refine st (fun _ hk => s_as (v := (.sl (List.map int1 e_1554))) rfl hk) ?_
                  refine aopsS_end (hK2411 _ (SatL.norm (n := 1) (h := hl [(0, (some (.cells 2 51 (List.map Mix.cells out_1509))))]) (env' := [(1, (int n_1327)), (2, (.sl (List.map int1 counts_1328))), (3, (.sl (List.map int1 bins_1329))), (11, (int (List.length table_1326 : Int))), (12, (.ms 0 0 (List.length x_1334))), (13, (int x_1510)), (14, (.sl (List.map int1 e_1554))), (52, (.sl (List.map (sl1 int1) table_1326))), (53, (int (List.length table_1326 : Int))), (54, (int x_1510))]) (L' := [(0, (some (.cells 2 51 (List.map Mix.cells out_1509))))]) rfl hs_refl ?_))
                  repeat refine SatL.seq ?_
                  refine SatL.reg [1, 2, 3, 11, 12, 13, 52, 53, 54, 63, 64, 65] [some 59, some 60, some 61, some 62, some 63, some 64, some 65] rfl rfl fun K2417 hK2417 => ?_
                  refine st (fun _ hk => s_mv (v := (.sl (List.map int1 e_1554))) rfl hk) ?_
                  refine st (fun _ hk => s_mv (v := (int n_1327)) rfl hk) ?_
                  obtain ⟨r_1555, hr_1555, H1⟩ := bindS H1
                  refine st (fun _ hk => s_call (avs := [(.sl (List.map int1 e_1554)), (int n_1327)]) rfl rfl rfl (PC.call1 (sort_chances_PC hr_1555) (FreeL.cons (Free.slm fr_int1) (FreeL.cons (.sc _) FreeL.nil)) hk)) ?_
                  refine st (fun _ hk => s_mv (v := (int (List.length table_1326 : Int))) rfl hk) ?_
                  obtain ⟨x_1556, hx_1556, H1⟩ := bindS H1
                  refine st (fun _ hk => s_slSl elem_23 info_3 rfl rfl rfl hx_1556 cells_3 (fun _ => rfl) hk) ?_
                  refine aopsS_step fun _ hK => s_lenSl elem_23 rfl (fun hl2423 => hK _ _ _ ?_)
                  clear hK
                  refine st (fun _ hk => s_mv (v := (int 0)) rfl hk) ?_
                  refine aopsS_end (hK2417 _ (SatL.norm (n := 1) (h := hl [(0, (some (.cells 2 51 (List.map Mix.cells out_1509))))]) (env' := [(1, (int n_1327)), (2, (.sl (List.map int1 counts_1328))), (3, (.sl (List.map int1 bins_1329))), (11, (int (List.length table_1326 : Int))), (12, (.ms 0 0 (List.length x_1334))), (13, (int x_1510)), (52, (.sl (List.map (sl1 int1) table_1326))), (53, (int (List.length table_1326 : Int))), (54, (int x_1510)), (63, (.sl (List.map int1 x_1556))), (64, (int (List.length x_1556 : Int))), (65, (int 0))]) (L' := [(0, (some (.cells 2 51 (List.map Mix.cells out_1509))))]) rfl hs_refl ?_))
                  repeat refine SatL.seq ?_
                  obtain ⟨o_1578, H2, H1⟩ := bindS H1
                  repeat refine SatL.seq ?_
                  refine SatL.block ?_
                  repeat refine SatL.seq ?_
                  refine SatL.loopK [1, 2, 3, 11, 12, 13, 52, 53, 54, 63, 64, 65] (fun k1 s_ => ∃ (out_1585 : (List Mix)) (x_1586 : Int), StLe s_ [(1, (int n_1327)), (2, (.sl (List.map int1 counts_1328))), (3, (.sl (List.map int1 bins_1329))), (11, (int (List.length table_1326 : Int))), (12, (.ms 0 0 (List.length x_1334))), (13, (int x_1510)), (52, (.sl (List.map (sl1 int1) table_1326))), (53, (int (List.length table_1326 : Int))), (54, (int x_1510)), (63, (.sl (List.map int1 x_1556))), (64, (int (List.length x_1556 : Int))), (65, (int x_1586))] [(0, (some (.cells 2 51 (List.map Mix.cells out_1585))))] 1 ∧ List.length out_1585 = (List.length x_1334) ∧ 0 ≤ x_1586 ∧ k1 = Int.toNat ((List.length x_1556 : Int) - x_1586) ∧ sort_Wrong_L1 counts_1328 bins_1329 x_1510 x_1556 k1 out_1585 x_1586 = some o_1578) (Int.toNat ((List.length x_1556 : Int) - 0)) ?_ ?_
                  · exact ⟨out_1509, 0, (StLe.of [(0, (some (.cells 2 51 (List.map Mix.cells out_1509))))] 1 rfl (hs_cons (hl_self _ _ _) hs_nil) (Nat.le_refl _)), (by first | exact hlenout_1509 | simp), (by omega), rfl, H2⟩
                  rintro k1 s_ ⟨out_1585, x_1586, hs_, hlenout_1585, _, hk_, H2⟩
                  refine SatL.le hs_ ?_
                  clear hs_
                  rcases k1 with _ | k1
                  ·
                    rw [sort_Wrong_L1.eq_1] at H2
                    repeat refine SatL.seq ?_
                    refine SatL.reg [1, 2, 3, 11, 12, 13, 52, 53, 54, 63, 64, 65, 66] [some 66] rfl rfl fun K2795 hK2795 => ?_
                    refine st (fun _ hk => s_bin rfl rfl (b_lss hk)) ?_
                    refine aopsS_end (hK2795 _ (SatL.norm (n := 1) (h := hl [(0, (some (.cells 2 51 (List.map Mix.cells out_1585))))]) (env' := [(1, (int n_1327)), (2, (.sl (List.map int1 counts_1328))), (3, (.sl (List.map int1 bins_1329))), (11, (int (List.length table_1326 : Int))), (12, (.ms 0 0 (List.length x_1334))), (13, (int x_1510)), (52, (.sl (List.map (sl1 int1) table_1326))), (53, (int (List.length table_1326 : Int))), (54, (int x_1510)), (63, (.sl (List.map int1 x_1556))), (64, (int (List.length x_1556 : Int))), (65, (int x_1586)), (66, (bool (decide (x_1586 < (List.length x_1556 : Int)))))]) (L' := [(0, (some (.cells 2 51 (List.map Mix.cells out_1585))))]) rfl hs_refl ?_))
                    repeat refine SatL.seq ?_
                    refine SatL.condF rfl (decide_eq_false (by omega)) ?_
                    refine SatL.exit ?_
                    simp only [thenQ, blockQ, if_true, reduceIte, Nat.reduceEqDiff]
                    obtain rfl := Option.some.inj H2
                    replace H1 := un1S H1
                    refine SatL.nil (blockN (thenN ?_))
                    repeat refine SatL.seq ?_
                    refine SatL.rege [some 117, some 54] rfl rfl fun K2797 hK2797 => ?_
                    refine st (fun _ hk => s_bin rfl rfl (b_add64 hk)) ?_
                    refine st (fun _ hk => s_mv (v := (int (w64 (x_1510 + 1)))) rfl hk) ?_
                    refine aopsS_end (hK2797 _ ?_)
                    have hw2800 : w64 (x_1510 + 1) = x_1510 + 1 := w64_id (by omega) (by omega)
                    exact (thenN ⟨k0, ⟨out_1585, (w64 (x_1510 + 1)), (StLe.of [(0, (some (.cells 2 51 (List.map Mix.cells out_1585))))] 1 rfl (hs_cons (hl_self _ _ _) hs_nil) (Nat.le_refl _)), (by first | exact hlenout_1585 | simp), (by omega), (by rw [hw2800]; omega), (Eq.mpr (congrArg (fun q_ => sort_Wrong_L0 table_1326 n_1327 counts_1328 bins_1329 k0 out_1585 q_ = some o_1467) hw2800) H1)⟩, by omega⟩)
                  ·
                    rw [sort_Wrong_L1.eq_2] at H2
                    repeat refine SatL.seq ?_
                    refine SatL.reg [1, 2, 3, 11, 12, 13, 52, 53, 54, 63, 64, 65, 66] [some 66] rfl rfl fun K2801 hK2801 => ?_
                    refine st (fun _ hk => s_bin rfl rfl (b_lss hk)) ?_
                    refine aopsS_end (hK2801 _ (SatL.norm (n := 1) (h := hl [(0, (some (.cells 2 51 (List.map Mix.cells out_1585))))]) (env' := [(1, (int n_1327)), (2, (.sl (List.map int1 counts_1328))), (3, (.sl (List.map int1 bins_1329))), (11, (int (List.length table_1326 : Int))), (12, (.ms 0 0 (List.length x_1334))), (13, (int x_1510)), (52, (.sl (List.map (sl1 int1) table_1326))), (53, (int (List.length table_1326 : Int))), (54, (int x_1510)), (63, (.sl (List.map int1 x_1556))), (64, (int (List.length x_1556 : Int))), (65, (int x_1586)), (66, (bool (decide (x_1586 < (List.length x_1556 : Int)))))]) (L' := [(0, (some (.cells 2 51 (List.map Mix.cells out_1585))))]) rfl hs_refl ?_))
                    repeat refine SatL.seq ?_
                    refine SatL.condT rfl (decide_eq_true (by omega)) ?_
                    have hlt2803 : (x_1586 < (List.length x_1556 : Int)) := by omega
                    refine SatL.skip ?_
                    repeat refine SatL.seq ?_
                    refine SatL.block ?_
                    repeat refine SatL.seq ?_
                    refine SatL.reg [1, 2, 3, 11, 12, 13, 15, 16, 52, 53, 54, 63, 64, 65] [some 67, some 68, some 69, some 15, some 16] rfl rfl fun K2804 hK2804 => ?_
                    refine st (fun _ hk => s_mv (v := (int x_1586)) rfl hk) ?_
                    obtain ⟨e_1593, he_1593, H2⟩ := bindS H2
                    refine st (fun _ hk => s_ixSl elem_23 rfl rfl he_1593 cells_3 rfl (by decide) hk) ?_
                    refine st (fun _ hk => s_load1 (c := (int e_1593)) agg_3 (d_fp rfl) rfl hk) ?_
                    refine st (fun _ hk => s_as (v := (int x_1586)) rfl hk) ?_
                    refine st (fun _ hk => s_as (v := (int e_1593)) rfl hk) ?_
                    refine aopsS_end (hK2804 _ (SatL.norm (n := 1) (h := hl [(0, (some (.cells 2 51 (List.map Mix.cells out_1585))))]) (env' := [(1, (int n_1327)), (2, (.sl (List.map int1 counts_1328))), (3, (.sl (List.map int1 bins_1329))), (11, (int (List.length table_1326 : Int))), (12, (.ms 0 0 (List.length x_1334))), (13, (int x_1510)), (15, (int x_1586)), (16, (int e_1593)), (52, (.sl (List.map (sl1 int1) table_1326))), (53, (int (List.length table_1326 : Int))), (54, (int x_1510)), (63, (.sl (List.map int1 x_1556))), (64, (int (List.length x_1556 : Int))), (65, (int x_1586))]) (L' := [(0, (some (.cells 2 51 (List.map Mix.cells out_1585))))]) rfl hs_refl ?_))
                    repeat refine SatL.seq ?_
                    refine SatL.reg [1, 2, 3, 11, 12, 13, 15, 16, 52, 53, 54, 63, 64, 65, 74] [some 70, some 71, some 72, some 73, some 74] rfl rfl fun K2810 hK2810 => ?_
                    refine st (fun _ hk => s_mv (v := (.sl (List.map int1 bins_1329))) rfl hk) ?_
                    refine st (fun _ hk => s_mv (v := (int x_1586)) rfl hk) ?_
                    obtain ⟨e_1594, he_1594, H2⟩ := bindS H2
                    refine st (fun _ hk => s_ixSl elem_23 rfl rfl he_1594 cells_3 rfl (by decide) hk) ?_
                    refine st (fun _ hk => s_load1 (c := (int e_1594)) agg_3 (d_fp rfl) rfl hk) ?_
                    refine st (fun _ hk => s_bin rfl rfl (b_lss hk)) ?_
                    refine aopsS_end (hK2810 _ (SatL.norm (n := 1) (h := hl [(0, (some (.cells 2 51 (List.map Mix.cells out_1585))))]) (env' := [(1, (int n_1327)), (2, (.sl (List.map int1 counts_1328))), (3, (.sl (List.map int1 bins_1329))), (11, (int (List.length table_1326 : Int))), (12, (.ms 0 0 (List.length x_1334))), (13, (int x_1510)), (15, (int x_1586)), (16, (int e_1593)), (52, (.sl (List.map (sl1 int1) table_1326))), (53, (int (List.length table_1326 : Int))), (54, (int x_1510)), (63, (.sl (List.map int1 x_1556))), (64, (int (List.length x_1556 : Int))), (65, (int x_1586)), (74, (bool (decide (e_1594 < 0))))]) (L' := [(0, (some (.cells 2 51 (List.map Mix.cells out_1585))))]) rfl hs_refl ?_))
                    repeat refine SatL.seq ?_
                    refine SatL.condX rfl (fun hc2816 => ?_) (fun hc2816 => ?_)
                    ·
                      replace H2 := iteT H2 hc2816
                      refine SatL.exit ?_
                      simp only [thenQ, blockQ, if_true, reduceIte, Nat.reduceEqDiff]
                      repeat refine SatL.seq ?_
                      refine SatL.rege [some 116, some 65] rfl rfl fun K2817 hK2817 => ?_
                      refine st (fun _ hk => s_bin rfl rfl (b_add64 hk)) ?_
                      refine st (fun _ hk => s_mv (v := (int (w64 (x_1586 + 1)))) rfl hk) ?_
                      refine aopsS_end (hK2817 _ ?_)
                      have hw2820 : w64 (x_1586 + 1) = x_1586 + 1 := w64_id (by omega) (by omega)
                      exact (thenN ⟨k1, ⟨out_1585, (w64 (x_1586 + 1)), (StLe.of [(0, (some (.cells 2 51 (List.map Mix.cells out_1585))))] 1 rfl (hs_cons (hl_self _ _ _) hs_nil) (Nat.le_refl _)), (by first | exact hlenout_1585 | simp), (by omega), (by rw [hw2820]; omega), (Eq.mpr (congrArg (fun q_ => sort_Wrong_L1 counts_1328 bins_1329 x_1510 x_1556 k1 out_1585 q_ = some o_1578) hw2820) H2)⟩, by omega⟩)
                    ·
                      replace H2 := iteF H2 hc2816
                      refine SatL.skip ?_
                      repeat refine SatL.seq ?_
                      refine SatL.reg [1, 2, 3, 11, 12, 13, 15, 16, 17, 52, 53, 54, 63, 64, 65] [some 75, some 76, some 77, some 78, some 79, some 80, some 17] rfl rfl fun K2821 hK2821 => ?_
                      refine st (fun _ hk => s_mv (v := (.ms 0 0 (List.length x_1334))) rfl hk) ?_
                      refine st (fun _ hk => s_mv (v := (.sl (List.map int1 bins_1329))) rfl hk) ?_
                      refine st (fun _ hk => s_mv (v := (int x_1586)) rfl hk) ?_
                      refine st (fun _ hk => s_ixSl elem_23 rfl rfl he_1594 cells_3 rfl (by decide) hk) ?_
                      refine st (fun _ hk => s_load1 (c := (int e_1594)) agg_3 (d_fp rfl) rfl hk) ?_
                      obtain ⟨e_1595, he_1595, H2⟩ := bindS H2
                      refine st (fun _ hk => s_ixM0 elem_45 rfl rfl (hl_self _ _ _) (gi_lt he_1595).1 (ltl he_1595 hlenout_1585) cells_51 (by decide) hk) ?_
                      refine st (fun _ hk => s_as (v := (.own 0 (Int.toNat e_1594) 0)) rfl hk) ?_
                      refine aopsS_end (hK2821 _ (SatL.norm (n := 1) (h := hl [(0, (some (.cells 2 51 (List.map Mix.cells out_1585))))]) (env' := [(1, (int n_1327)), (2, (.sl (List.map int1 counts_1328))), (3, (.sl (List.map int1 bins_1329))), (11, (int (List.length table_1326 : Int))), (12, (.ms 0 0 (List.length x_1334))), (13, (int x_1510)), (15, (int x_1586)), (16, (int e_1593)), (17, (.own 0 (Int.toNat e_1594) 0)), (52, (.sl (List.map (sl1 int1) table_1326))), (53, (int (List.length table_1326 : Int))), (54, (int x_1510)), (63, (.sl (List.map int1 x_1556))), (64, (int (List.length x_1556 : Int))), (65, (int x_1586))]) (L' := [(0, (some (.cells 2 51 (List.map Mix.cells out_1585))))]) rfl hs_refl ?_))
                      repeat refine SatL.seq ?_
                      refine SatL.draw [1, 2, 3, 11, 12, 13, 15, 16, 17, 52, 53, 54, 63, 64, 65] [] [] [some 81, some 82, some 83, some 84, some 85, some 86, some 87, some 88, some 89, some 90, some 91, some 92, some 93, none] rfl (by kernel_rfl) (by kernel_rfl) rfl rfl fun K2829 hK2829 => ?_
                      refine dd_step (ds_r0 _ rfl rfl (fun _ hK => s_mv (v := (.own 0 (Int.toNat e_1594) 0)) rfl hK) ?_)
                      refine dd_step (ds_r0 _ rfl rfl (fun _ hK => s_nilOwn rfl (hl_self _ _ _) hK) ?_)
                      refine dd_step (ds_r0 _ rfl rfl (fun _ hK => s_faOwn (j' := 1) fld_51_1 rfl rfl (isC (hl_self _ _ _)) hK) ?_)
                      refine dd_step (ds_r0 _ rfl rfl (fun _ hK => s_load1 (c := (int e_1595.Den)) agg_3 (d_own rfl (hl_self _ _ _) (mapget he_1595) rfl) rfl hK) ?_)
                      refine dd_step (ds_r0 _ rfl rfl (fun _ hK => s_mv (v := (.sl (List.map int1 counts_1328))) rfl hK) ?_)
                      refine dd_step (ds_r0 _ rfl rfl (fun _ hK => s_mv (v := (int x_1510)) rfl hK) ?_)
                      obtain ⟨e_1596, he_1596, H2⟩ := bindS H2
                      refine dd_step (ds_r0 _ rfl rfl (fun _ hK => s_ixSl elem_23 rfl rfl he_1596 cells_3 rfl (by decide) hK) ?_)
                      refine dd_step (ds_r0 _ rfl rfl (fun _ hK => s_load1 (c := (int e_1596)) agg_3 (d_fp rfl) rfl hK) ?_)
                      refine dd_step (ds_r0 _ rfl rfl (fun _ hK => s_mv (v := (int e_1593)) rfl hK) ?_)
                      refine dd_step (ds_r0 _ rfl rfl (fun _ hK => s_bin rfl rfl (b_mul64 hK)) ?_)
                      refine dd_step (ds_r0 _ rfl rfl (fun _ hK => s_bin rfl rfl (b_add64 hK)) ?_)
                      refine dd_step (ds_r0 _ rfl rfl (fun _ hK => s_nilOwn rfl (hl_self _ _ _) hK) ?_)
                      refine dd_step (ds_r0 _ rfl rfl (fun _ hK => s_faOwn (j' := 1) fld_51_1 rfl rfl (isC (hl_self _ _ _)) hK) ?_)
                      refine dd_step (ds_w0 _ _ _ rfl rfl (fun _ hK => s_store rfl (hl_self _ _ _) (mapget he_1595) rfl cells_3 rfl (by decide) (Nat.le_of_ble_eq_true rfl) (set_map (f := Mix.cells) (y := (Mix.mk e_1595.Num (w64 (e_1595.Den + (w64 (e_1596 * e_1593)))))) rfl) (hu_self _ _ _ _) hK) ?_)
                      refine dd_end rc_nil (hK2829 _ (SatL.norm (n := 1) (h := hl [(0, (some (.cells 2 51 (List.map Mix.cells (List.set out_1585 (Int.toNat e_1594) (Mix.mk e_1595.Num (w64 (e_1595.Den + (w64 (e_1596 * e_1593))))))))))]) (env' := [(1, (int n_1327)), (2, (.sl (List.map int1 counts_1328))), (3, (.sl (List.map int1 bins_1329))), (11, (int (List.length table_1326 : Int))), (12, (.ms 0 0 (List.length x_1334))), (13, (int x_1510)), (15, (int x_1586)), (16, (int e_1593)), (17, (.own 0 (Int.toNat e_1594) 0)), (52, (.sl (List.map (sl1 int1) table_1326))), (53, (int (List.length table_1326 : Int))), (54, (int x_1510)), (63, (.sl (List.map int1 x_1556))), (64, (int (List.length x_1556 : Int))), (65, (int x_1586))]) (L' := [(0, (some (.cells 2 51 (List.map Mix.cells (List.set out_1585 (Int.toNat e_1594) (Mix.mk e_1595.Num (w64 (e_1595.Den + (w64 (e_1596 * e_1593))))))))))]) rfl hs_refl ?_))
                      repeat refine SatL.seq ?_
                      refine SatL.draw [1, 2, 3, 11, 12, 13, 16, 17, 52, 53, 54, 63, 64, 65, 102] [] [] [some 94, some 95, some 96, some 97, some 98, some 99, some 100, some 101, some 102] rfl (by kernel_rfl) (by kernel_rfl) rfl rfl fun K2844 hK2844 => ?_
                      refine dd_step (ds_r0 _ rfl rfl (fun _ hK => s_mv (v := (.sl (List.map int1 bins_1329))) rfl hK) ?_)
                      refine dd_step (ds_r0 _ rfl rfl (fun _ hK => s_mv (v := (int x_1510)) rfl hK) ?_)
                      obtain ⟨e_1597, he_1597, H2⟩ := bindS H2
                      refine dd_step (ds_r0 _ rfl rfl (fun _ hK => s_ixSl elem_23 rfl rfl he_1597 cells_3 rfl (by decide) hK) ?_)
                      refine dd_step (ds_r0 _ rfl rfl (fun _ hK => s_load1 (c := (int e_1597)) agg_3 (d_fp rfl) rfl hK) ?_)
                      refine dd_step (ds_r0 _ rfl rfl (fun _ hK => s_mv (v := (.sl (List.map int1 bins_1329))) rfl hK) ?_)
                      refine dd_step (ds_r0 _ rfl rfl (fun _ hK => s_mv (v := (int x_1586)) rfl hK) ?_)
                      refine dd_step (ds_r0 _ rfl rfl (fun _ hK => s_ixSl elem_23 rfl rfl he_1594 cells_3 rfl (by decide) hK) ?_)
                      refine dd_step (ds_r0 _ rfl rfl (fun _ hK => s_load1 (c := (int e_1594)) agg_3 (d_fp rfl) rfl hK) ?_)
                      refine dd_step (ds_r0 _ rfl rfl (fun _ hK => s_bin rfl rfl (b_neq hK)) ?_)
                      refine dd_end rc_nil (hK2844 _ (SatL.norm (n := 1) (h := hl [(0, (some (.cells 2 51 (List.map Mix.cells (List.set out_1585 (Int.toNat e_1594) (Mix.mk e_1595.Num (w64 (e_1595.Den + (w64 (e_1596 * e_1593))))))))))]) (env' := [(1, (int n_1327)), (2, (.sl (List.map int1 counts_1328))), (3, (.sl (List.map int1 bins_1329))), (11, (int (List.length table_1326 : Int))), (12, (.ms 0 0 (List.length x_1334))), (13, (int x_1510)), (16, (int e_1593)), (17, (.own 0 (Int.toNat e_1594) 0)), (52, (.sl (List.map (sl1 int1) table_1326))), (53, (int (List.length table_1326 : Int))), (54, (int x_1510)), (63, (.sl (List.map int1 x_1556))), (64, (int (List.length x_1556 : Int))), (65, (int x_1586)), (102, (bool (e_1597 != e_1594)))]) (L' := [(0, (some (.cells 2 51 (List.map Mix.cells (List.set out_1585 (Int.toNat e_1594) (Mix.mk e_1595.Num (w64 (e_1595.Den + (w64 (e_1596 * e_1593))))))))))]) rfl hs_refl ?_))
                      repeat refine SatL.seq ?_
                      refine SatL.condX rfl (fun hc2854 => ?_) (fun hc2854 => ?_)
                      ·
                        replace H2 := iteT H2 hc2854
                        repeat refine SatL.seq ?_
                        refine SatL.drawe [] [] [some 103, some 104, some 105, some 106, some 107, some 108, some 109, some 110, some 111, some 112, some 113, some 114, some 115, none] rfl (by kernel_rfl) (by kernel_rfl) rfl rfl fun K2855 hK2855 => ?_
                        refine dd_step (ds_r0 _ rfl rfl (fun _ hK => s_mv (v := (.own 0 (Int.toNat e_1594) 0)) rfl hK) ?_)
                        refine dd_step (ds_r0 _ rfl rfl (fun _ hK => s_nilOwn rfl (hl_self _ _ _) hK) ?_)
                        refine dd_step (ds_r0 _ rfl rfl (fun _ hK => s_faOwn (j' := 0) fld_51_0 rfl rfl (isC (hl_self _ _ _)) hK) ?_)
                        obtain ⟨e_1598, he_1598, H2⟩ := bindS H2
                        refine dd_step (ds_r0 _ rfl rfl (fun _ hK => s_load1 (c := (int e_1598.Num)) agg_3 (d_own rfl (hl_self _ _ _) (mapget he_1598) rfl) rfl hK) ?_)
                        refine dd_step (ds_r0 _ rfl rfl (fun _ hK => s_mv (v := (.sl (List.map int1 counts_1328))) rfl hK) ?_)
                        refine dd_step (ds_r0 _ rfl rfl (fun _ hK => s_mv (v := (int x_1510)) rfl hK) ?_)
                        refine dd_step (ds_r0 _ rfl rfl (fun _ hK => s_ixSl elem_23 rfl rfl he_1596 cells_3 rfl (by decide) hK) ?_)
                        refine dd_step (ds_r0 _ rfl rfl (fun _ hK => s_load1 (c := (int e_1596)) agg_3 (d_fp rfl) rfl hK) ?_)
                        refine dd_step (ds_r0 _ rfl rfl (fun _ hK => s_mv (v := (int e_1593)) rfl hK) ?_)
                        refine dd_step (ds_r0 _ rfl rfl (fun _ hK => s_bin rfl rfl (b_mul64 hK)) ?_)
                        refine dd_step (ds_r0 _ rfl rfl (fun _ hK => s_bin rfl rfl (b_add64 hK)) ?_)
                        refine dd_step (ds_r0 _ rfl rfl (fun _ hK => s_nilOwn rfl (hl_self _ _ _) hK) ?_)
                        refine dd_step (ds_r0 _ rfl rfl (fun _ hK => s_faOwn (j' := 0) fld_51_0 rfl rfl (isC (hl_self _ _ _)) hK) ?_)
                        refine dd_step (ds_w0 _ _ _ rfl rfl (fun _ hK => s_store rfl (hl_self _ _ _) (mapget he_1598) rfl cells_3 rfl (by decide) (Nat.le_of_ble_eq_true rfl) (set_map (f := Mix.cells) (y := (Mix.mk (w64 (e_1598.Num + (w64 (e_1596 * e_1593)))) e_1598.Den)) rfl) (hu_self _ _ _ _) hK) ?_)
                        refine dd_end rc_nil (hK2855 _ ?_)
                        refine (blockN (thenN ?_))
                        refine SatL.forget [1, 2, 3, 11, 12, 13, 52, 53, 54, 63, 64, 65] (SatL.norm (n := 1) (h := hl [(0, (some (.cells 2 51 (List.map Mix.cells (List.set (List.set out_1585 (Int.toNat e_1594) (Mix.mk e_1595.Num (w64 (e_1595.Den + (w64 (e_1596 * e_1593)))))) (Int.toNat e_1594) (Mix.mk (w64 (e_1598.Num + (w64 (e_1596 * e_1593)))) e_1598.Den))))))]) (env' := [(1, (int n_1327)), (2, (.sl (List.map int1 counts_1328))), (3, (.sl (List.map int1 bins_1329))), (11, (int (List.length table_1326 : Int))), (12, (.ms 0 0 (List.length x_1334))), (13, (int x_1510)), (52, (.sl (List.map (sl1 int1) table_1326))), (53, (int (List.length table_1326 : Int))), (54, (int x_1510)), (63, (.sl (List.map int1 x_1556))), (64, (int (List.length x_1556 : Int))), (65, (int x_1586))]) (L' := [(0, (some (.cells 2 51 (List.map Mix.cells (List.set (List.set out_1585 (Int.toNat e_1594) (Mix.mk e_1595.Num (w64 (e_1595.Den + (w64 (e_1596 * e_1593)))))) (Int.toNat e_1594) (Mix.mk (w64 (e_1598.Num + (w64 (e_1596 * e_1593)))) e_1598.Den))))))]) rfl hs_refl ?_)
                        repeat refine SatL.seq ?_
                        refine SatL.rege [some 116, some 65] rfl rfl fun K2870 hK2870 => ?_
                        refine st (fun _ hk => s_bin rfl rfl (b_add64 hk)) ?_
                        refine st (fun _ hk => s_mv (v := (int (w64 (x_1586 + 1)))) rfl hk) ?_
                        refine aopsS_end (hK2870 _ ?_)
                        have hw2873 : w64 (x_1586 + 1) = x_1586 + 1 := w64_id (by omega) (by omega)
                        exact (thenN ⟨k1, ⟨(List.set (List.set out_1585 (Int.toNat e_1594) (Mix.mk e_1595.Num (w64 (e_1595.Den + (w64 (e_1596 * e_1593)))))) (Int.toNat e_1594) (Mix.mk (w64 (e_1598.Num + (w64 (e_1596 * e_1593)))) e_1598.Den)), (w64 (x_1586 + 1)), (StLe.of [(0, (some (.cells 2 51 (List.map Mix.cells (List.set (List.set out_1585 (Int.toNat e_1594) (Mix.mk e_1595.Num (w64 (e_1595.Den + (w64 (e_1596 * e_1593)))))) (Int.toNat e_1594) (Mix.mk (w64 (e_1598.Num + (w64 (e_1596 * e_1593)))) e_1598.Den))))))] 1 rfl (hs_cons (hl_self _ _ _) hs_nil) (Nat.le_refl _)), (by first | exact (List.length_set.trans (List.length_set.trans hlenout_1585)) | simp), (by omega), (by rw [hw2873]; omega), (Eq.mpr (congrArg (fun q_ => sort_Wrong_L1 counts_1328 bins_1329 x_1510 x_1556 k1 ((List.set (List.set out_1585 (Int.toNat e_1594) (Mix.mk e_1595.Num (w64 (e_1595.Den + (w64 (e_1596 * e_1593)))))) (Int.toNat e_1594) (Mix.mk (w64 (e_1598.Num + (w64 (e_1596 * e_1593)))) e_1598.Den))) q_ = some o_1578) hw2873) H2)⟩, by omega⟩)
                      ·
                        replace H2 := iteF H2 hc2854
                        refine SatL.skip ?_
                        refine SatL.nil (blockN (thenN ?_))
                        repeat refine SatL.seq ?_
                        refine SatL.rege [some 116, some 65] rfl rfl fun K2874 hK2874 => ?_
                        refine st (fun _ hk => s_bin rfl rfl (b_add64 hk)) ?_
                        refine st (fun _ hk => s_mv (v := (int (w64 (x_1586 + 1)))) rfl hk) ?_
                        refine aopsS_end (hK2874 _ ?_)
                        have hw2877 : w64 (x_1586 + 1) = x_1586 + 1 := w64_id (by omega) (by omega)
                        exact (thenN ⟨k1, ⟨(List.set out_1585 (Int.toNat e_1594) (Mix.mk e_1595.Num (w64 (e_1595.Den + (w64 (e_1596 * e_1593)))))), (w64 (x_1586 + 1)), (StLe.of [(0, (some (.cells 2 51 (List.map Mix.cells (List.set out_1585 (Int.toNat e_1594) (Mix.mk e_1595.Num (w64 (e_1595.Den + (w64 (e_1596 * e_1593))))))))))] 1 rfl (hs_cons (hl_self _ _ _) hs_nil) (Nat.le_refl _)), (by first | exact (List.length_set.trans hlenout_1585) | simp), (by omega), (by rw [hw2877]; omega), (Eq.mpr (congrArg (fun q_ => sort_Wrong_L1 counts_1328 bins_1329 x_1510 x_1556 k1 ((List.set out_1585 (Int.toNat e_1594) (Mix.mk e_1595.Num (w64 (e_1595.Den + (w64 (e_1596 * e_1593))))))) q_ = some o_1578) hw2877) H2)⟩, by omega⟩)
              ·
                rintro s_ ⟨out_1466, rfl, hs_, hlenout_1466⟩
                refine SatL.le hs_ ?_
                clear hs_
                replace H0 := un1S H0
                repeat refine SatL.seq ?_
                refine SatL.reg [8, 9] [some 118, some 8, some 9] rfl rfl fun K2882 hK2882 => ?_
                refine st (fun _ hk => s_mv (v := (.ms 0 0 (List.length x_1334))) rfl hk) ?_
                refine st (fun _ hk => s_as (v := (.ms 0 0 (List.length x_1334))) rfl hk) ?_
                refine st (fun _ hk => s_as (v := (int 0)) rfl hk) ?_
                refine aopsS_end (hK2882 _ (SatL.norm (n := 1) (h := hl [(0, (some (.cells 2 51 (List.map Mix.cells out_1466))))]) (env' := [(8, (.ms 0 0 (List.length x_1334))), (9, (int 0))]) (L' := [(0, (some (.cells 2 51 (List.map Mix.cells out_1466))))]) rfl hs_refl ?_))
                obtain rfl := Option.some.inj H0
                exact SatL.ret (fnQ_snap [(0, (some (.cells 2 51 (List.map Mix.cells out_1466))))] (.tp [(.ms 0 0 (List.length x_1334)), (int 0)]) (.tp [(.sl (List.map Mix.cells out_1466)), (int 0)]) rfl (Snap.tpL (SnapL.cons (Snap.msW (hl_self _ _ _) hlenout_1466 Mix.fr) (SnapL.cons (Snap.free _ (.sc _)) SnapL.nil))) rfl)
          ·
            replace H0 := iteT H0 (by simpa using g46)
            refine aopsS_off rfl rfl ?_
            refine aopsS_off rfl rfl ?_
            refine st (fun _ hk => s_pickT (v := (bool true)) rfl rfl hk) ?_
            refine aopsS_end (hK20 _ (SatL.norm (n := 0) (h := hl []) (env' := [(0, (.sl (List.map (sl1 int1) table_1326))), (1, (int n_1327)), (2, (.sl (List.map int1 counts_1328))), (3, (.sl (List.map int1 bins_1329))), (11, (int (List.length table_1326 : Int))), (50, (bool true))]) (L' := []) rfl hs_refl ?_))
            repeat refine SatL.seq ?_
            refine SatL.condT rfl rfl ?_
            repeat refine SatL.seq ?_
            refine SatL.reg [8, 9] [some 8, some 9] rfl rfl fun K2887 hK2887 => ?_
            refine st (fun _ hk => s_as (v := nilS) rfl hk) ?_
            refine st (fun _ hk => s_as (v := (int 2)) rfl hk) ?_
            refine aopsS_end (hK2887 _ (SatL.norm (n := 0) (h := hl []) (env' := [(8, nilS), (9, (int 2))]) (L' := []) rfl hs_refl ?_))
            obtain rfl := Option.some.inj H0
            exact SatL.ret (fnQ_snap [] (.tp [nilS, (int 2)]) (.tp [(.sl []), (int 2)]) rfl (Snap.tpL (SnapL.cons Snap.nilS (SnapL.cons (Snap.free _ (.sc _)) SnapL.nil))) rfl)
        ·
          replace H0 := iteT H0 (by simpa using g40)
          refine aopsS_off rfl rfl ?_
          refine aopsS_off rfl rfl ?_
          refine st (fun _ hk => s_pickT (v := (bool true)) rfl rfl hk) ?_
          refine st (fun _ hk => s_mv (v := (bool true)) rfl hk) ?_
          refine aopsS_off rfl rfl ?_
          refine aopsS_off rfl rfl ?_
          refine aopsS_off rfl rfl ?_
          refine st (fun _ hk => s_pickT (v := (bool true)) rfl rfl hk) ?_
          refine aopsS_end (hK20 _ (SatL.norm (n := 0) (h := hl []) (env' := [(0, (.sl (List.map (sl1 int1) table_1326))), (1, (int n_1327)), (2, (.sl (List.map int1 counts_1328))), (3, (.sl (List.map int1 bins_1329))), (11, (int (List.length table_1326 : Int))), (50, (bool true))]) (L' := []) rfl hs_refl ?_))
          repeat refine SatL.seq ?_
          refine SatL.condT rfl rfl ?_
          repeat refine SatL.seq ?_
          refine SatL.reg [8, 9] [some 8, some 9] rfl rfl fun K2893 hK2893 => ?_
          refine st (fun _ hk => s_as (v := nilS) rfl hk) ?_
          refine st (fun _ hk => s_as (v := (int 2)) rfl hk) ?_
          refine aopsS_end (hK2893 _ (SatL.norm (n := 0) (h := hl []) (env' := [(8, nilS), (9, (int 2))]) (L' := []) rfl hs_refl ?_))
          obtain rfl := Option.some.inj H0
          exact SatL.ret (fnQ_snap [] (.tp [nilS, (int 2)]) (.tp [(.sl []), (int 2)]) rfl (Snap.tpL (SnapL.cons Snap.nilS (SnapL.cons (Snap.free _ (.sc _)) SnapL.nil))) rfl)
      ·
        replace H0 := iteT H0 (by simpa using g33)
        refine aopsS_off rfl rfl ?_
        refine aopsS_off rfl rfl ?_
        refine aopsS_off rfl rfl ?_
        refine st (fun _ hk => s_pickT (v := (bool true)) rfl rfl hk) ?_
        refine st (fun _ hk => s_mv (v := (bool true)) rfl hk) ?_
        refine aopsS_off rfl rfl ?_
        refine aopsS_off rfl rfl ?_
        refine aopsS_off rfl rfl ?_
        refine st (fun _ hk => s_pickT (v := (bool true)) rfl rfl hk) ?_
        refine st (fun _ hk => s_mv (v := (bool true)) rfl hk) ?_
        refine aopsS_off rfl rfl ?_
        refine aopsS_off rfl rfl ?_
        refine aopsS_off rfl rfl ?_
        refine st (fun _ hk => s_pickT (v := (bool true)) rfl rfl hk) ?_
        refine aopsS_end (hK20 _ (SatL.norm (n := 0) (h := hl []) (env' := [(0, (.sl (List.map (sl1 int1) table_1326))), (1, (int n_1327)), (2, (.sl (List.map int1 counts_1328))), (3, (.sl (List.map int1 bins_1329))), (11, (int (List.length table_1326 : Int))), (50, (bool true))]) (L' := []) rfl hs_refl ?_))
        repeat refine SatL.seq ?_
        refine SatL.condT rfl rfl ?_
        repeat refine SatL.seq ?_
        refine SatL.reg [8, 9] [some 8, some 9] rfl rfl fun K2901 hK2901 => ?_
        refine st (fun _ hk => s_as (v := nilS) rfl hk) ?_
        refine st (fun _ hk => s_as (v := (int 2)) rfl hk) ?_
        refine aopsS_end (hK2901 _ (SatL.norm (n := 0) (h := hl []) (env' := [(8, nilS), (9, (int 2))]) (L' := []) rfl hs_refl ?_))
        obtain rfl := Option.some.inj H0
        exact SatL.ret (fnQ_snap [] (.tp [nilS, (int 2)]) (.tp [(.sl []), (int 2)]) rfl (Snap.tpL (SnapL.cons Snap.nilS (SnapL.cons (Snap.free _ (.sc _)) SnapL.nil))) rfl)
    ·
      replace H0 := iteT H0 (by simpa using g26)
      refine aopsS_off rfl rfl ?_
      refine aopsS_off rfl rfl ?_
      refine aopsS_off rfl rfl ?_
      refine st (fun _ hk => s_pickT (v := (bool true)) rfl rfl hk) ?_
      refine st (fun _ hk => s_mv (v := (bool true)) rfl hk) ?_
      refine aopsS_off rfl rfl ?_
      refine aopsS_off rfl rfl ?_
      refine aopsS_off rfl rfl ?_
      refine aopsS_off rfl rfl ?_
      refine st (fun _ hk => s_pickT (v := (bool true)) rfl rfl hk) ?_
      refine st (fun _ hk => s_mv (v := (bool true)) rfl hk) ?_
      refine aopsS_off rfl rfl ?_
      refine aopsS_off rfl rfl ?_
      refine aopsS_off rfl rfl ?_
      refine st (fun _ hk => s_pickT (v := (bool true)) rfl rfl hk) ?_
      refine st (fun _ hk => s_mv (v := (bool true)) rfl hk) ?_
      refine aopsS_off rfl rfl ?_
      refine aopsS_off rfl rfl ?_
      refine aopsS_off rfl rfl ?_
      refine st (fun _ hk => s_pickT (v := (bool true)) rfl rfl hk) ?_
      refine aopsS_end (hK20 _ (SatL.norm (n := 0) (h := hl []) (env' := [(0, (.sl (List.map (sl1 int1) table_1326))), (1, (int n_1327)), (2, (.sl (List.map int1 counts_1328))), (3, (.sl (List.map int1 bins_1329))), (11, (int (List.length table_1326 : Int))), (50, (bool true))]) (L' := []) rfl hs_refl ?_))
      repeat refine SatL.seq ?_
      refine SatL.condT rfl rfl ?_
      repeat refine SatL.seq ?_
      refine SatL.reg [8, 9] [some 8, some 9] rfl rfl fun K2911 hK2911 => ?_
      refine st (fun _ hk => s_as (v := nilS) rfl hk) ?_
      refine st (fun _ hk => s_as (v := (int 2)) rfl hk) ?_
      refine aopsS_end (hK2911 _ (SatL.norm (n := 0) (h := hl []) (env' := [(8, nilS), (9, (int 2))]) (L' := []) rfl hs_refl ?_))
      obtain rfl := Option.some.inj H0
      exact SatL.ret (fnQ_snap [] (.tp [nilS, (int 2)]) (.tp [(.sl []), (int 2)]) rfl (Snap.tpL (SnapL.cons Snap.nilS (SnapL.cons (Snap.free _ (.sc _)) SnapL.nil))) rfl)

theorem ref09_Wrong_PC {l_1601 : (List (List Int))} {n_1602 : Int} {counts_1603 : (List Int)} {bins_1604 : (List Int)} {r : ((List Mix) × Int)} (H0 : ref09_Wrong l_1601 n_1602 counts_1603 bins_1604 = some r) : PC Try.prog 27 [(.sl (List.map (sl1 int1) l_1601)), (int n_1602), (.sl (List.map int1 counts_1603)), (.sl (List.map int1 bins_1604))] (· = (.tp [(.sl (List.map Mix.cells r.1)), (int r.2)])) := by
  unfold ref09_Wrong at H0
  refine PC.of_bodyL [(0, (.sl (List.map (sl1 int1) l_1601))), (1, (int n_1602)), (2, (.sl (List.map int1 counts_1603))), (3, (.sl (List.map int1 bins_1604)))] Try.func27 rfl rfl (Nat.le_of_ble_eq_true rfl) rfl fun O => ?_
  repeat refine SatL.seq ?_
  refine SatL.reg [0, 1, 2, 3] [some 8, some 9] rfl rfl fun K1 hK1 => ?_
  refine st (fun _ hk => s_as (v := nilS) rfl hk) ?_
  refine st (fun _ hk => s_as (v := (int 0)) rfl hk) ?_
  refine aopsS_end (hK1 _ (SatL.norm (n := 0) (h := hl []) (env' := [(0, (.sl (List.map (sl1 int1) l_1601))), (1, (int n_1602)), (2, (.sl (List.map int1 counts_1603))), (3, (.sl (List.map int1 bins_1604)))]) (L' := []) rfl hs_refl ?_))
  repeat refine SatL.seq ?_
  refine SatL.reg [0, 1, 2, 3, 18] [some 16, some 17, some 18] rfl rfl fun K4 hK4 => ?_
  refine st (fun _ hk => s_mv (v := (.sl (List.map (sl1 int1) l_1601))) rfl hk) ?_
  obtain ⟨r_1605, hr_1605, H0⟩ := bindS H0
  refine st (fun _ hk => s_call (avs := [(.sl (List.map (sl1 int1) l_1601))]) rfl rfl rfl (PC.call1 (ref09_Table_PC hr_1605) (FreeL.cons (Free.slm (fr_sl1 fr_int1)) FreeL.nil) hk)) ?_
  refine st (fun _ hk => s_not rfl hk) ?_
  refine aopsS_end (hK4 _ (SatL.norm (n := 0) (h := hl []) (env' := [(0, (.sl (List.map (sl1 int1) l_1601))), (1, (int n_1602)), (2, (.sl (List.map int1 counts_1603))), (3, (.sl (List.map int1 bins_1604))), (18, (bool (!r_1605)))]) (L' := []) rfl hs_refl ?_))
  repeat refine SatL.seq ?_
  refine SatL.condX rfl (fun hc8 => ?_) (fun hc8 => ?_)
  ·
    replace H0 := iteT H0 hc8
    repeat refine SatL.seq ?_
    refine SatL.reg [8, 9] [some 8, some 9] rfl rfl fun K9 hK9 => ?_
    refine st (fun _ hk => s_as (v := nilS) rfl hk) ?_
    refine st (fun _ hk => s_as (v := (int 8)) rfl hk) ?_
    refine aopsS_end (hK9 _ (SatL.norm (n := 0) (h := hl []) (env' := [(8, nilS), (9, (int 8))]) (L' := []) rfl hs_refl ?_))
    obtain rfl := Option.some.inj H0
    exact SatL.ret (fnQ_snap [] (.tp [nilS, (int 8)]) (.tp [(.sl []), (int 8)]) rfl (Snap.tpL (SnapL.cons Snap.nilS (SnapL.cons (Snap.free _ (.sc _)) SnapL.nil))) rfl)
  ·
    replace H0 := iteF H0 hc8
    refine SatL.skip ?_
    repeat refine SatL.seq ?_
    refine SatL.reg [0, 1, 2, 3, 35] [some 19, some 20, some 21, some 22, some 23, some 24, some 25, some 26, some 27, some 28, some 29, some 30, some 31, some 32, some 33, some 34, some 35] rfl rfl fun K12 hK12 => ?_
    refine st (fun _ hk => s_mv (v := (int n_1602)) rfl hk) ?_
    obtain ⟨r_1606, hr_1606, H0⟩ := bindS H0
    refine st (fun _ hk => s_call (avs := [(int n_1602), (int 1), (int 5)]) rfl rfl rfl (PC.call1 (ref09_within_PC hr_1606) (FreeL.cons (.sc _) (FreeL.cons (.sc _) (FreeL.cons (.sc _) FreeL.nil))) hk)) ?_
    refine st (fun _ hk => s_not rfl hk) ?_
    refine st (fun _ hk => s_mv (v := (bool (!r_1606))) rfl hk) ?_
    refine aopsS_split rfl _ rfl (fun g17 => ?_) (fun g17 => ?_)
    ·
      replace H0 := iteF H0 (by simpa using g17)
      refine sx (fun _ hk => s_mv (v := (.sl (List.map int1 counts_1603))) rfl hk) ?_
      refine aopsS_on rfl rfl fun _ hK => s_lenSl elem_23 rfl (fun hl19 => hK _ _ _ ?_)
      clear hK
      refine sg rfl rfl (fun _ hk => s_mv (v := (.sl (List.map (sl1 int1) l_1601))) rfl hk) ?_
      refine aopsS_on rfl rfl fun _ hK => s_lenSl elem_38 rfl (fun hl21 => hK _ _ _ ?_)
      clear hK
      refine sg rfl rfl (fun _ hk => s_bin rfl rfl (b_neq hk)) ?_
      refine st (fun _ hk => s_pickF (v := (bool ((List.length counts_1603 : Int) != (List.length l_1601 : Int)))) rfl rfl hk) ?_
      refine st (fun _ hk => s_mv (v := (bool ((List.length counts_1603 : Int) != (List.length l_1601 : Int)))) rfl hk) ?_
      refine aopsS_split rfl _ rfl (fun g25 => ?_) (fun g25 => ?_)
      ·
        replace H0 := iteF H0 (by simpa using g25)
        refine sx (fun _ hk => s_mv (v := (.sl (List.map int1 bins_1604))) rfl hk) ?_
        refine aopsS_on rfl rfl fun _ hK => s_lenSl elem_23 rfl (fun hl27 => hK _ _ _ ?_)
        clear hK
        refine sg rfl rfl (fun _ hk => s_mv (v := (.sl (List.map (sl1 int1) l_1601))) rfl hk) ?_
        refine aopsS_on rfl rfl fun _ hK => s_lenSl elem_38 rfl (fun hl29 => hK _ _ _ ?_)
        clear hK
        refine sg rfl rfl (fun _ hk => s_bin rfl rfl (b_neq hk)) ?_
        refine st (fun _ hk => s_pickF (v := (bool ((List.length bins_1604 : Int) != (List.length l_1601 : Int)))) rfl rfl hk) ?_
        refine aopsS_end (hK12 _ (SatL.norm (n := 0) (h := hl []) (env' := [(0, (.sl (List.map (sl1 int1) l_1601))), (1, (int n_1602)), (2, (.sl (List.map int1 counts_1603))), (3, (.sl (List.map int1 bins_1604))), (35, (bool ((List.length bins_1604 : Int) != (List.length l_1601 : Int))))]) (L' := []) rfl hs_refl ?_))
        repeat refine SatL.seq ?_
        refine SatL.condX rfl (fun hc32 => ?_) (fun hc32 => ?_)
        ·
          replace H0 := iteT H0 hc32
          repeat refine SatL.seq ?_
          refine SatL.reg [8, 9] [some 8, some 9] rfl rfl fun K33 hK33 => ?_
          refine st (fun _ hk => s_as (v := nilS) rfl hk) ?_
          refine st (fun _ hk => s_as (v := (int 2)) rfl hk) ?_
          refine aopsS_end (hK33 _ (SatL.norm (n := 0) (h := hl []) (env' := [(8, nilS), (9, (int 2))]) (L' := []) rfl hs_refl ?_))
          obtain rfl := Option.some.inj H0
          exact SatL.ret (fnQ_snap [] (.tp [nilS, (int 2)]) (.tp [(.sl []), (int 2)]) rfl (Snap.tpL (SnapL.cons Snap.nilS (SnapL.cons (Snap.free _ (.sc _)) SnapL.nil))) rfl)
        ·
          replace H0 := iteF H0 hc32
          refine SatL.skip ?_
          repeat refine SatL.seq ?_
          refine SatL.reg [0, 1, 2, 3, 10] [some 10] rfl rfl fun K36 hK36 => ?_
          refine st (fun _ hk => s_as (v := (int 0)) rfl hk) ?_
          refine aopsS_end (hK36 _ (SatL.norm (n := 0) (h := hl []) (env' := [(0, (.sl (List.map (sl1 int1) l_1601))), (1, (int n_1602)), (2, (.sl (List.map int1 counts_1603))), (3, (.sl (List.map int1 bins_1604))), (10, (int 0))]) (L' := []) rfl hs_refl ?_))
          repeat refine SatL.seq ?_
          obtain ⟨o_1620, H1, H0⟩ := bindS H0
          refine SatL.mid [0, 1, 2, 3] (fun s_ => (Sum.inr ()) = o_1620 ∧ StLe s_ [(0, (.sl (List.map (sl1 int1) l_1601))), (1, (int n_1602)), (2, (.sl (List.map int1 counts_1603))), (3, (.sl (List.map int1 bins_1604)))] [] 0) ?_ ?_
          ·
            repeat refine SatL.seq ?_
            refine SatL.block ?_
            repeat refine SatL.seq ?_
            refine SatL.loopK [0, 1, 2, 3, 10] (fun k0 s_ => ∃ (i_1625 : Int), StLe s_ [(0, (.sl (List.map (sl1 int1) l_1601))), (1, (int n_1602)), (2, (.sl (List.map int1 counts_1603))), (3, (.sl (List.map int1 bins_1604))), (10, (int i_1625))] [] 0 ∧ 0 ≤ i_1625 ∧ k0 = Int.toNat ((List.length l_1601 : Int) - i_1625) ∧ ref09_Wrong_L0 l_1601 counts_1603 bins_1604 k0 i_1625 = some o_1620) (Int.toNat ((List.length l_1601 : Int) - 0)) ?_ ?_
            · exact ⟨0, (StLe.of [] 0 rfl hs_nil (Nat.le_refl _)), (by omega), rfl, H1⟩
            rintro k0 s_ ⟨i_1625, hs_, _, hk_, H1⟩
            refine SatL.le hs_ ?_
            clear hs_
            rcases k0 with _ | k0
            ·
              rw [ref09_Wrong_L0.eq_1] at H1
              repeat refine SatL.seq ?_
              refine SatL.reg [0, 1, 2, 3, 10, 39] [some 36, some 37, some 38, some 39] rfl rfl fun K208 hK208 => ?_
              refine st (fun _ hk => s_mv (v := (int i_1625)) rfl hk) ?_
              refine st (fun _ hk => s_mv (v := (.sl (List.map (sl1 int1) l_1601))) rfl hk) ?_
              refine aopsS_step fun _ hK => s_lenSl elem_38 rfl (fun hl211 => hK _ _ _ ?_)
              clear hK
              refine st (fun _ hk => s_bin rfl rfl (b_lss hk)) ?_
              refine aopsS_end (hK208 _ (SatL.norm (n := 0) (h := hl []) (env' := [(0, (.sl (List.map (sl1 int1) l_1601))), (1, (int n_1602)), (2, (.sl (List.map int1 counts_1603))), (3, (.sl (List.map int1 bins_1604))), (10, (int i_1625)), (39, (bool (decide (i_1625 < (List.length l_1601 : Int)))))]) (L' := []) rfl hs_refl ?_))
              repeat refine SatL.seq ?_
              refine SatL.condF rfl (decide_eq_false (by omega)) ?_
              refine SatL.exit ?_
              simp only [thenQ, blockQ, if_true, reduceIte, Nat.reduceEqDiff]
              obtain rfl := Option.some.inj H1
              exact SatL.nil (thenN ⟨rfl, (StLe.of [] 0 rfl hs_nil (Nat.le_refl _))⟩)
            ·
              rw [ref09_Wrong_L0.eq_2] at H1
              repeat refine SatL.seq ?_
              refine SatL.reg [0, 1, 2, 3, 10, 39] [some 36, some 37, some 38, some 39] rfl rfl fun K213 hK213 => ?_
              refine st (fun _ hk => s_mv (v := (int i_1625)) rfl hk) ?_
              refine st (fun _ hk => s_mv (v := (.sl (List.map (sl1 int1) l_1601))) rfl hk) ?_
              refine aopsS_step fun _ hK => s_lenSl elem_38 rfl (fun hl216 => hK _ _ _ ?_)
              clear hK
              refine st (fun _ hk => s_bin rfl rfl (b_lss hk)) ?_
              refine aopsS_end (hK213 _ (SatL.norm (n := 0) (h := hl []) (env' := [(0, (.sl (List.map (sl1 int1) l_1601))), (1, (int n_1602)), (2, (.sl (List.map int1 counts_1603))), (3, (.sl (List.map int1 bins_1604))), (10, (int i_1625)), (39, (bool (decide (i_1625 < (List.length l_1601 : Int)))))]) (L' := []) rfl hs_refl ?_))
              repeat refine SatL.seq ?_
              refine SatL.condT rfl (decide_eq_true (by omega)) ?_
              have hlt218 : (i_1625 < (List.length l_1601 : Int)) := by omega
              refine SatL.skip ?_
              repeat refine SatL.seq ?_
              refine SatL.block ?_
              repeat refine SatL.seq ?_
              refine SatL.reg [0, 1, 2, 3, 10, 55] [some 42, some 43, some 44, some 45, some 46, some 47, some 48, some 49, some 50, some 51, some 52, some 53, some 54, some 55] rfl rfl fun K219 hK219 => ?_
              refine st (fun _ hk => s_mv (v := (.sl (List.map int1 counts_1603))) rfl hk) ?_
              refine st (fun _ hk => s_mv (v := (int i_1625)) rfl hk) ?_
              obtain ⟨e_1630, he_1630, H1⟩ := bindS H1
              refine st (fun _ hk => s_ixSl elem_23 rfl rfl he_1630 cells_3 rfl (by decide) hk) ?_
              refine st (fun _ hk => s_load1 (c := (int e_1630)) agg_3 (d_fp rfl) rfl hk) ?_
              obtain ⟨r_1631, hr_1631, H1⟩ := bindS H1
              refine st (fun _ hk => s_call (avs := [(int e_1630), (int 0), (int 1000)]) rfl rfl rfl (PC.call1 (ref09_within_PC hr_1631) (FreeL.cons (.sc _) (FreeL.cons (.sc _) (FreeL.cons (.sc _) FreeL.nil))) hk)) ?_
              refine st (fun _ hk => s_not rfl hk) ?_
              refine st (fun _ hk => s_mv (v := (bool (!r_1631))) rfl hk) ?_
              refine aopsS_split rfl _ rfl (fun g227 => ?_) (fun g227 => ?_)
              ·
                replace H1 := iteF H1 (by simpa using g227)
                refine sx (fun _ hk => s_mv (v := (.sl (List.map int1 bins_1604))) rfl hk) ?_
                refine sg rfl rfl (fun _ hk => s_mv (v := (int i_1625)) rfl hk) ?_
                obtain ⟨e_1632, he_1632, H1⟩ := bindS H1
                refine sg rfl rfl (fun _ hk => s_ixSl elem_23 rfl rfl he_1632 cells_3 rfl (by decide) hk) ?_
                refine sg rfl rfl (fun _ hk => s_load1 (c := (int e_1632)) agg_3 (d_fp rfl) rfl hk) ?_
                obtain ⟨r_1633, hr_1633, H1⟩ := bindS H1
                refine sg rfl rfl (fun _ hk => s_call (avs := [(int e_1632), (int (-1)), (int 7)]) rfl rfl rfl (PC.call1 (ref09_within_PC hr_1633) (FreeL.cons (.sc _) (FreeL.cons (.sc _) (FreeL.cons (.sc _) FreeL.nil))) hk)) ?_
                refine sg rfl rfl (fun _ hk => s_not rfl hk) ?_
                refine st (fun _ hk => s_pickF (v := (bool (!r_1633))) rfl rfl hk) ?_
                refine aopsS_end (hK219 _ (SatL.norm (n := 0) (h := hl []) (env' := [(0, (.sl (List.map (sl1 int1) l_1601))), (1, (int n_1602)), (2, (.sl (List.map int1 counts_1603))), (3, (.sl (List.map int1 bins_1604))), (10, (int i_1625)), (55, (bool (!r_1633)))]) (L' := []) rfl hs_refl ?_))
                repeat refine SatL.seq ?_
                refine SatL.condX rfl (fun hc235 => ?_) (fun hc235 => ?_)
                ·
                  replace H1 := iteT H1 hc235
                  repeat refine SatL.seq ?_
                  refine SatL.reg [8, 9] [some 8, some 9] rfl rfl fun K236 hK236 => ?_
                  refine st (fun _ hk => s_as (v := nilS) rfl hk) ?_
                  refine st (fun _ hk => s_as (v := (int 2)) rfl hk) ?_
                  refine aopsS_end (hK236 _ (SatL.norm (n := 0) (h := hl []) (env' := [(8, nilS), (9, (int 2))]) (L' := []) rfl hs_refl ?_))
                  obtain rfl := Option.some.inj H1
                  obtain rfl := Option.some.inj H0
                  exact SatL.ret (fnQ_snap [] (.tp [nilS, (int 2)]) (.tp [(.sl []), (int 2)]) rfl (Snap.tpL (SnapL.cons Snap.nilS (SnapL.cons (Snap.free _ (.sc _)) SnapL.nil))) rfl)
                ·
                  replace H1 := iteF H1 hc235
                  refine SatL.skip ?_
                  refine SatL.nil (blockN (thenN ?_))
                  repeat refine SatL.seq ?_
                  refine SatL.rege [some 40, some 41, some 10] rfl rfl fun K239 hK239 => ?_
                  refine st (fun _ hk => s_mv (v := (int i_1625)) rfl hk) ?_
                  refine st (fun _ hk => s_bin rfl rfl (b_add64 hk)) ?_
                  refine st (fun _ hk => s_as (v := (int (w64 (i_1625 + 1)))) rfl hk) ?_
                  refine aopsS_end (hK239 _ ?_)
                  have hw243 : w64 (i_1625 + 1) = i_1625 + 1 := w64_id (by omega) (by omega)
                  exact (thenN ⟨k0, ⟨(w64 (i_1625 + 1)), (StLe.of [] 0 rfl hs_nil (Nat.le_refl _)), (by omega), (by rw [hw243]; omega), (Eq.mpr (congrArg (fun q_ => ref09_Wrong_L0 l_1601 counts_1603 bins_1604 k0 q_ = some o_1620) hw243) H1)⟩, by omega⟩)
              ·
                replace H1 := iteT H1 (by simpa using g227)
                refine aopsS_off rfl rfl ?_
                refine aopsS_off rfl rfl ?_
                refine aopsS_off rfl rfl ?_
                refine aopsS_off rfl rfl ?_
                refine aopsS_off rfl rfl ?_
                refine st (fun _ hk => s_pickT (v := (bool true)) rfl rfl hk) ?_
                refine aopsS_end (hK219 _ (SatL.norm (n := 0) (h := hl []) (env' := [(0, (.sl (List.map (sl1 int1) l_1601))), (1, (int n_1602)), (2, (.sl (List.map int1 counts_1603))), (3, (.sl (List.map int1 bins_1604))), (10, (int i_1625)), (55, (bool true))]) (L' := []) rfl hs_refl ?_))
                repeat refine SatL.seq ?_
                refine SatL.condT rfl rfl ?_
                repeat refine SatL.seq ?_
                refine SatL.reg [8, 9] [some 8, some 9] rfl rfl fun K245 hK245 => ?_
                refine st (fun _ hk => s_as (v := nilS) rfl hk) ?_
                refine st (fun _ hk => s_as (v := (int 2)) rfl hk) ?_
                refine aopsS_end (hK245 _ (SatL.norm (n := 0) (h := hl []) (env' := [(8, nilS), (9, (int 2))]) (L' := []) rfl hs_refl ?_))
                obtain rfl := Option.some.inj H1
                obtain rfl := Option.some.inj H0
                exact SatL.ret (fnQ_snap [] (.tp [nilS, (int 2)]) (.tp [(.sl []), (int 2)]) rfl (Snap.tpL (SnapL.cons Snap.nilS (SnapL.cons (Snap.free _ (.sc _)) SnapL.nil))) rfl)
          ·
            rintro s_ ⟨rfl, hs_⟩
            refine SatL.le hs_ ?_
            clear hs_
            replace H0 := sumun0S H0
            repeat refine SatL.seq ?_
            refine SatL.reg [0, 1, 2, 3, 11] [some 56, some 11] rfl rfl fun K248 hK248 => ?_
            obtain ⟨x_1634, hx_1634, H0⟩ := bindS H0
            refine st (fun _ hk => s_mkT (n' := 1) (f := Mix.cells) elem_45 (zeroT zero_51 rfl) ⟨rfl, by decide⟩ rfl rfl hx_1634 bytes1_51 rfl hk) ?_
            refine st (fun _ hk => s_as (v := (.ms 0 0 (List.length x_1634))) rfl hk) ?_
            refine aopsS_end (hK248 _ (SatL.norm (n := 1) (h := hl [(0, (some (.cells 2 51 (List.map Mix.cells x_1634))))]) (env' := [(0, (.sl (List.map (sl1 int1) l_1601))), (1, (int n_1602)), (2, (.sl (List.map int1 counts_1603))), (3, (.sl (List.map int1 bins_1604))), (11, (.ms 0 0 (List.length x_1634)))]) (L' := [(0, (some (.cells 2 51 (List.map Mix.cells x_1634))))]) rfl hs_refl ?_))
            repeat refine SatL.seq ?_
            refine SatL.reg [0, 1, 2, 3, 11, 12] [some 12] rfl rfl fun K251 hK251 => ?_
            refine st (fun _ hk => s_as (v := (int 0)) rfl hk) ?_
            refine aopsS_end (hK251 _ (SatL.norm (n := 1) (h := hl [(0, (some (.cells 2 51 (List.map Mix.cells x_1634))))]) (env' := [(0, (.sl (List.map (sl1 int1) l_1601))), (1, (int n_1602)), (2, (.sl (List.map int1 counts_1603))), (3, (.sl (List.map int1 bins_1604))), (11, (.ms 0 0 (List.length x_1634))), (12, (int 0))]) (L' := [(0, (some (.cells 2 51 (List.map Mix.cells x_1634))))]) rfl hs_refl ?_))
            repeat refine SatL.seq ?_
            obtain ⟨o_1752, H1, H0⟩ := bindS H0
            refine SatL.mid [11] (fun s_ => ∃ (out_1750 : (List Mix)) (n_1751 : Nat), out_1750 = o_1752 ∧ StLe s_ [(11, (.ms 0 0 (List.length x_1634)))] [(0, (some (.cells 2 51 (List.map Mix.cells out_1750))))] n_1751 ∧ 0 < n_1751 ∧ List.length out_1750 = (List.length x_1634)) ?_ ?_
            ·
              repeat refine SatL.seq ?_
              refine SatL.block ?_
              repeat refine SatL.seq ?_
              refine SatL.loopK [0, 1, 2, 3, 11, 12] (fun k0 s_ => ∃ (out_1788 : (List Mix)) (k_1789 : Int) (n_1790 : Nat), StLe s_ [(0, (.sl (List.map (sl1 int1) l_1601))), (1, (int n_1602)), (2, (.sl (List.map int1 counts_1603))), (3, (.sl (List.map int1 bins_1604))), (11, (.ms 0 0 (List.length x_1634))), (12, (int k_1789))] [(0, (some (.cells 2 51 (List.map Mix.cells out_1788))))] n_1790 ∧ 0 < n_1790 ∧ List.length out_1788 = (List.length x_1634) ∧ 0 ≤ k_1789 ∧ k0 = Int.toNat ((List.length l_1601 : Int) - k_1789) ∧ ref09_Wrong_L1 l_1601 n_1602 counts_1603 bins_1604 k0 out_1788 k_1789 = some o_1752) (Int.toNat ((List.length l_1601 : Int) - 0)) ?_ ?_
              · exact ⟨x_1634, 0, 1, (StLe.of [(0, (some (.cells 2 51 (List.map Mix.cells x_1634))))] 1 rfl (hs_cons (hl_self _ _ _) hs_nil) (Nat.le_refl _)), (by omega), (by first | exact rfl | simp), (by omega), rfl, H1⟩
              rintro k0 s_ ⟨out_1788, k_1789, n_1790, hs_, _, hlenout_1788, _, hk_, H1⟩
              refine SatL.le hs_ ?_
              clear hs_
              rcases k0 with _ | k0
              ·
                rw [ref09_Wrong_L1.eq_1] at H1
                repeat refine SatL.seq ?_
                refine SatL.reg [0, 1, 2, 3, 11, 12, 60] [some 57, some 58, some 59, some 60] rfl rfl fun K3195 hK3195 => ?_
                refine st (fun _ hk => s_mv (v := (int k_1789)) rfl hk) ?_
                refine st (fun _ hk => s_mv (v := (.sl (List.map (sl1 int1) l_1601))) rfl hk) ?_
                refine aopsS_step fun _ hK => s_lenSl elem_38 rfl (fun hl3198 => hK _ _ _ ?_)
                clear hK
                refine st (fun _ hk => s_bin rfl rfl (b_lss hk)) ?_
                refine aopsS_end (hK3195 _ (SatL.norm (n := n_1790) (h := hl [(0, (some (.cells 2 51 (List.map Mix.cells out_1788))))]) (env' := [(0, (.sl (List.map (sl1 int1) l_1601))), (1, (int n_1602)), (2, (.sl (List.map int1 counts_1603))), (3, (.sl (List.map int1 bins_1604))), (11, (.ms 0 0 (List.length x_1634))), (12, (int k_1789)), (60, (bool (decide (k_1789 < (List.length l_1601 : Int)))))]) (L' := [(0, (some (.cells 2 51 (List.map Mix.cells out_1788))))]) rfl hs_refl ?_))
                repeat refine SatL.seq ?_
                refine SatL.condF rfl (decide_eq_false (by omega)) ?_
                refine SatL.exit ?_
                simp only [thenQ, blockQ, if_true, reduceIte, Nat.reduceEqDiff]
                obtain rfl := Option.some.inj H1
                exact SatL.nil (thenN ⟨out_1788, n_1790, rfl, (StLe.of [(0, (some (.cells 2 51 (List.map Mix.cells out_1788))))] n_1790 rfl (hs_cons (hl_self _ _ _) hs_nil) (Nat.le_refl _)), (by omega), (by first | exact hlenout_1788 | simp)⟩)
              ·
                rw [ref09_Wrong_L1.eq_2] at H1
                repeat refine SatL.seq ?_
                refine SatL.reg [0, 1, 2, 3, 11, 12, 60] [some 57, some 58, some 59, some 60] rfl rfl fun K3200 hK3200 => ?_
                refine st (fun _ hk => s_mv (v := (int k_1789)) rfl hk) ?_
                refine st (fun _ hk => s_mv (v := (.sl (List.map (sl1 int1) l_1601))) rfl hk) ?_
                refine aopsS_step fun _ hK => s_lenSl elem_38 rfl (fun hl3203 => hK _ _ _ ?_)
                clear hK
                refine st (fun _ hk => s_bin rfl rfl (b_lss hk)) ?_
                refine aopsS_end (hK3200 _ (SatL.norm (n := n_1790) (h := hl [(0, (some (.cells 2 51 (List.map Mix.cells out_1788))))]) (env' := [(0, (.sl (List.map (sl1 int1) l_1601))), (1, (int n_1602)), (2, (.sl (List.map int1 counts_1603))), (3, (.sl (List.map int1 bins_1604))), (11, (.ms 0 0 (List.length x_1634))), (12, (int k_1789)), (60, (bool (decide (k_1789 < (List.length l_1601 : Int)))))]) (L' := [(0, (some (.cells 2 51 (List.map Mix.cells out_1788))))]) rfl hs_refl ?_))
                repeat refine SatL.seq ?_
                refine SatL.condT rfl (decide_eq_true (by omega)) ?_
                have hlt3205 : (k_1789 < (List.length l_1601 : Int)) := by omega
                refine SatL.skip ?_
                repeat refine SatL.seq ?_
                refine SatL.block ?_
                repeat refine SatL.seq ?_
                refine SatL.reg [0, 1, 2, 3, 11, 12, 13] [some 63, some 64, some 65, some 66, some 13] rfl rfl fun K3206 hK3206 => ?_
                refine st (fun _ hk => s_mv (v := (.sl (List.map (sl1 int1) l_1601))) rfl hk) ?_
                refine st (fun _ hk => s_mv (v := (int k_1789)) rfl hk) ?_
                refine st (fun _ hk => s_mv (v := (int n_1602)) rfl hk) ?_
                obtain ⟨r_1828, hr_1828, H1⟩ := bindS H1
                refine st (fun _ hk => s_call (avs := [(.sl (List.map (sl1 int1) l_1601)), (int k_1789), (int n_1602)]) rfl rfl rfl (PC.call1 (ref09_Counted_PC hr_1828) (FreeL.cons (Free.slm (fr_sl1 fr_int1)) (FreeL.cons (.sc _) (FreeL.cons (.sc _) FreeL.nil))) hk)) ?_
                refine st (fun _ hk => s_as (v := (.sl (List.map int1 r_1828))) rfl hk) ?_
                refine aopsS_end (hK3206 _ (SatL.norm (n := n_1790) (h := hl [(0, (some (.cells 2 51 (List.map Mix.cells out_1788))))]) (env' := [(0, (.sl (List.map (sl1 int1) l_1601))), (1, (int n_1602)), (2, (.sl (List.map int1 counts_1603))), (3, (.sl (List.map int1 bins_1604))), (11, (.ms 0 0 (List.length x_1634))), (12, (int k_1789)), (13, (.sl (List.map int1 r_1828)))]) (L' := [(0, (some (.cells 2 51 (List.map Mix.cells out_1788))))]) rfl hs_refl ?_))
                repeat refine SatL.seq ?_
                refine SatL.reg [0, 1, 2, 3, 11, 12, 13, 14] [some 14] rfl rfl fun K3212 hK3212 => ?_
                refine st (fun _ hk => s_as (v := (int 0)) rfl hk) ?_
                refine aopsS_end (hK3212 _ (SatL.norm (n := n_1790) (h := hl [(0, (some (.cells 2 51 (List.map Mix.cells out_1788))))]) (env' := [(0, (.sl (List.map (sl1 int1) l_1601))), (1, (int n_1602)), (2, (.sl (List.map int1 counts_1603))), (3, (.sl (List.map int1 bins_1604))), (11, (.ms 0 0 (List.length x_1634))), (12, (int k_1789)), (13, (.sl (List.map int1 r_1828))), (14, (int 0))]) (L' := [(0, (some (.cells 2 51 (List.map Mix.cells out_1788))))]) rfl hs_refl ?_))
                repeat refine SatL.seq ?_
                obtain ⟨o_1849, H2, H1⟩ := bindS H1
                repeat refine SatL.seq ?_
                refine SatL.block ?_
                repeat refine SatL.seq ?_
                refine SatL.loopK [0, 1, 2, 3, 11, 12, 13, 14] (fun k1 s_ => ∃ (out_1855 : (List Mix)) (j_1856 : Int) (n_1857 : Nat), StLe s_ [(0, (.sl (List.map (sl1 int1) l_1601))), (1, (int n_1602)), (2, (.sl (List.map int1 counts_1603))), (3, (.sl (List.map int1 bins_1604))), (11, (.ms 0 0 (List.length x_1634))), (12, (int k_1789)), (13, (.sl (List.map int1 r_1828))), (14, (int j_1856))] [(0, (some (.cells 2 51 (List.map Mix.cells out_1855))))] n_1857 ∧ 0 < n_1857 ∧ List.length out_1855 = (List.length x_1634) ∧ 0 ≤ j_1856 ∧ k1 = Int.toNat ((List.length l_1601 : Int) - j_1856) ∧ ref09_Wrong_L2 l_1601 counts_1603 bins_1604 k_1789 r_1828 k1 out_1855 j_1856 = some o_1849) (Int.toNat ((List.length l_1601 : Int) - 0)) ?_ ?_
                · exact ⟨out_1788, 0, n_1790, (StLe.of [(0, (some (.cells 2 51 (List.map Mix.cells out_1788))))] n_1790 rfl (hs_cons (hl_self _ _ _) hs_nil) (Nat.le_refl _)), (by omega), (by first | exact hlenout_1788 | simp), (by omega), rfl, H2⟩
                rintro k1 s_ ⟨out_1855, j_1856, n_1857, hs_, _, hlenout_1855, _, hk_, H2⟩
                refine SatL.le hs_ ?_
                clear hs_
                rcases k1 with _ | k1
                ·
                  rw [ref09_Wrong_L2.eq_1] at H2
                  repeat refine SatL.seq ?_
                  refine SatL.reg [0, 1, 2, 3, 11, 12, 13, 14, 70] [some 67, some 68, some 69, some 70] rfl rfl fun K3684 hK3684 => ?_
                  refine st (fun _ hk => s_mv (v := (int j_1856)) rfl hk) ?_
                  refine st (fun _ hk => s_mv (v := (.sl (List.map (sl1 int1) l_1601))) rfl hk) ?_
                  refine aopsS_step fun _ hK => s_lenSl elem_38 rfl (fun hl3687 => hK _ _ _ ?_)
                  clear hK
                  refine st (fun _ hk => s_bin rfl rfl (b_lss hk)) ?_
                  refine aopsS_end (hK3684 _ (SatL.norm (n := n_1857) (h := hl [(0, (some (.cells 2 51 (List.map Mix.cells out_1855))))]) (env' := [(0, (.sl (List.map (sl1 int1) l_1601))), (1, (int n_1602)), (2, (.sl (List.map int1 counts_1603))), (3, (.sl (List.map int1 bins_1604))), (11, (.ms 0 0 (List.length x_1634))), (12, (int k_1789)), (13, (.sl (List.map int1 r_1828))), (14, (int j_1856)), (70, (bool (decide (j_1856 < (List.length l_1601 : Int)))))]) (L' := [(0, (some (.cells 2 51 (List.map Mix.cells out_1855))))]) rfl hs_refl ?_))
                  repeat refine SatL.seq ?_
                  refine SatL.condF rfl (decide_eq_false (by omega)) ?_
                  refine SatL.exit ?_
                  simp only [thenQ, blockQ, if_true, reduceIte, Nat.reduceEqDiff]
                  obtain rfl := Option.some.inj H2
                  replace H1 := un1S H1
                  refine SatL.nil (blockN (thenN ?_))
                  repeat refine SatL.seq ?_
                  refine SatL.rege [some 61, some 62, some 12] rfl rfl fun K3689 hK3689 => ?_
                  refine st (fun _ hk => s_mv (v := (int k_1789)) rfl hk) ?_
                  refine st (fun _ hk => s_bin rfl rfl (b_add64 hk)) ?_
                  refine st (fun _ hk => s_as (v := (int (w64 (k_1789 + 1)))) rfl hk) ?_
                  refine aopsS_end (hK3689 _ ?_)
                  have hw3693 : w64 (k_1789 + 1) = k_1789 + 1 := w64_id (by omega) (by omega)
                  exact (thenN ⟨k0, ⟨out_1855, (w64 (k_1789 + 1)), n_1857, (StLe.of [(0, (some (.cells 2 51 (List.map Mix.cells out_1855))))] n_1857 rfl (hs_cons (hl_self _ _ _) hs_nil) (Nat.le_refl _)), (by omega), (by first | exact hlenout_1855 | simp), (by omega), (by rw [hw3693]; omega), (Eq.mpr (congrArg (fun q_ => ref09_Wrong_L1 l_1601 n_1602 counts_1603 bins_1604 k0 out_1855 q_ = some o_1752) hw3693) H1)⟩, by omega⟩)
                ·
                  rw [ref09_Wrong_L2.eq_2] at H2
                  repeat refine SatL.seq ?_
                  refine SatL.reg [0, 1, 2, 3, 11, 12, 13, 14, 70] [some 67, some 68, some 69, some 70] rfl rfl fun K3694 hK3694 => ?_
                  refine st (fun _ hk => s_mv (v := (int j_1856)) rfl hk) ?_
                  refine st (fun _ hk => s_mv (v := (.sl (List.map (sl1 int1) l_1601))) rfl hk) ?_
                  refine aopsS_step fun _ hK => s_lenSl elem_38 rfl (fun hl3697 => hK _ _ _ ?_)
                  clear hK
                  refine st (fun _ hk => s_bin rfl rfl (b_lss hk)) ?_
                  refine aopsS_end (hK3694 _ (SatL.norm (n := n_1857) (h := hl [(0, (some (.cells 2 51 (List.map Mix.cells out_1855))))]) (env' := [(0, (.sl (List.map (sl1 int1) l_1601))), (1, (int n_1602)), (2, (.sl (List.map int1 counts_1603))), (3, (.sl (List.map int1 bins_1604))), (11, (.ms 0 0 (List.length x_1634))), (12, (int k_1789)), (13, (.sl (List.map int1 r_1828))), (14, (int j_1856)), (70, (bool (decide (j_1856 < (List.length l_1601 : Int)))))]) (L' := [(0, (some (.cells 2 51 (List.map Mix.cells out_1855))))]) rfl hs_refl ?_))
                  repeat refine SatL.seq ?_
                  refine SatL.condT rfl (decide_eq_true (by omega)) ?_
                  have hlt3699 : (j_1856 < (List.length l_1601 : Int)) := by omega
                  refine SatL.skip ?_
                  repeat refine SatL.seq ?_
                  refine SatL.block ?_
                  repeat refine SatL.seq ?_
                  refine SatL.reg [0, 1, 2, 3, 11, 12, 13, 14, 77] [some 73, some 74, some 75, some 76, some 77] rfl rfl fun K3700 hK3700 => ?_
                  refine st (fun _ hk => s_mv (v := (.sl (List.map int1 bins_1604))) rfl hk) ?_
                  refine st (fun _ hk => s_mv (v := (int j_1856)) rfl hk) ?_
                  obtain ⟨e_1863, he_1863, H2⟩ := bindS H2
                  refine st (fun _ hk => s_ixSl elem_23 rfl rfl he_1863 cells_3 rfl (by decide) hk) ?_
                  refine st (fun _ hk => s_load1 (c := (int e_1863)) agg_3 (d_fp rfl) rfl hk) ?_
                  refine st (fun _ hk => s_bin rfl rfl (b_lss hk)) ?_
                  refine aopsS_end (hK3700 _ (SatL.norm (n := n_1857) (h := hl [(0, (some (.cells 2 51 (List.map Mix.cells out_1855))))]) (env' := [(0, (.sl (List.map (sl1 int1) l_1601))), (1, (int n_1602)), (2, (.sl (List.map int1 counts_1603))), (3, (.sl (List.map int1 bins_1604))), (11, (.ms 0 0 (List.length x_1634))), (12, (int k_1789)), (13, (.sl (List.map int1 r_1828))), (14, (int j_1856)), (77, (bool (decide (e_1863 < 0))))]) (L' := [(0, (some (.cells 2 51 (List.map Mix.cells out_1855))))]) rfl hs_refl ?_))
                  repeat refine SatL.seq ?_
                  refine SatL.condX rfl (fun hc3706 => ?_) (fun hc3706 => ?_)
                  ·
                    replace H2 := iteT H2 hc3706
                    refine SatL.exit ?_
                    simp only [thenQ, blockQ, if_true, reduceIte, Nat.reduceEqDiff]
                    repeat refine SatL.seq ?_
                    refine SatL.rege [some 71, some 72, some 14] rfl rfl fun K3707 hK3707 => ?_
                    refine st (fun _ hk => s_mv (v := (int j_1856)) rfl hk) ?_
                    refine st (fun _ hk => s_bin rfl rfl (b_add64 hk)) ?_
                    refine st (fun _ hk => s_as (v := (int (w64 (j_1856 + 1)))) rfl hk) ?_
                    refine aopsS_end (hK3707 _ ?_)
                    have hw3711 : w64 (j_1856 + 1) = j_1856 + 1 := w64_id (by omega) (by omega)
                    exact (thenN ⟨k1, ⟨out_1855, (w64 (j_1856 + 1)), n_1857, (StLe.of [(0, (some (.cells 2 51 (List.map Mix.cells out_1855))))] n_1857 rfl (hs_cons (hl_self _ _ _) hs_nil) (Nat.le_refl _)), (by omega), (by first | exact hlenout_1855 | simp), (by omega), (by rw [hw3711]; omega), (Eq.mpr (congrArg (fun q_ => ref09_Wrong_L2 l_1601 counts_1603 bins_1604 k_1789 r_1828 k1 out_1855 q_ = some o_1849) hw3711) H2)⟩, by omega⟩)
                  ·
                    replace H2 := iteF H2 hc3706
                    refine SatL.skip ?_
                    repeat refine SatL.seq ?_
                    refine SatL.reg [0, 1, 2, 3, 11, 12, 13, 14, 15] [some 78, some 79, some 80, some 81, some 82, some 83, some 84, some 15, none] rfl rfl fun K3712 hK3712 => ?_
                    refine st (fun _ hk => s_mv (v := (.ms 0 0 (List.length x_1634))) rfl hk) ?_
                    refine st (fun _ hk => s_mv (v := (.sl (List.map int1 bins_1604))) rfl hk) ?_
                    refine st (fun _ hk => s_mv (v := (int j_1856)) rfl hk) ?_
                    refine st (fun _ hk => s_ixSl elem_23 rfl rfl he_1863 cells_3 rfl (by decide) hk) ?_
                    refine st (fun _ hk => s_load1 (c := (int e_1863)) agg_3 (d_fp rfl) rfl hk) ?_
                    obtain ⟨e_1864, he_1864, H2⟩ := bindS H2
                    refine st (fun _ hk => s_ixM0 elem_45 rfl rfl (hl_self _ _ _) (gi_lt he_1864).1 (ltl he_1864 hlenout_1855) cells_51 (by decide) hk) ?_
                    refine st (fun _ hk => s_loadA (cs' := [(int e_1864.Num), (int e_1864.Den)]) agg_51 cells_51 (d_own rfl (hl_self _ _ _) (mapget he_1864) rfl) (Nat.le_of_ble_eq_true rfl) rfl hk) ?_
                    refine st (fun _ hk => s_alloc (m := 2) (n' := (n_1857 + 1)) zero_51 rfl rfl hk) ?_
                    refine s0 (fun _ hk => s_store (E := [[(int e_1864.Num), (int e_1864.Den)]]) rfl (hl_self _ _ _) rfl rfl cells_51 rfl (by decide) (Nat.le_of_ble_eq_true rfl) rfl (hu_self _ _ _ _) hk) ?_
                    refine aopsS_end (hK3712 _ (SatL.norm (n := (n_1857 + 1)) (h := hl [(n_1857, (some (.cells 2 51 [[(int e_1864.Num), (int e_1864.Den)]]))), (0, (some (.cells 2 51 (List.map Mix.cells out_1855))))]) (env' := [(0, (.sl (List.map (sl1 int1) l_1601))), (1, (int n_1602)), (2, (.sl (List.map int1 counts_1603))), (3, (.sl (List.map int1 bins_1604))), (11, (.ms 0 0 (List.length x_1634))), (12, (int k_1789)), (13, (.sl (List.map int1 r_1828))), (14, (int j_1856)), (15, (.own n_1857 0 0))]) (L' := [(0, (some (.cells 2 51 (List.map Mix.cells out_1855)))), (n_1857, (some (.cells 2 51 [[(int e_1864.Num), (int e_1864.Den)]])))]) rfl (hs_cons (hl_ne (j := 0) (i := n_1857) (by omega) (hl_self _ _ _)) (hs_cons (hl_self _ _ _) hs_nil)) ?_))
                    repeat refine SatL.seq ?_
                    refine SatL.draw [0, 1, 2, 3, 11, 12, 13, 14, 15] [] [] [some 85, some 86, some 87, some 88, some 89, some 90, some 91, some 92, some 93, some 94, some 95, some 96, some 97, none] rfl (by kernel_rfl) (by kernel_rfl) rfl rfl fun K3722 hK3722 => ?_
                    refine dd_step (ds_r0 _ rfl rfl (fun _ hK => s_faOwn (j' := 1) fld_51_1 rfl rfl (isC (hl_ne (j := n_1857) (i := 0) (by omega) (hl_self _ _ _))) hK) ?_)
                    refine dd_step (ds_r0 _ rfl rfl (fun _ hK => s_load1 (c := (int e_1864.Den)) agg_3 (d_own rfl (hl_ne (j := n_1857) (i := 0) (by omega) (hl_self _ _ _)) rfl rfl) rfl hK) ?_)
                    refine dd_step (ds_r0 _ rfl rfl (fun _ hK => s_mv (v := (.sl (List.map int1 counts_1603))) rfl hK) ?_)
                    refine dd_step (ds_r0 _ rfl rfl (fun _ hK => s_mv (v := (int k_1789)) rfl hK) ?_)
                    obtain ⟨e_1865, he_1865, H2⟩ := bindS H2
                    refine dd_step (ds_r0 _ rfl rfl (fun _ hK => s_ixSl elem_23 rfl rfl he_1865 cells_3 rfl (by decide) hK) ?_)
                    refine dd_step (ds_r0 _ rfl rfl (fun _ hK => s_load1 (c := (int e_1865)) agg_3 (d_fp rfl) rfl hK) ?_)
                    refine dd_step (ds_r0 _ rfl rfl (fun _ hK => s_mv (v := (.sl (List.map int1 r_1828))) rfl hK) ?_)
                    refine dd_step (ds_r0 _ rfl rfl (fun _ hK => s_mv (v := (int j_1856)) rfl hK) ?_)
                    obtain ⟨e_1866, he_1866, H2⟩ := bindS H2
                    refine dd_step (ds_r0 _ rfl rfl (fun _ hK => s_ixSl elem_23 rfl rfl he_1866 cells_3 rfl (by decide) hK) ?_)
                    refine dd_step (ds_r0 _ rfl rfl (fun _ hK => s_load1 (c := (int e_1866)) agg_3 (d_fp rfl) rfl hK) ?_)
                    refine dd_step (ds_r0 _ rfl rfl (fun _ hK => s_bin rfl rfl (b_mul64 hK)) ?_)
                    refine dd_step (ds_r0 _ rfl rfl (fun _ hK => s_bin rfl rfl (b_add64 hK)) ?_)
                    refine dd_step (ds_r0 _ rfl rfl (fun _ hK => s_faOwn (j' := 1) fld_51_1 rfl rfl (isC (hl_ne (j := n_1857) (i := 0) (by omega) (hl_self _ _ _))) hK) ?_)
                    refine dd_step (ds_w0 _ _ _ rfl rfl (fun _ hK => s_store (E := [[(int e_1864.Num), (int (w64 (e_1864.Den + (w64 (e_1865 * e_1866)))))]]) rfl (hl_ne (j := n_1857) (i := 0) (by omega) (hl_self _ _ _)) rfl rfl cells_3 rfl (by decide) (Nat.le_of_ble_eq_true rfl) rfl (hu_ne (j := n_1857) (i := 0) (by omega) (hu_self _ _ _ _)) hK) ?_)
                    refine dd_end rc_nil (hK3722 _ (SatL.norm (n := (n_1857 + 1)) (h := hl [(0, (some (.cells 2 51 (List.map Mix.cells out_1855)))), (n_1857, (some (.cells 2 51 [[(int e_1864.Num), (int (w64 (e_1864.Den + (w64 (e_1865 * e_1866)))))]])))]) (env' := [(0, (.sl (List.map (sl1 int1) l_1601))), (1, (int n_1602)), (2, (.sl (List.map int1 counts_1603))), (3, (.sl (List.map int1 bins_1604))), (11, (.ms 0 0 (List.length x_1634))), (12, (int k_1789)), (13, (.sl (List.map int1 r_1828))), (14, (int j_1856)), (15, (.own n_1857 0 0))]) (L' := [(0, (some (.cells 2 51 (List.map Mix.cells out_1855)))), (n_1857, (some (.cells 2 51 [[(int e_1864.Num), (int (w64 (e_1864.Den + (w64 (e_1865 * e_1866)))))]])))]) rfl hs_refl ?_))
                    repeat refine SatL.seq ?_
                    refine SatL.draw [0, 1, 2, 3, 11, 12, 13, 14, 15, 106] [] [] [some 98, some 99, some 100, some 101, some 102, some 103, some 104, some 105, some 106] rfl (by kernel_rfl) (by kernel_rfl) rfl rfl fun K3737 hK3737 => ?_
                    refine dd_step (ds_r0 _ rfl rfl (fun _ hK => s_mv (v := (.sl (List.map int1 bins_1604))) rfl hK) ?_)
                    refine dd_step (ds_r0 _ rfl rfl (fun _ hK => s_mv (v := (int k_1789)) rfl hK) ?_)
                    obtain ⟨e_1867, he_1867, H2⟩ := bindS H2
                    refine dd_step (ds_r0 _ rfl rfl (fun _ hK => s_ixSl elem_23 rfl rfl he_1867 cells_3 rfl (by decide) hK) ?_)
                    refine dd_step (ds_r0 _ rfl rfl (fun _ hK => s_load1 (c := (int e_1867)) agg_3 (d_fp rfl) rfl hK) ?_)
                    refine dd_step (ds_r0 _ rfl rfl (fun _ hK => s_mv (v := (.sl (List.map int1 bins_1604))) rfl hK) ?_)
                    refine dd_step (ds_r0 _ rfl rfl (fun _ hK => s_mv (v := (int j_1856)) rfl hK) ?_)
                    refine dd_step (ds_r0 _ rfl rfl (fun _ hK => s_ixSl elem_23 rfl rfl he_1863 cells_3 rfl (by decide) hK) ?_)
                    refine dd_step (ds_r0 _ rfl rfl (fun _ hK => s_load1 (c := (int e_1863)) agg_3 (d_fp rfl) rfl hK) ?_)
                    refine dd_step (ds_r0 _ rfl rfl (fun _ hK => s_bin rfl rfl (b_neq hK)) ?_)
                    refine dd_end rc_nil (hK3737 _ (SatL.norm (n := (n_1857 + 1)) (h := hl [(0, (some (.cells 2 51 (List.map Mix.cells out_1855)))), (n_1857, (some (.cells 2 51 [[(int e_1864.Num), (int (w64 (e_1864.Den + (w64 (e_1865 * e_1866)))))]])))]) (env' := [(0, (.sl (List.map (sl1 int1) l_1601))), (1, (int n_1602)), (2, (.sl (List.map int1 counts_1603))), (3, (.sl (List.map int1 bins_1604))), (11, (.ms 0 0 (List.length x_1634))), (12, (int k_1789)), (13, (.sl (List.map int1 r_1828))), (14, (int j_1856)), (15, (.own n_1857 0 0)), (106, (bool (e_1867 != e_1863)))]) (L' := [(0, (some (.cells 2 51 (List.map Mix.cells out_1855)))), (n_1857, (some (.cells 2 51 [[(int e_1864.Num), (int (w64 (e_1864.Den + (w64 (e_1865 * e_1866)))))]])))]) rfl hs_refl ?_))
                    repeat refine SatL.seq ?_
                    refine SatL.condX rfl (fun hc3747 => ?_) (fun hc3747 => ?_)
                    ·
                      replace H2 := iteT H2 hc3747
                      repeat refine SatL.seq ?_
                      refine SatL.draw [0, 1, 2, 3, 11, 12, 13, 14, 15] [] [] [some 107, some 108, some 109, some 110, some 111, some 112, some 113, some 114, some 115, some 116, some 117, some 118, some 119, none] rfl (by kernel_rfl) (by kernel_rfl) rfl rfl fun K3748 hK3748 => ?_
                      refine dd_step (ds_r0 _ rfl rfl (fun _ hK => s_faOwn (j' := 0) fld_51_0 rfl rfl (isC (hl_ne (j := n_1857) (i := 0) (by omega) (hl_self _ _ _))) hK) ?_)
                      refine dd_step (ds_r0 _ rfl rfl (fun _ hK => s_load1 (c := (int e_1864.Num)) agg_3 (d_own rfl (hl_ne (j := n_1857) (i := 0) (by omega) (hl_self _ _ _)) rfl rfl) rfl hK) ?_)
                      refine dd_step (ds_r0 _ rfl rfl (fun _ hK => s_mv (v := (.sl (List.map int1 counts_1603))) rfl hK) ?_)
                      refine dd_step (ds_r0 _ rfl rfl (fun _ hK => s_mv (v := (int k_1789)) rfl hK) ?_)
                      refine dd_step (ds_r0 _ rfl rfl (fun _ hK => s_ixSl elem_23 rfl rfl he_1865 cells_3 rfl (by decide) hK) ?_)
                      refine dd_step (ds_r0 _ rfl rfl (fun _ hK => s_load1 (c := (int e_1865)) agg_3 (d_fp rfl) rfl hK) ?_)
                      refine dd_step (ds_r0 _ rfl rfl (fun _ hK => s_mv (v := (.sl (List.map int1 r_1828))) rfl hK) ?_)
                      refine dd_step (ds_r0 _ rfl rfl (fun _ hK => s_mv (v := (int j_1856)) rfl hK) ?_)
                      refine dd_step (ds_r0 _ rfl rfl (fun _ hK => s_ixSl elem_23 rfl rfl he_1866 cells_3 rfl (by decide) hK) ?_)
                      refine dd_step (ds_r0 _ rfl rfl (fun _ hK => s_load1 (c := (int e_1866)) agg_3 (d_fp rfl) rfl hK) ?_)
                      refine dd_step (ds_r0 _ rfl rfl (fun _ hK => s_bin rfl rfl (b_mul64 hK)) ?_)
                      refine dd_step (ds_r0 _ rfl rfl (fun _ hK => s_bin rfl rfl (b_add64 hK)) ?_)
                      refine dd_step (ds_r0 _ rfl rfl (fun _ hK => s_faOwn (j' := 0) fld_51_0 rfl rfl (isC (hl_ne (j := n_1857) (i := 0) (by omega) (hl_self _ _ _))) hK) ?_)
                      refine dd_step (ds_w0 _ _ _ rfl rfl (fun _ hK => s_store (E := [[(int (w64 (e_1864.Num + (w64 (e_1865 * e_1866))))), (int (w64 (e_1864.Den + (w64 (e_1865 * e_1866)))))]]) rfl (hl_ne (j := n_1857) (i := 0) (by omega) (hl_self _ _ _)) rfl rfl cells_3 rfl (by decide) (Nat.le_of_ble_eq_true rfl) rfl (hu_ne (j := n_1857) (i := 0) (by omega) (hu_self _ _ _ _)) hK) ?_)
                      refine dd_end rc_nil (hK3748 _ (SatL.norm (n := (n_1857 + 1)) (h := hl [(0, (some (.cells 2 51 (List.map Mix.cells out_1855)))), (n_1857, (some (.cells 2 51 [[(int (w64 (e_1864.Num + (w64 (e_1865 * e_1866))))), (int (w64 (e_1864.Den + (w64 (e_1865 * e_1866)))))]])))]) (env' := [(0, (.sl (List.map (sl1 int1) l_1601))), (1, (int n_1602)), (2, (.sl (List.map int1 counts_1603))), (3, (.sl (List.map int1 bins_1604))), (11, (.ms 0 0 (List.length x_1634))), (12, (int k_1789)), (13, (.sl (List.map int1 r_1828))), (14, (int j_1856)), (15, (.own n_1857 0 0))]) (L' := [(0, (some (.cells 2 51 (List.map Mix.cells out_1855)))), (n_1857, (some (.cells 2 51 [[(int (w64 (e_1864.Num + (w64 (e_1865 * e_1866))))), (int (w64 (e_1864.Den + (w64 (e_1865 * e_1866)))))]])))]) rfl hs_refl ?_))
                      repeat refine SatL.seq ?_
                      refine SatL.drawe [] [] [some 120, some 121, some 122, some 123, some 124, some 125, some 126, none] rfl (by kernel_rfl) (by kernel_rfl) rfl rfl fun K3763 hK3763 => ?_
                      refine dd_step (ds_r0 _ rfl rfl (fun _ hK => s_mv (v := (.ms 0 0 (List.length x_1634))) rfl hK) ?_)
                      refine dd_step (ds_r0 _ rfl rfl (fun _ hK => s_mv (v := (.sl (List.map int1 bins_1604))) rfl hK) ?_)
                      refine dd_step (ds_r0 _ rfl rfl (fun _ hK => s_mv (v := (int j_1856)) rfl hK) ?_)
                      refine dd_step (ds_r0 _ rfl rfl (fun _ hK => s_ixSl elem_23 rfl rfl he_1863 cells_3 rfl (by decide) hK) ?_)
                      refine dd_step (ds_r0 _ rfl rfl (fun _ hK => s_load1 (c := (int e_1863)) agg_3 (d_fp rfl) rfl hK) ?_)
                      refine dd_step (ds_r0 _ rfl rfl (fun _ hK => s_loadA (cs' := [(int (w64 (e_1864.Num + (w64 (e_1865 * e_1866))))), (int (w64 (e_1864.Den + (w64 (e_1865 * e_1866)))))]) agg_51 cells_51 (d_own rfl (hl_ne (j := n_1857) (i := 0) (by omega) (hl_self _ _ _)) rfl rfl) (Nat.le_of_ble_eq_true rfl) rfl hK) ?_)
                      refine dd_step (ds_r0 _ rfl rfl (fun _ hK => s_ixM0 elem_45 rfl rfl (hl_self _ _ _) (gi_lt he_1864).1 (ltl he_1864 hlenout_1855) cells_51 (by decide) hK) ?_)
                      refine dd_step (ds_w0 _ _ _ rfl rfl (fun _ hK => s_store rfl (hl_self _ _ _) (mapget he_1864) rfl cells_51 rfl (by decide) (Nat.le_of_ble_eq_true rfl) (set_map (f := Mix.cells) (y := (Mix.mk (w64 (e_1864.Num + (w64 (e_1865 * e_1866)))) (w64 (e_1864.Den + (w64 (e_1865 * e_1866)))))) rfl) (hu_self _ _ _ _) hK) ?_)
                      refine dd_end rc_nil (hK3763 _ ?_)
                      refine (blockN (thenN ?_))
                      refine SatL.forget [0, 1, 2, 3, 11, 12, 13, 14] (SatL.norm (n := (n_1857 + 1)) (h := hl [(0, (some (.cells 2 51 (List.map Mix.cells (List.set out_1855 (Int.toNat e_1863) (Mix.mk (w64 (e_1864.Num + (w64 (e_1865 * e_1866)))) (w64 (e_1864.Den + (w64 (e_1865 * e_1866)))))))))), (n_1857, (some (.cells 2 51 [[(int (w64 (e_1864.Num + (w64 (e_1865 * e_1866))))), (int (w64 (e_1864.Den + (w64 (e_1865 * e_1866)))))]])))]) (env' := [(0, (.sl (List.map (sl1 int1) l_1601))), (1, (int n_1602)), (2, (.sl (List.map int1 counts_1603))), (3, (.sl (List.map int1 bins_1604))), (11, (.ms 0 0 (List.length x_1634))), (12, (int k_1789)), (13, (.sl (List.map int1 r_1828))), (14, (int j_1856))]) (L' := [(0, (some (.cells 2 51 (List.map Mix.cells (List.set out_1855 (Int.toNat e_1863) (Mix.mk (w64 (e_1864.Num + (w64 (e_1865 * e_1866)))) (w64 (e_1864.Den + (w64 (e_1865 * e_1866))))))))))]) rfl (hs_cons (hl_self _ _ _) hs_nil) ?_)
                      repeat refine SatL.seq ?_
                      refine SatL.rege [some 71, some 72, some 14] rfl rfl fun K3772 hK3772 => ?_
                      refine st (fun _ hk => s_mv (v := (int j_1856)) rfl hk) ?_
                      refine st (fun _ hk => s_bin rfl rfl (b_add64 hk)) ?_
                      refine st (fun _ hk => s_as (v := (int (w64 (j_1856 + 1)))) rfl hk) ?_
                      refine aopsS_end (hK3772 _ ?_)
                      have hw3776 : w64 (j_1856 + 1) = j_1856 + 1 := w64_id (by omega) (by omega)
                      exact (thenN ⟨k1, ⟨(List.set out_1855 (Int.toNat e_1863) (Mix.mk (w64 (e_1864.Num + (w64 (e_1865 * e_1866)))) (w64 (e_1864.Den + (w64 (e_1865 * e_1866)))))), (w64 (j_1856 + 1)), (n_1857 + 1), (StLe.of [(0, (some (.cells 2 51 (List.map Mix.cells (List.set out_1855 (Int.toNat e_1863) (Mix.mk (w64 (e_1864.Num + (w64 (e_1865 * e_1866)))) (w64 (e_1864.Den + (w64 (e_1865 * e_1866))))))))))] (n_1857 + 1) rfl (hs_cons (hl_self _ _ _) hs_nil) (Nat.le_refl _)), (by omega), (by first | exact (List.length_set.trans hlenout_1855) | simp), (by omega), (by rw [hw3776]; omega), (Eq.mpr (congrArg (fun q_ => ref09_Wrong_L2 l_1601 counts_1603 bins_1604 k_1789 r_1828 k1 ((List.set out_1855 (Int.toNat e_1863) (Mix.mk (w64 (e_1864.Num + (w64 (e_1865 * e_1866)))) (w64 (e_1864.Den + (w64 (e_1865 * e_1866))))))) q_ = some o_1849) hw3776) H2)⟩, by omega⟩)
                    ·
                      replace H2 := iteF H2 hc3747
                      refine SatL.skip ?_
                      repeat refine SatL.seq ?_
                      refine SatL.drawe [] [] [some 120, some 121, some 122, some 123, some 124, some 125, some 126, none] rfl (by kernel_rfl) (by kernel_rfl) rfl rfl fun K3777 hK3777 => ?_
                      refine dd_step (ds_r0 _ rfl rfl (fun _ hK => s_mv (v := (.ms 0 0 (List.length x_1634))) rfl hK) ?_)
                      refine dd_step (ds_r0 _ rfl rfl (fun _ hK => s_mv (v := (.sl (List.map int1 bins_1604))) rfl hK) ?_)
                      refine dd_step (ds_r0 _ rfl rfl (fun _ hK => s_mv (v := (int j_1856)) rfl hK) ?_)
                      refine dd_step (ds_r0 _ rfl rfl (fun _ hK => s_ixSl elem_23 rfl rfl he_1863 cells_3 rfl (by decide) hK) ?_)
                      refine dd_step (ds_r0 _ rfl rfl (fun _ hK => s_load1 (c := (int e_1863)) agg_3 (d_fp rfl) rfl hK) ?_)
                      refine dd_step (ds_r0 _ rfl rfl (fun _ hK => s_loadA (cs' := [(int e_1864.Num), (int (w64 (e_1864.Den + (w64 (e_1865 * e_1866)))))]) agg_51 cells_51 (d_own rfl (hl_ne (j := n_1857) (i := 0) (by omega) (hl_self _ _ _)) rfl rfl) (Nat.le_of_ble_eq_true rfl) rfl hK) ?_)
                      refine dd_step (ds_r0 _ rfl rfl (fun _ hK => s_ixM0 elem_45 rfl rfl (hl_self _ _ _) (gi_lt he_1864).1 (ltl he_1864 hlenout_1855) cells_51 (by decide) hK) ?_)
                      refine dd_step (ds_w0 _ _ _ rfl rfl (fun _ hK => s_store rfl (hl_self _ _ _) (mapget he_1864) rfl cells_51 rfl (by decide) (Nat.le_of_ble_eq_true rfl) (set_map (f := Mix.cells) (y := (Mix.mk e_1864.Num (w64 (e_1864.Den + (w64 (e_1865 * e_1866)))))) rfl) (hu_self _ _ _ _) hK) ?_)
                      refine dd_end rc_nil (hK3777 _ ?_)
                      refine (blockN (thenN ?_))
                      refine SatL.forget [0, 1, 2, 3, 11, 12, 13, 14] (SatL.norm (n := (n_1857 + 1)) (h := hl [(0, (some (.cells 2 51 (List.map Mix.cells (List.set out_1855 (Int.toNat e_1863) (Mix.mk e_1864.Num (w64 (e_1864.Den + (w64 (e_1865 * e_1866)))))))))), (n_1857, (some (.cells 2 51 [[(int e_1864.Num), (int (w64 (e_1864.Den + (w64 (e_1865 * e_1866)))))]])))]) (env' := [(0, (.sl (List.map (sl1 int1) l_1601))), (1, (int n_1602)), (2, (.sl (List.map int1 counts_1603))), (3, (.sl (List.map int1 bins_1604))), (11, (.ms 0 0 (List.length x_1634))), (12, (int k_1789)), (13, (.sl (List.map int1 r_1828))), (14, (int j_1856))]) (L' := [(0, (some (.cells 2 51 (List.map Mix.cells (List.set out_1855 (Int.toNat e_1863) (Mix.mk e_1864.Num (w64 (e_1864.Den + (w64 (e_1865 * e_1866))))))))))]) rfl (hs_cons (hl_self _ _ _) hs_nil) ?_)
                      repeat refine SatL.seq ?_
                      refine SatL.rege [some 71, some 72, some 14] rfl rfl fun K3786 hK3786 => ?_
                      refine st (fun _ hk => s_mv (v := (int j_1856)) rfl hk) ?_
                      refine st (fun _ hk => s_bin rfl rfl (b_add64 hk)) ?_
                      refine st (fun _ hk => s_as (v := (int (w64 (j_1856 + 1)))) rfl hk) ?_
                      refine aopsS_end (hK3786 _ ?_)
                      have hw3790 : w64 (j_1856 + 1) = j_1856 + 1 := w64_id (by omega) (by omega)
                      exact (thenN ⟨k1, ⟨(List.set out_1855 (Int.toNat e_1863) (Mix.mk e_1864.Num (w64 (e_1864.Den + (w64 (e_1865 * e_1866)))))), (w64 (j_1856 + 1)), (n_1857 + 1), (StLe.of [(0, (some (.cells 2 51 (List.map Mix.cells (List.set out_1855 (Int.toNat e_1863) (Mix.mk e_1864.Num (w64 (e_1864.Den + (w64 (e_1865 * e_1866))))))))))] (n_1857 + 1) rfl (hs_cons (hl_self _ _ _) hs_nil) (Nat.le_refl _)), (by omega), (by first | exact (List.length_set.trans hlenout_1855) | simp), (by omega), (by rw [hw3790]; omega), (Eq.mpr (congrArg (fun q_ => ref09_Wrong_L2 l_1601 counts_1603 bins_1604 k_1789 r_1828 k1 ((List.set out_1855 (Int.toNat e_1863) (Mix.mk e_1864.Num (w64 (e_1864.Den + (w64 (e_1865 * e_1866))))))) q_ = some o_1849) hw3790) H2)⟩, by omega⟩)
            ·
              rintro s_ ⟨out_1750, n_1751, rfl, hs_, _, hlenout_1750⟩
              refine SatL.le hs_ ?_
              clear hs_
              replace H0 := un1S H0
              repeat refine SatL.seq ?_
              refine SatL.reg [8, 9] [some 127, some 8, some 9] rfl rfl fun K3796 hK3796 => ?_
              refine st (fun _ hk => s_mv (v := (.ms 0 0 (List.length x_1634))) rfl hk) ?_
              refine st (fun _ hk => s_as (v := (.ms 0 0 (List.length x_1634))) rfl hk) ?_
              refine st (fun _ hk => s_as (v := (int 0)) rfl hk) ?_
              refine aopsS_end (hK3796 _ (SatL.norm (n := n_1751) (h := hl [(0, (some (.cells 2 51 (List.map Mix.cells out_1750))))]) (env' := [(8, (.ms 0 0 (List.length x_1634))), (9, (int 0))]) (L' := [(0, (some (.cells 2 51 (List.map Mix.cells out_1750))))]) rfl hs_refl ?_))
              obtain rfl := Option.some.inj H0
              exact SatL.ret (fnQ_snap [(0, (some (.cells 2 51 (List.map Mix.cells out_1750))))] (.tp [(.ms 0 0 (List.length x_1634)), (int 0)]) (.tp [(.sl (List.map Mix.cells out_1750)), (int 0)]) rfl (Snap.tpL (SnapL.cons (Snap.msW (hl_self _ _ _) hlenout_1750 Mix.fr) (SnapL.cons (Snap.free _ (.sc _)) SnapL.nil))) rfl)
      ·
        replace H0 := iteT H0 (by simpa using g25)
        refine aopsS_off rfl rfl ?_
        refine aopsS_off rfl rfl ?_
        refine aopsS_off rfl rfl ?_
        refine aopsS_off rfl rfl ?_
        refine st (fun _ hk => s_pickT (v := (bool true)) rfl rfl hk) ?_
        refine aopsS_end (hK12 _ (SatL.norm (n := 0) (h := hl []) (env' := [(0, (.sl (List.map (sl1 int1) l_1601))), (1, (int n_1602)), (2, (.sl (List.map int1 counts_1603))), (3, (.sl (List.map int1 bins_1604))), (35, (bool true))]) (L' := []) rfl hs_refl ?_))
        repeat refine SatL.seq ?_
        refine SatL.condT rfl rfl ?_
        repeat refine SatL.seq ?_
        refine SatL.reg [8, 9] [some 8, some 9] rfl rfl fun K3801 hK3801 => ?_
        refine st (fun _ hk => s_as (v := nilS) rfl hk) ?_
        refine st (fun _ hk => s_as (v := (int 2)) rfl hk) ?_
        refine aopsS_end (hK3801 _ (SatL.norm (n := 0) (h := hl []) (env' := [(8, nilS), (9, (int 2))]) (L' := []) rfl hs_refl ?_))
        obtain rfl := Option.some.inj H0
        exact SatL.ret (fnQ_snap [] (.tp [nilS, (int 2)]) (.tp [(.sl []), (int 2)]) rfl (Snap.tpL (SnapL.cons Snap.nilS (SnapL.cons (Snap.free _ (.sc _)) SnapL.nil))) rfl)
    ·
      replace H0 := iteT H0 (by simpa using g17)
      refine aopsS_off rfl rfl ?_
      refine aopsS_off rfl rfl ?_
      refine aopsS_off rfl rfl ?_
      refine aopsS_off rfl rfl ?_
      refine st (fun _ hk => s_pickT (v := (bool true)) rfl rfl hk) ?_
      refine st (fun _ hk => s_mv (v := (bool true)) rfl hk) ?_
      refine aopsS_off rfl rfl ?_
      refine aopsS_off rfl rfl ?_
      refine aopsS_off rfl rfl ?_
      refine aopsS_off rfl rfl ?_
      refine aopsS_off rfl rfl ?_
      refine st (fun _ hk => s_pickT (v := (bool true)) rfl rfl hk) ?_
      refine aopsS_end (hK12 _ (SatL.norm (n := 0) (h := hl []) (env' := [(0, (.sl (List.map (sl1 int1) l_1601))), (1, (int n_1602)), (2, (.sl (List.map int1 counts_1603))), (3, (.sl (List.map int1 bins_1604))), (35, (bool true))]) (L' := []) rfl hs_refl ?_))
      repeat refine SatL.seq ?_
      refine SatL.condT rfl rfl ?_
      repeat refine SatL.seq ?_
      refine SatL.reg [8, 9] [some 8, some 9] rfl rfl fun K3807 hK3807 => ?_
      refine st (fun _ hk => s_as (v := nilS) rfl hk) ?_
      refine st (fun _ hk => s_as (v := (int 2)) rfl hk) ?_
      refine aopsS_end (hK3807 _ (SatL.norm (n := 0) (h := hl []) (env' := [(8, nilS), (9, (int 2))]) (L' := []) rfl hs_refl ?_))
      obtain rfl := Option.some.inj H0
      exact SatL.ret (fnQ_snap [] (.tp [nilS, (int 2)]) (.tp [(.sl []), (int 2)]) rfl (Snap.tpL (SnapL.cons Snap.nilS (SnapL.cons (Snap.free _ (.sc _)) SnapL.nil))) rfl)

theorem ref09_CheckTable_PC {l_1886 : (List (List Int))} {r : Int} (H0 : ref09_CheckTable l_1886 = some r) : PC Try.prog 29 [(.sl (List.map (sl1 int1) l_1886))] (· = (int r)) := by
  unfold ref09_CheckTable at H0
  refine PC.of_bodyL [(0, (.sl (List.map (sl1 int1) l_1886)))] Try.func29 rfl rfl (Nat.le_of_ble_eq_true rfl) rfl fun O => ?_
  repeat refine SatL.seq ?_
  refine SatL.reg [0] [some 2] rfl rfl fun K1 hK1 => ?_
  refine st (fun _ hk => s_as (v := (int 0)) rfl hk) ?_
  refine aopsS_end (hK1 _ (SatL.norm (n := 0) (h := hl []) (env' := [(0, (.sl (List.map (sl1 int1) l_1886)))]) (L' := []) rfl hs_refl ?_))
  repeat refine SatL.seq ?_
  refine SatL.reg [5] [some 3, some 4, some 5] rfl rfl fun K3 hK3 => ?_
  refine st (fun _ hk => s_mv (v := (.sl (List.map (sl1 int1) l_1886))) rfl hk) ?_
  obtain ⟨r_1887, hr_1887, H0⟩ := bindS H0
  refine st (fun _ hk => s_call (avs := [(.sl (List.map (sl1 int1) l_1886))]) rfl rfl rfl (PC.call1 (ref09_Table_PC hr_1887) (FreeL.cons (Free.slm (fr_sl1 fr_int1)) FreeL.nil) hk)) ?_
  refine st (fun _ hk => s_not rfl hk) ?_
  refine aopsS_end (hK3 _ (SatL.norm (n := 0) (h := hl []) (env' := [(5, (bool (!r_1887)))]) (L' := []) rfl hs_refl ?_))
  repeat refine SatL.seq ?_
  refine SatL.condX rfl (fun hc7 => ?_) (fun hc7 => ?_)
  ·
    replace H0 := iteT H0 hc7
    repeat refine SatL.seq ?_
    refine SatL.reg [2] [some 2] rfl rfl fun K8 hK8 => ?_
    refine st (fun _ hk => s_as (v := (int 8)) rfl hk) ?_
    refine aopsS_end (hK8 _ (SatL.norm (n := 0) (h := hl []) (env' := [(2, (int 8))]) (L' := []) rfl hs_refl ?_))
    obtain rfl := Option.some.inj H0
    exact SatL.ret (fnQ_snap [] (int 8) (int 8) rfl (Snap.free _ (.sc _)) rfl)
  ·
    replace H0 := iteF H0 hc7
    refine SatL.skip ?_
    repeat refine SatL.seq ?_
    refine SatL.reg [2] [some 2] rfl rfl fun K10 hK10 => ?_
    refine st (fun _ hk => s_as (v := (int 0)) rfl hk) ?_
    refine aopsS_end (hK10 _ (SatL.norm (n := 0) (h := hl []) (env' := [(2, (int 0))]) (L' := []) rfl hs_refl ?_))
    obtain rfl := Option.some.inj H0
    exact SatL.ret (fnQ_snap [] (int 0) (int 0) rfl (Snap.free _ (.sc _)) rfl)

theorem ref09_SameInts_PC {a_1889 : (List Int)} {b_1890 : (List Int)} {r : Bool} (H0 : ref09_SameInts a_1889 b_1890 = some r) : PC Try.prog 30 [(.sl (List.map int1 a_1889)), (.sl (List.map int1 b_1890))] (· = (bool r)) := by
  unfold ref09_SameInts at H0
  refine PC.of_bodyL [(0, (.sl (List.map int1 a_1889))), (1, (.sl (List.map int1 b_1890)))] Try.func30 rfl rfl (Nat.le_of_ble_eq_true rfl) rfl fun O => ?_
  repeat refine SatL.seq ?_
  refine SatL.reg [0, 1] [some 4] rfl rfl fun K1 hK1 => ?_
  refine st (fun _ hk => s_as (v := (bool false)) rfl hk) ?_
  refine aopsS_end (hK1 _ (SatL.norm (n := 0) (h := hl []) (env' := [(0, (.sl (List.map int1 a_1889))), (1, (.sl (List.map int1 b_1890)))]) (L' := []) rfl hs_refl ?_))
  repeat refine SatL.seq ?_
  refine SatL.reg [0, 1, 10] [some 6, some 7, some 8, some 9, some 10] rfl rfl fun K3 hK3 => ?_
  refine st (fun _ hk => s_mv (v := (.sl (List.map int1 a_1889))) rfl hk) ?_
  refine aopsS_step fun _ hK => s_lenSl elem_23 rfl (fun hl5 => hK _ _ _ ?_)
  clear hK
  refine st (fun _ hk => s_mv (v := (.sl (List.map int1 b_1890))) rfl hk) ?_
  refine aopsS_step fun _ hK => s_lenSl elem_23 rfl (fun hl7 => hK _ _ _ ?_)
  clear hK
  refine st (fun _ hk => s_bin rfl rfl (b_neq hk)) ?_
  refine aopsS_end (hK3 _ (SatL.norm (n := 0) (h := hl []) (env' := [(0, (.sl (List.map int1 a_1889))), (1, (.sl (List.map int1 b_1890))), (10, (bool ((List.length a_1889 : Int) != (List.length b_1890 : Int))))]) (L' := []) rfl hs_refl ?_))
  repeat refine SatL.seq ?_
  refine SatL.condX rfl (fun hc9 => ?_) (fun hc9 => ?_)
  ·
    replace H0 := iteT H0 hc9
    repeat refine SatL.seq ?_
    refine SatL.reg [4] [some 4] rfl rfl fun K10 hK10 => ?_
    refine st (fun _ hk => s_as (v := (bool false)) rfl hk) ?_
    refine aopsS_end (hK10 _ (SatL.norm (n := 0) (h := hl []) (env' := [(4, (bool false))]) (L' := []) rfl hs_refl ?_))
    obtain rfl := Option.some.inj H0
    exact SatL.ret (fnQ_snap [] (bool false) (bool false) rfl (Snap.free _ (.sc _)) rfl)
  ·
    replace H0 := iteF H0 hc9
    refine SatL.skip ?_
    repeat refine SatL.seq ?_
    refine SatL.reg [0, 1, 5] [some 5] rfl rfl fun K12 hK12 => ?_
    refine st (fun _ hk => s_as (v := (int 0)) rfl hk) ?_
    refine aopsS_end (hK12 _ (SatL.norm (n := 0) (h := hl []) (env' := [(0, (.sl (List.map int1 a_1889))), (1, (.sl (List.map int1 b_1890))), (5, (int 0))]) (L' := []) rfl hs_refl ?_))
    repeat refine SatL.seq ?_
    obtain ⟨o_1898, H1, H0⟩ := bindS H0
    refine SatL.mid [] (fun s_ => (Sum.inr ()) = o_1898 ∧ StLe s_ [] [] 0) ?_ ?_
    ·
      repeat refine SatL.seq ?_
      refine SatL.block ?_
      repeat refine SatL.seq ?_
      refine SatL.loopK [0, 1, 5] (fun k0 s_ => ∃ (i_1901 : Int), StLe s_ [(0, (.sl (List.map int1 a_1889))), (1, (.sl (List.map int1 b_1890))), (5, (int i_1901))] [] 0 ∧ 0 ≤ i_1901 ∧ k0 = Int.toNat ((List.length a_1889 : Int) - i_1901) ∧ ref09_SameInts_L0 a_1889 b_1890 k0 i_1901 = some o_1898) (Int.toNat ((List.length a_1889 : Int) - 0)) ?_ ?_
      · exact ⟨0, (StLe.of [] 0 rfl hs_nil (Nat.le_refl _)), (by omega), rfl, H1⟩
      rintro k0 s_ ⟨i_1901, hs_, _, hk_, H1⟩
      refine SatL.le hs_ ?_
      clear hs_
      rcases k0 with _ | k0
      ·
        rw [ref09_SameInts_L0.eq_1] at H1
        repeat refine SatL.seq ?_
        refine SatL.reg [0, 1, 5, 14] [some 11, some 12, some 13, some 14] rfl rfl fun K129 hK129 => ?_
        refine st (fun _ hk => s_mv (v := (int i_1901)) rfl hk) ?_
        refine st (fun _ hk => s_mv (v := (.sl (List.map int1 a_1889))) rfl hk) ?_
        refine aopsS_step fun _ hK => s_lenSl elem_23 rfl (fun hl132 => hK _ _ _ ?_)
        clear hK
        refine st (fun _ hk => s_bin rfl rfl (b_lss hk)) ?_
        refine aopsS_end (hK129 _ (SatL.norm (n := 0) (h := hl []) (env' := [(0, (.sl (List.map int1 a_1889))), (1, (.sl (List.map int1 b_1890))), (5, (int i_1901)), (14, (bool (decide (i_1901 < (List.length a_1889 : Int)))))]) (L' := []) rfl hs_refl ?_))
        repeat refine SatL.seq ?_
        refine SatL.condF rfl (decide_eq_false (by omega)) ?_
        refine SatL.exit ?_
        simp only [thenQ, blockQ, if_true, reduceIte, Nat.reduceEqDiff]
        obtain rfl := Option.some.inj H1
        exact SatL.nil (thenN ⟨rfl, (StLe.of [] 0 rfl hs_nil (Nat.le_refl _))⟩)
      ·
        rw [ref09_SameInts_L0.eq_2] at H1
        repeat refine SatL.seq ?_
        refine SatL.reg [0, 1, 5, 14] [some 11, some 12, some 13, some 14] rfl rfl fun K134 hK134 => ?_
        refine st (fun _ hk => s_mv (v := (int i_1901)) rfl hk) ?_
        refine st (fun _ hk => s_mv (v := (.sl (List.map int1 a_1889))) rfl hk) ?_
        refine aopsS_step fun _ hK => s_lenSl elem_23 rfl (fun hl137 => hK _ _ _ ?_)
        clear hK
        refine st (fun _ hk => s_bin rfl rfl (b_lss hk)) ?_
        refine aopsS_end (hK134 _ (SatL.norm (n := 0) (h := hl []) (env' := [(0, (.sl (List.map int1 a_1889))), (1, (.sl (List.map int1 b_1890))), (5, (int i_1901)), (14, (bool (decide (i_1901 < (List.length a_1889 : Int)))))]) (L' := []) rfl hs_refl ?_))
        repeat refine SatL.seq ?_
        refine SatL.condT rfl (decide_eq_true (by omega)) ?_
        have hlt139 : (i_1901 < (List.length a_1889 : Int)) := by omega
        refine SatL.skip ?_
        repeat refine SatL.seq ?_
        refine SatL.block ?_
        repeat refine SatL.seq ?_
        refine SatL.draw [0, 1, 5, 25] [] [] [some 17, some 18, some 19, some 20, some 21, some 22, some 23, some 24, some 25] rfl (by kernel_rfl) (by kernel_rfl) rfl rfl fun K140 hK140 => ?_
        refine dd_step (ds_r0 _ rfl rfl (fun _ hK => s_mv (v := (.sl (List.map int1 a_1889))) rfl hK) ?_)
        refine dd_step (ds_r0 _ rfl rfl (fun _ hK => s_mv (v := (int i_1901)) rfl hK) ?_)
        obtain ⟨e_1904, he_1904, H1⟩ := bindS H1
        refine dd_step (ds_r0 _ rfl rfl (fun _ hK => s_ixSl elem_23 rfl rfl he_1904 cells_3 rfl (by decide) hK) ?_)
        refine dd_step (ds_r0 _ rfl rfl (fun _ hK => s_load1 (c := (int e_1904)) agg_3 (d_fp rfl) rfl hK) ?_)
        refine dd_step (ds_r0 _ rfl rfl (fun _ hK => s_mv (v := (.sl (List.map int1 b_1890))) rfl hK) ?_)
        refine dd_step (ds_r0 _ rfl rfl (fun _ hK => s_mv (v := (int i_1901)) rfl hK) ?_)
        obtain ⟨e_1905, he_1905, H1⟩ := bindS H1
        refine dd_step (ds_r0 _ rfl rfl (fun _ hK => s_ixSl elem_23 rfl rfl he_1905 cells_3 rfl (by decide) hK) ?_)
        refine dd_step (ds_r0 _ rfl rfl (fun _ hK => s_load1 (c := (int e_1905)) agg_3 (d_fp rfl) rfl hK) ?_)
        refine dd_step (ds_r0 _ rfl rfl (fun _ hK => s_bin rfl rfl (b_neq hK)) ?_)
        refine dd_end rc_nil (hK140 _ (SatL.norm (n := 0) (h := hl []) (env' := [(0, (.sl (List.map int1 a_1889))), (1, (.sl (List.map int1 b_1890))), (5, (int i_1901)), (25, (bool (e_1904 != e_1905)))]) (L' := []) rfl hs_refl ?_))
        repeat refine SatL.seq ?_
        refine SatL.condX rfl (fun hc150 => ?_) (fun hc150 => ?_)
        ·
          replace H1 := iteT H1 hc150
          repeat refine SatL.seq ?_
          refine SatL.reg [4] [some 4] rfl rfl fun K151 hK151 => ?_
          refine st (fun _ hk => s_as (v := (bool false)) rfl hk) ?_
          refine aopsS_end (hK151 _ (SatL.norm (n := 0) (h := hl []) (env' := [(4, (bool false))]) (L' := []) rfl hs_refl ?_))
          obtain rfl := Option.some.inj H1
          obtain rfl := Option.some.inj H0
          exact SatL.ret (fnQ_snap [] (bool false) (bool false) rfl (Snap.free _ (.sc _)) rfl)
        ·
          replace H1 := iteF H1 hc150
          refine SatL.skip ?_
          refine SatL.nil (blockN (thenN ?_))
          repeat refine SatL.seq ?_
          refine SatL.rege [some 15, some 16, some 5] rfl rfl fun K153 hK153 => ?_
          refine st (fun _ hk => s_mv (v := (int i_1901)) rfl hk) ?_
          refine st (fun _ hk => s_bin rfl rfl (b_add64 hk)) ?_
          refine st (fun _ hk => s_as (v := (int (w64 (i_1901 + 1)))) rfl hk) ?_
          refine aopsS_end (hK153 _ ?_)
          have hw157 : w64 (i_1901 + 1) = i_1901 + 1 := w64_id (by omega) (by omega)
          exact (thenN ⟨k0, ⟨(w64 (i_1901 + 1)), (StLe.of [] 0 rfl hs_nil (Nat.le_refl _)), (by omega), (by rw [hw157]; omega), (Eq.mpr (congrArg (fun q_ => ref09_SameInts_L0 a_1889 b_1890 k0 q_ = some o_1898) hw157) H1)⟩, by omega⟩)
    ·
      rintro s_ ⟨rfl, hs_⟩
      refine SatL.le hs_ ?_
      clear hs_
      replace H0 := sumun0S H0
      repeat refine SatL.seq ?_
      refine SatL.reg [4] [some 4] rfl rfl fun K158 hK158 => ?_
      refine st (fun _ hk => s_as (v := (bool true)) rfl hk) ?_
      refine aopsS_end (hK158 _ (SatL.norm (n := 0) (h := hl []) (env' := [(4, (bool true))]) (L' := []) rfl hs_refl ?_))
      obtain rfl := Option.some.inj H0
      exact SatL.ret (fnQ_snap [] (bool true) (bool true) rfl (Snap.free _ (.sc _)) rfl)

theorem law09_SortChances_PC {table_343 : (List (List Int))} {kind_344 : Int} {n_345 : Int} {counts_346 : (List Int)} {bins_347 : (List Int)} {r : Bool} (H0 : law09_SortChances table_343 kind_344 n_345 counts_346 bins_347 = some r) : PC Try.prog 4 [(.sl (List.map (sl1 int1) table_343)), (int kind_344), (int n_345), (.sl (List.map int1 counts_346)), (.sl (List.map int1 bins_347))] (· = (bool r)) := by
  unfold law09_SortChances at H0
  refine PC.of_bodyL [(0, (.sl (List.map (sl1 int1) table_343))), (1, (int kind_344)), (2, (int n_345)), (3, (.sl (List.map int1 counts_346))), (4, (.sl (List.map int1 bins_347)))] Try.func4 rfl rfl (Nat.le_of_ble_eq_true rfl) rfl fun O => ?_
  repeat refine SatL.seq ?_
  refine SatL.reg [0, 1, 2, 3, 4] [some 10] rfl rfl fun K1 hK1 => ?_
  refine st (fun _ hk => s_as (v := (bool false)) rfl hk) ?_
  refine aopsS_end (hK1 _ (SatL.norm (n := 0) (h := hl []) (env' := [(0, (.sl (List.map (sl1 int1) table_343))), (1, (int kind_344)), (2, (int n_345)), (3, (.sl (List.map int1 counts_346))), (4, (.sl (List.map int1 bins_347)))]) (L' := []) rfl hs_refl ?_))
  repeat refine SatL.seq ?_
  refine SatL.reg [0, 1, 2, 3, 4, 36] [some 20, some 21, some 22, some 23, some 24, some 25, some 26, some 27, some 28, some 29, some 30, some 31, some 32, some 33, some 34, some 35, some 36] rfl rfl fun K3 hK3 => ?_
  refine st (fun _ hk => s_mv (v := (.sl (List.map (sl1 int1) table_343))) rfl hk) ?_
  obtain ⟨r_358, hr_358, H0⟩ := bindS H0
  refine st (fun _ hk => s_call (avs := [(.sl (List.map (sl1 int1) table_343))]) rfl rfl rfl (PC.call1 (law09_wide_PC hr_358) (FreeL.cons (Free.slm (fr_sl1 fr_int1)) FreeL.nil) hk)) ?_
  refine st (fun _ hk => s_mv (v := (bool r_358)) rfl hk) ?_
  refine aopsS_split rfl _ rfl (fun g7 => ?_) (fun g7 => ?_)
  ·
    replace H0 := iteF H0 (by simpa using g7)
    refine sx (fun _ hk => s_mv (v := (.sl (List.map (sl1 int1) table_343))) rfl hk) ?_
    refine sg rfl rfl (fun _ hk => s_mv (v := (int n_345)) rfl hk) ?_
    obtain ⟨r_361, hr_361, H0⟩ := bindS H0
    refine sg rfl rfl (fun _ hk => s_call (avs := [(.sl (List.map (sl1 int1) table_343)), (int n_345)]) rfl rfl rfl (PC.call1 (law09_heavy_PC hr_361) (FreeL.cons (Free.slm (fr_sl1 fr_int1)) (FreeL.cons (.sc _) FreeL.nil)) hk)) ?_
    refine st (fun _ hk => s_pickF (v := (bool r_361)) rfl rfl hk) ?_
    refine st (fun _ hk => s_mv (v := (bool r_361)) rfl hk) ?_
    refine aopsS_split rfl _ rfl (fun g13 => ?_) (fun g13 => ?_)
    ·
      replace H0 := iteF H0 (by simpa using g13)
      refine sx (fun _ hk => s_mv (v := (.sl (List.map int1 counts_346))) rfl hk) ?_
      refine aopsS_on rfl rfl fun _ hK => s_lenSl elem_23 rfl (fun hl15 => hK _ _ _ ?_)
      clear hK
      refine sg rfl rfl (fun _ hk => s_bin rfl rfl (b_gtr hk)) ?_
      refine st (fun _ hk => s_pickF (v := (bool (decide (20 < (List.length counts_346 : Int))))) rfl rfl hk) ?_
      refine st (fun _ hk => s_mv (v := (bool (decide (20 < (List.length counts_346 : Int))))) rfl hk) ?_
      refine aopsS_split rfl _ rfl (fun g19 => ?_) (fun g19 => ?_)
      ·
        replace H0 := iteF H0 (by simpa using g19)
        refine sx (fun _ hk => s_mv (v := (.sl (List.map int1 bins_347))) rfl hk) ?_
        refine aopsS_on rfl rfl fun _ hK => s_lenSl elem_23 rfl (fun hl21 => hK _ _ _ ?_)
        clear hK
        refine sg rfl rfl (fun _ hk => s_bin rfl rfl (b_gtr hk)) ?_
        refine st (fun _ hk => s_pickF (v := (bool (decide (20 < (List.length bins_347 : Int))))) rfl rfl hk) ?_
        refine aopsS_end (hK3 _ (SatL.norm (n := 0) (h := hl []) (env' := [(0, (.sl (List.map (sl1 int1) table_343))), (1, (int kind_344)), (2, (int n_345)), (3, (.sl (List.map int1 counts_346))), (4, (.sl (List.map int1 bins_347))), (36, (bool (decide (20 < (List.length bins_347 : Int)))))]) (L' := []) rfl hs_refl ?_))
        repeat refine SatL.seq ?_
        refine SatL.condX rfl (fun hc24 => ?_) (fun hc24 => ?_)
        ·
          replace H0 := iteT H0 hc24
          repeat refine SatL.seq ?_
          refine SatL.reg [10] [some 10] rfl rfl fun K25 hK25 => ?_
          refine st (fun _ hk => s_as (v := (bool true)) rfl hk) ?_
          refine aopsS_end (hK25 _ (SatL.norm (n := 0) (h := hl []) (env' := [(10, (bool true))]) (L' := []) rfl hs_refl ?_))
          obtain rfl := Option.some.inj H0
          exact SatL.ret (fnQ_snap [] (bool true) (bool true) rfl (Snap.free _ (.sc _)) rfl)
        ·
          replace H0 := iteF H0 hc24
          refine SatL.skip ?_
          repeat refine SatL.seq ?_
          refine SatL.reg [0, 1, 2, 3, 4, 11, 12] [some 38, some 39, some 40, some 41, some 37, some 42, some 43, some 11, some 12] rfl rfl fun K27 hK27 => ?_
          refine st (fun _ hk => s_mv (v := (.sl (List.map (sl1 int1) table_343))) rfl hk) ?_
          refine st (fun _ hk => s_mv (v := (int kind_344)) rfl hk) ?_
          refine st (fun _ hk => s_mv (v := (int n_345)) rfl hk) ?_
          obtain ⟨⟨r0_653, r1_654⟩, hr0_653, H0⟩ := bindS H0
          replace H0 := un2S H0
          refine st (fun _ hk => s_call (avs := [(.sl (List.map (sl1 int1) table_343)), (int kind_344), (int n_345)]) rfl rfl rfl (PC.call1 (sort_Chances_PC hr0_653) (FreeL.cons (Free.slm (fr_sl1 fr_int1)) (FreeL.cons (.sc _) (FreeL.cons (.sc _) FreeL.nil))) hk)) ?_
          refine st (fun _ hk => s_mv (v := (.tp [(.sl (List.map int1 r0_653)), (int r1_654)])) rfl hk) ?_
          refine st (fun _ hk => s_ext (c := (.sl (List.map int1 r0_653))) rfl rfl hk) ?_
          refine st (fun _ hk => s_ext (c := (int r1_654)) rfl rfl hk) ?_
          refine st (fun _ hk => s_as (v := (.sl (List.map int1 r0_653))) rfl hk) ?_
          refine st (fun _ hk => s_as (v := (int r1_654)) rfl hk) ?_
          refine aopsS_end (hK27 _ (SatL.norm (n := 0) (h := hl []) (env' := [(0, (.sl (List.map (sl1 int1) table_343))), (1, (int kind_344)), (2, (int n_345)), (3, (.sl (List.map int1 counts_346))), (4, (.sl (List.map int1 bins_347))), (11, (.sl (List.map int1 r0_653))), (12, (int r1_654))]) (L' := []) rfl hs_refl ?_))
          repeat refine SatL.seq ?_
          refine SatL.reg [0, 2, 3, 4, 11, 12, 13, 14] [some 45, some 46, some 47, some 48, some 44, some 49, some 50, some 13, some 14] rfl rfl fun K37 hK37 => ?_
          refine st (fun _ hk => s_mv (v := (.sl (List.map (sl1 int1) table_343))) rfl hk) ?_
          refine st (fun _ hk => s_mv (v := (int kind_344)) rfl hk) ?_
          refine st (fun _ hk => s_mv (v := (int n_345)) rfl hk) ?_
          obtain ⟨⟨r0_1324, r1_1325⟩, hr0_1324, H0⟩ := bindS H0
          replace H0 := un2S H0
          refine st (fun _ hk => s_call (avs := [(.sl (List.map (sl1 int1) table_343)), (int kind_344), (int n_345)]) rfl rfl rfl (PC.call1 (ref09_Chances_PC hr0_1324) (FreeL.cons (Free.slm (fr_sl1 fr_int1)) (FreeL.cons (.sc _) (FreeL.cons (.sc _) FreeL.nil))) hk)) ?_
          refine st (fun _ hk => s_mv (v := (.tp [(.sl (List.map int1 r0_1324)), (int r1_1325)])) rfl hk) ?_
          refine st (fun _ hk => s_ext (c := (.sl (List.map int1 r0_1324))) rfl rfl hk) ?_
          refine st (fun _ hk => s_ext (c := (int r1_1325)) rfl rfl hk) ?_
          refine st (fun _ hk => s_as (v := (.sl (List.map int1 r0_1324))) rfl hk) ?_
          refine st (fun _ hk => s_as (v := (int r1_1325)) rfl hk) ?_
          refine aopsS_end (hK37 _ (SatL.norm (n := 0) (h := hl []) (env' := [(0, (.sl (List.map (sl1 int1) table_343))), (2, (int n_345)), (3, (.sl (List.map int1 counts_346))), (4, (.sl (List.map int1 bins_347))), (11, (.sl (List.map int1 r0_653))), (12, (int r1_654)), (13, (.sl (List.map int1 r0_1324))), (14, (int r1_1325))]) (L' := []) rfl hs_refl ?_))
          repeat refine SatL.seq ?_
          refine SatL.reg [0, 2, 3, 4, 11, 12, 13, 14, 15, 16] [some 52, some 53, some 54, some 55, some 56, some 51, some 57, some 58, some 15, some 16] rfl rfl fun K47 hK47 => ?_
          refine st (fun _ hk => s_mv (v := (.sl (List.map (sl1 int1) table_343))) rfl hk) ?_
          refine st (fun _ hk => s_mv (v := (int n_345)) rfl hk) ?_
          refine st (fun _ hk => s_mv (v := (.sl (List.map int1 counts_346))) rfl hk) ?_
          refine st (fun _ hk => s_mv (v := (.sl (List.map int1 bins_347))) rfl hk) ?_
          obtain ⟨⟨r0_1599, r1_1600⟩, hr0_1599, H0⟩ := bindS H0
          replace H0 := un2S H0
          refine st (fun _ hk => s_call (avs := [(.sl (List.map (sl1 int1) table_343)), (int n_345), (.sl (List.map int1 counts_346)), (.sl (List.map int1 bins_347))]) rfl rfl rfl (PC.call1 (sort_Wrong_PC hr0_1599) (FreeL.cons (Free.slm (fr_sl1 fr_int1)) (FreeL.cons (.sc _) (FreeL.cons (Free.slm fr_int1) (FreeL.cons (Free.slm fr_int1) FreeL.nil)))) hk)) ?_
          refine st (fun _ hk => s_mv (v := (.tp [(.sl (List.map Mix.cells r0_1599)), (int r1_1600)])) rfl hk) ?_
          refine st (fun _ hk => s_ext (c := (.sl (List.map Mix.cells r0_1599))) rfl rfl hk) ?_
          refine st (fun _ hk => s_ext (c := (int r1_1600)) rfl rfl hk) ?_
          refine st (fun _ hk => s_as (v := (.sl (List.map Mix.cells r0_1599))) rfl hk) ?_
          refine st (fun _ hk => s_as (v := (int r1_1600)) rfl hk) ?_
          refine aopsS_end (hK47 _ (SatL.norm (n := 0) (h := hl []) (env' := [(0, (.sl (List.map (sl1 int1) table_343))), (2, (int n_345)), (3, (.sl (List.map int1 counts_346))), (4, (.sl (List.map int1 bins_347))), (11, (.sl (List.map int1 r0_653))), (12, (int r1_654)), (13, (.sl (List.map int1 r0_1324))), (14, (int r1_1325)), (15, (.sl (List.map Mix.cells r0_1599))), (16, (int r1_1600))]) (L' := []) rfl hs_refl ?_))
          repeat refine SatL.seq ?_
          refine SatL.reg [0, 11, 12, 13, 14, 15, 16, 17, 18] [some 60, some 61, some 62, some 63, some 64, some 59, some 65, some 66, some 17, some 18] rfl rfl fun K58 hK58 => ?_
          refine st (fun _ hk => s_mv (v := (.sl (List.map (sl1 int1) table_343))) rfl hk) ?_
          refine st (fun _ hk => s_mv (v := (int n_345)) rfl hk) ?_
          refine st (fun _ hk => s_mv (v := (.sl (List.map int1 counts_346))) rfl hk) ?_
          refine st (fun _ hk => s_mv (v := (.sl (List.map int1 bins_347))) rfl hk) ?_
          obtain ⟨⟨r0_1868, r1_1869⟩, hr0_1868, H0⟩ := bindS H0
          replace H0 := un2S H0
          refine st (fun _ hk => s_call (avs := [(.sl (List.map (sl1 int1) table_343)), (int n_345), (.sl (List.map int1 counts_346)), (.sl (List.map int1 bins_347))]) rfl rfl rfl (PC.call1 (ref09_Wrong_PC hr0_1868) (FreeL.cons (Free.slm (fr_sl1 fr_int1)) (FreeL.cons (.sc _) (FreeL.cons (Free.slm fr_int1) (FreeL.cons (Free.slm fr_int1) FreeL.nil)))) hk)) ?_
          refine st (fun _ hk => s_mv (v := (.tp [(.sl (List.map Mix.cells r0_1868)), (int r1_1869)])) rfl hk) ?_
          refine st (fun _ hk => s_ext (c := (.sl (List.map Mix.cells r0_1868))) rfl rfl hk) ?_
          refine st (fun _ hk => s_ext (c := (int r1_1869)) rfl rfl hk) ?_
          refine st (fun _ hk => s_as (v := (.sl (List.map Mix.cells r0_1868))) rfl hk) ?_
          refine st (fun _ hk => s_as (v := (int r1_1869)) rfl hk) ?_
          refine aopsS_end (hK58 _ (SatL.norm (n := 0) (h := hl []) (env' := [(0, (.sl (List.map (sl1 int1) table_343))), (11, (.sl (List.map int1 r0_653))), (12, (int r1_654)), (13, (.sl (List.map int1 r0_1324))), (14, (int r1_1325)), (15, (.sl (List.map Mix.cells r0_1599))), (16, (int r1_1600)), (17, (.sl (List.map Mix.cells r0_1868))), (18, (int r1_1869))]) (L' := []) rfl hs_refl ?_))
          repeat refine SatL.seq ?_
          refine SatL.reg [0, 11, 12, 13, 14, 15, 16, 17, 18, 71] [some 67, some 68, some 69, some 70, some 71] rfl rfl fun K69 hK69 => ?_
          refine st (fun _ hk => s_mv (v := (.sl (List.map Mix.cells r0_1599))) rfl hk) ?_
          refine aopsS_step fun _ hK => s_lenSl elem_45 rfl (fun hl71 => hK _ _ _ ?_)
          clear hK
          refine st (fun _ hk => s_mv (v := (.sl (List.map Mix.cells r0_1868))) rfl hk) ?_
          refine aopsS_step fun _ hK => s_lenSl elem_45 rfl (fun hl73 => hK _ _ _ ?_)
          clear hK
          refine st (fun _ hk => s_bin rfl rfl (b_neq hk)) ?_
          refine aopsS_end (hK69 _ (SatL.norm (n := 0) (h := hl []) (env' := [(0, (.sl (List.map (sl1 int1) table_343))), (11, (.sl (List.map int1 r0_653))), (12, (int r1_654)), (13, (.sl (List.map int1 r0_1324))), (14, (int r1_1325)), (15, (.sl (List.map Mix.cells r0_1599))), (16, (int r1_1600)), (17, (.sl (List.map Mix.cells r0_1868))), (18, (int r1_1869)), (71, (bool ((List.length r0_1599 : Int) != (List.length r0_1868 : Int))))]) (L' := []) rfl hs_refl ?_))
          repeat refine SatL.seq ?_
          refine SatL.condX rfl (fun hc75 => ?_) (fun hc75 => ?_)
          ·
            replace H0 := iteT H0 hc75
            repeat refine SatL.seq ?_
            refine SatL.reg [10] [some 10] rfl rfl fun K76 hK76 => ?_
            refine st (fun _ hk => s_as (v := (bool false)) rfl hk) ?_
            refine aopsS_end (hK76 _ (SatL.norm (n := 0) (h := hl []) (env' := [(10, (bool false))]) (L' := []) rfl hs_refl ?_))
            obtain rfl := Option.some.inj H0
            exact SatL.ret (fnQ_snap [] (bool false) (bool false) rfl (Snap.free _ (.sc _)) rfl)
          ·
            replace H0 := iteF H0 hc75
            refine SatL.skip ?_
            repeat refine SatL.seq ?_
            refine SatL.reg [0, 11, 12, 13, 14, 15, 16, 17, 18, 73, 74] [some 72, some 73, some 74] rfl rfl fun K78 hK78 => ?_
            refine st (fun _ hk => s_mv (v := (.sl (List.map Mix.cells r0_1599))) rfl hk) ?_
            refine aopsS_step fun _ hK => s_lenSl elem_45 rfl (fun hl80 => hK _ _ _ ?_)
            clear hK
            refine st (fun _ hk => s_mv (v := (int 0)) rfl hk) ?_
            refine aopsS_end (hK78 _ (SatL.norm (n := 0) (h := hl []) (env' := [(0, (.sl (List.map (sl1 int1) table_343))), (11, (.sl (List.map int1 r0_653))), (12, (int r1_654)), (13, (.sl (List.map int1 r0_1324))), (14, (int r1_1325)), (15, (.sl (List.map Mix.cells r0_1599))), (16, (int r1_1600)), (17, (.sl (List.map Mix.cells r0_1868))), (18, (int r1_1869)), (73, (int (List.length r0_1599 : Int))), (74, (int 0))]) (L' := []) rfl hs_refl ?_))
            repeat refine SatL.seq ?_
            obtain ⟨o_1877, H1, H0⟩ := bindS H0
            refine SatL.mid [0, 11, 12, 13, 14, 16, 18] (fun s_ => (Sum.inr ()) = o_1877 ∧ StLe s_ [(0, (.sl (List.map (sl1 int1) table_343))), (11, (.sl (List.map int1 r0_653))), (12, (int r1_654)), (13, (.sl (List.map int1 r0_1324))), (14, (int r1_1325)), (16, (int r1_1600)), (18, (int r1_1869))] [] 0) ?_ ?_
            ·
              repeat refine SatL.seq ?_
              refine SatL.block ?_
              repeat refine SatL.seq ?_
              refine SatL.loopK [0, 11, 12, 13, 14, 15, 16, 17, 18, 73, 74] (fun k0 s_ => ∃ (x_1880 : Int), StLe s_ [(0, (.sl (List.map (sl1 int1) table_343))), (11, (.sl (List.map int1 r0_653))), (12, (int r1_654)), (13, (.sl (List.map int1 r0_1324))), (14, (int r1_1325)), (15, (.sl (List.map Mix.cells r0_1599))), (16, (int r1_1600)), (17, (.sl (List.map Mix.cells r0_1868))), (18, (int r1_1869)), (73, (int (List.length r0_1599 : Int))), (74, (int x_1880))] [] 0 ∧ 0 ≤ x_1880 ∧ k0 = Int.toNat ((List.length r0_1599 : Int) - x_1880) ∧ law09_SortChances_L0 r0_1599 r0_1868 k0 x_1880 = some o_1877) (Int.toNat ((List.length r0_1599 : Int) - 0)) ?_ ?_
              · exact ⟨0, (StLe.of [] 0 rfl hs_nil (Nat.le_refl _)), (by omega), rfl, H1⟩
              rintro k0 s_ ⟨x_1880, hs_, _, hk_, H1⟩
              refine SatL.le hs_ ?_
              clear hs_
              rcases k0 with _ | k0
              ·
                rw [law09_SortChances_L0.eq_1] at H1
                repeat refine SatL.seq ?_
                refine SatL.reg [0, 11, 12, 13, 14, 15, 16, 17, 18, 73, 74, 75] [some 75] rfl rfl fun K192 hK192 => ?_
                refine st (fun _ hk => s_bin rfl rfl (b_lss hk)) ?_
                refine aopsS_end (hK192 _ (SatL.norm (n := 0) (h := hl []) (env' := [(0, (.sl (List.map (sl1 int1) table_343))), (11, (.sl (List.map int1 r0_653))), (12, (int r1_654)), (13, (.sl (List.map int1 r0_1324))), (14, (int r1_1325)), (15, (.sl (List.map Mix.cells r0_1599))), (16, (int r1_1600)), (17, (.sl (List.map Mix.cells r0_1868))), (18, (int r1_1869)), (73, (int (List.length r0_1599 : Int))), (74, (int x_1880)), (75, (bool (decide (x_1880 < (List.length r0_1599 : Int)))))]) (L' := []) rfl hs_refl ?_))
                repeat refine SatL.seq ?_
                refine SatL.condF rfl (decide_eq_false (by omega)) ?_
                refine SatL.exit ?_
                simp only [thenQ, blockQ, if_true, reduceIte, Nat.reduceEqDiff]
                obtain rfl := Option.some.inj H1
                exact SatL.nil (thenN ⟨rfl, (StLe.of [] 0 rfl hs_nil (Nat.le_refl _))⟩)
              ·
                rw [law09_SortChances_L0.eq_2] at H1
                repeat refine SatL.seq ?_
                refine SatL.reg [0, 11, 12, 13, 14, 15, 16, 17, 18, 73, 74, 75] [some 75] rfl rfl fun K194 hK194 => ?_
                refine st (fun _ hk => s_bin rfl rfl (b_lss hk)) ?_
                refine aopsS_end (hK194 _ (SatL.norm (n := 0) (h := hl []) (env' := [(0, (.sl (List.map (sl1 int1) table_343))), (11, (.sl (List.map int1 r0_653))), (12, (int r1_654)), (13, (.sl (List.map int1 r0_1324))), (14, (int r1_1325)), (15, (.sl (List.map Mix.cells r0_1599))), (16, (int r1_1600)), (17, (.sl (List.map Mix.cells r0_1868))), (18, (int r1_1869)), (73, (int (List.length r0_1599 : Int))), (74, (int x_1880)), (75, (bool (decide (x_1880 < (List.length r0_1599 : Int)))))]) (L' := []) rfl hs_refl ?_))
                repeat refine SatL.seq ?_
                refine SatL.condT rfl (decide_eq_true (by omega)) ?_
                have hlt196 : (x_1880 < (List.length r0_1599 : Int)) := by omega
                refine SatL.skip ?_
                repeat refine SatL.seq ?_
                refine SatL.block ?_
                repeat refine SatL.seq ?_
                refine SatL.reg [0, 11, 12, 13, 14, 15, 16, 17, 18, 19, 73, 74] [some 76, some 19] rfl rfl fun K197 hK197 => ?_
                refine st (fun _ hk => s_mv (v := (int x_1880)) rfl hk) ?_
                refine st (fun _ hk => s_as (v := (int x_1880)) rfl hk) ?_
                refine aopsS_end (hK197 _ (SatL.norm (n := 0) (h := hl []) (env' := [(0, (.sl (List.map (sl1 int1) table_343))), (11, (.sl (List.map int1 r0_653))), (12, (int r1_654)), (13, (.sl (List.map int1 r0_1324))), (14, (int r1_1325)), (15, (.sl (List.map Mix.cells r0_1599))), (16, (int r1_1600)), (17, (.sl (List.map Mix.cells r0_1868))), (18, (int r1_1869)), (19, (int x_1880)), (73, (int (List.length r0_1599 : Int))), (74, (int x_1880))]) (L' := []) rfl hs_refl ?_))
                repeat refine SatL.seq ?_
                refine SatL.draw [0, 11, 12, 13, 14, 15, 16, 17, 18, 73, 74, 85] [] [] [some 77, some 78, some 79, some 80, some 81, some 82, some 83, some 84, some 85] rfl (by kernel_rfl) (by kernel_rfl) rfl rfl fun K200 hK200 => ?_
                refine dd_step (ds_r0 _ rfl rfl (fun _ hK => s_mv (v := (.sl (List.map Mix.cells r0_1599))) rfl hK) ?_)
                refine dd_step (ds_r0 _ rfl rfl (fun _ hK => s_mv (v := (int x_1880)) rfl hK) ?_)
                obtain ⟨e_1883, he_1883, H1⟩ := bindS H1
                refine dd_step (ds_r0 _ rfl rfl (fun _ hK => s_ixSl elem_45 rfl rfl he_1883 cells_51 rfl (by decide) hK) ?_)
                refine dd_step (ds_r0 _ rfl rfl (fun _ hK => s_loadA (cs' := [(int e_1883.Num), (int e_1883.Den)]) agg_51 cells_51 (d_fp rfl) (Nat.le_of_ble_eq_true rfl) rfl hK) ?_)
                refine dd_step (ds_r0 _ rfl rfl (fun _ hK => s_mv (v := (.sl (List.map Mix.cells r0_1868))) rfl hK) ?_)
                refine dd_step (ds_r0 _ rfl rfl (fun _ hK => s_mv (v := (int x_1880)) rfl hK) ?_)
                obtain ⟨e_1884, he_1884, H1⟩ := bindS H1
                refine dd_step (ds_r0 _ rfl rfl (fun _ hK => s_ixSl elem_45 rfl rfl he_1884 cells_51 rfl (by decide) hK) ?_)
                refine dd_step (ds_r0 _ rfl rfl (fun _ hK => s_loadA (cs' := [(int e_1884.Num), (int e_1884.Den)]) agg_51 cells_51 (d_fp rfl) (Nat.le_of_ble_eq_true rfl) rfl hK) ?_)
                refine dd_step (ds_r0 _ rfl rfl (fun _ hK => s_bin rfl rfl (b_stneq (cmp_51 _ _ _ _ _) hK)) ?_)
                refine dd_end rc_nil (hK200 _ (SatL.norm (n := 0) (h := hl []) (env' := [(0, (.sl (List.map (sl1 int1) table_343))), (11, (.sl (List.map int1 r0_653))), (12, (int r1_654)), (13, (.sl (List.map int1 r0_1324))), (14, (int r1_1325)), (15, (.sl (List.map Mix.cells r0_1599))), (16, (int r1_1600)), (17, (.sl (List.map Mix.cells r0_1868))), (18, (int r1_1869)), (73, (int (List.length r0_1599 : Int))), (74, (int x_1880)), (85, (bool (!((e_1883.Num == e_1884.Num) && (e_1883.Den == e_1884.Den)))))]) (L' := []) rfl hs_refl ?_))
                repeat refine SatL.seq ?_
                refine SatL.condX rfl (fun hc210 => ?_) (fun hc210 => ?_)
                ·
                  replace H1 := iteT H1 hc210
                  repeat refine SatL.seq ?_
                  refine SatL.reg [10] [some 10] rfl rfl fun K211 hK211 => ?_
                  refine st (fun _ hk => s_as (v := (bool false)) rfl hk) ?_
                  refine aopsS_end (hK211 _ (SatL.norm (n := 0) (h := hl []) (env' := [(10, (bool false))]) (L' := []) rfl hs_refl ?_))
                  obtain rfl := Option.some.inj H1
                  obtain rfl := Option.some.inj H0
                  exact SatL.ret (fnQ_snap [] (bool false) (bool false) rfl (Snap.free _ (.sc _)) rfl)
                ·
                  replace H1 := iteF H1 hc210
                  refine SatL.skip ?_
                  refine SatL.nil (blockN (thenN ?_))
                  repeat refine SatL.seq ?_
                  refine SatL.rege [some 86, some 74] rfl rfl fun K213 hK213 => ?_
                  refine st (fun _ hk => s_bin rfl rfl (b_add64 hk)) ?_
                  refine st (fun _ hk => s_mv (v := (int (w64 (x_1880 + 1)))) rfl hk) ?_
                  refine aopsS_end (hK213 _ ?_)
                  have hw216 : w64 (x_1880 + 1) = x_1880 + 1 := w64_id (by omega) (by omega)
                  exact (thenN ⟨k0, ⟨(w64 (x_1880 + 1)), (StLe.of [] 0 rfl hs_nil (Nat.le_refl _)), (by omega), (by rw [hw216]; omega), (Eq.mpr (congrArg (fun q_ => law09_SortChances_L0 r0_1599 r0_1868 k0 q_ = some o_1877) hw216) H1)⟩, by omega⟩)
            ·
              rintro s_ ⟨rfl, hs_⟩
              refine SatL.le hs_ ?_
              clear hs_
              replace H0 := sumun0S H0
              repeat refine SatL.seq ?_
              refine SatL.reg [10] [some 87, some 88, some 89, some 90, some 91, some 92, some 93, some 94, some 95, some 96, some 97, some 98, some 99, some 100, some 101, some 102, some 103, some 104, some 105, some 106, some 10] rfl rfl fun K217 hK217 => ?_
              refine st (fun _ hk => s_mv (v := (.sl (List.map (sl1 int1) table_343))) rfl hk) ?_
              obtain ⟨r_1885, hr_1885, H0⟩ := bindS H0
              refine st (fun _ hk => s_call (avs := [(.sl (List.map (sl1 int1) table_343))]) rfl rfl rfl (PC.call1 (sort_CheckTable_PC hr_1885) (FreeL.cons (Free.slm (fr_sl1 fr_int1)) FreeL.nil) hk)) ?_
              refine st (fun _ hk => s_mv (v := (.sl (List.map (sl1 int1) table_343))) rfl hk) ?_
              obtain ⟨r_1888, hr_1888, H0⟩ := bindS H0
              refine st (fun _ hk => s_call (avs := [(.sl (List.map (sl1 int1) table_343))]) rfl rfl rfl (PC.call1 (ref09_CheckTable_PC hr_1888) (FreeL.cons (Free.slm (fr_sl1 fr_int1)) FreeL.nil) hk)) ?_
              refine st (fun _ hk => s_bin rfl rfl (b_eql hk)) ?_
              refine st (fun _ hk => s_mv (v := (bool (r_1885 == r_1888))) rfl hk) ?_
              refine aopsS_split rfl _ rfl (fun g224 => ?_) (fun g224 => ?_)
              ·
                replace H0 := iteT H0 (by simpa using g224)
                refine sx (fun _ hk => s_mv (v := (.sl (List.map int1 r0_653))) rfl hk) ?_
                refine sg rfl rfl (fun _ hk => s_mv (v := (.sl (List.map int1 r0_1324))) rfl hk) ?_
                obtain ⟨r_1906, hr_1906, H0⟩ := bindS H0
                refine sg rfl rfl (fun _ hk => s_call (avs := [(.sl (List.map int1 r0_653)), (.sl (List.map int1 r0_1324))]) rfl rfl rfl (PC.call1 (ref09_SameInts_PC hr_1906) (FreeL.cons (Free.slm fr_int1) (FreeL.cons (Free.slm fr_int1) FreeL.nil)) hk)) ?_
                refine st (fun _ hk => s_pickT (v := (bool r_1906)) rfl rfl hk) ?_
                refine st (fun _ hk => s_mv (v := (bool r_1906)) rfl hk) ?_
                refine aopsS_split rfl _ rfl (fun g230 => ?_) (fun g230 => ?_)
                ·
                  replace H0 := iteT H0 (by simpa using g230)
                  refine sx (fun _ hk => s_mv (v := (int r1_654)) rfl hk) ?_
                  refine sg rfl rfl (fun _ hk => s_mv (v := (int r1_1325)) rfl hk) ?_
                  refine sg rfl rfl (fun _ hk => s_bin rfl rfl (b_eql hk)) ?_
                  refine st (fun _ hk => s_pickT (v := (bool (r1_654 == r1_1325))) rfl rfl hk) ?_
                  refine st (fun _ hk => s_mv (v := (bool (r1_654 == r1_1325))) rfl hk) ?_
                  refine aopsS_split rfl _ rfl (fun g236 => ?_) (fun g236 => ?_)
                  ·
                    replace H0 := iteT H0 (by simpa using g236)
                    refine sx (fun _ hk => s_mv (v := (int r1_1600)) rfl hk) ?_
                    refine sg rfl rfl (fun _ hk => s_mv (v := (int r1_1869)) rfl hk) ?_
                    refine sg rfl rfl (fun _ hk => s_bin rfl rfl (b_eql hk)) ?_
                    refine st (fun _ hk => s_pickT (v := (bool (r1_1600 == r1_1869))) rfl rfl hk) ?_
                    refine st (fun _ hk => s_as (v := (bool (r1_1600 == r1_1869))) rfl hk) ?_
                    refine aopsS_end (hK217 _ (SatL.norm (n := 0) (h := hl []) (env' := [(10, (bool (r1_1600 == r1_1869)))]) (L' := []) rfl hs_refl ?_))
                    obtain rfl := Option.some.inj H0
                    exact SatL.ret (fnQ_snap [] (bool (r1_1600 == r1_1869)) (bool (r1_1600 == r1_1869)) rfl (Snap.free _ (.sc _)) rfl)
                  ·
                    replace H0 := iteF H0 (by simpa using g236)
                    refine aopsS_off rfl rfl ?_
                    refine aopsS_off rfl rfl ?_
                    refine st (fun _ hk => s_pickF (v := (bool false)) rfl rfl hk) ?_
                    refine st (fun _ hk => s_as (v := (bool false)) rfl hk) ?_
                    refine aopsS_end (hK217 _ (SatL.norm (n := 0) (h := hl []) (env' := [(10, (bool false))]) (L' := []) rfl hs_refl ?_))
                    obtain rfl := Option.some.inj H0
                    exact SatL.ret (fnQ_snap [] (bool false) (bool false) rfl (Snap.free _ (.sc _)) rfl)
                ·
                  replace H0 := iteF H0 (by simpa using g230)
                  refine aopsS_off rfl rfl ?_
                  refine aopsS_off rfl rfl ?_
                  refine st (fun _ hk => s_pickF (v := (bool false)) rfl rfl hk) ?_
                  refine st (fun _ hk => s_mv (v := (bool false)) rfl hk) ?_
                  refine aopsS_off rfl rfl ?_
                  refine aopsS_off rfl rfl ?_
                  refine aopsS_off rfl rfl ?_
                  refine st (fun _ hk => s_pickF (v := (bool false)) rfl rfl hk) ?_
                  refine st (fun _ hk => s_as (v := (bool false)) rfl hk) ?_
                  refine aopsS_end (hK217 _ (SatL.norm (n := 0) (h := hl []) (env' := [(10, (bool false))]) (L' := []) rfl hs_refl ?_))
                  obtain rfl := Option.some.inj H0
                  exact SatL.ret (fnQ_snap [] (bool false) (bool false) rfl (Snap.free _ (.sc _)) rfl)
              ·
                replace H0 := iteF H0 (by simpa using g224)
                refine aopsS_off rfl rfl ?_
                refine aopsS_off rfl rfl ?_
                refine st (fun _ hk => s_pickF (v := (bool false)) rfl rfl hk) ?_
                refine st (fun _ hk => s_mv (v := (bool false)) rfl hk) ?_
                refine aopsS_off rfl rfl ?_
                refine aopsS_off rfl rfl ?_
                refine aopsS_off rfl rfl ?_
                refine st (fun _ hk => s_pickF (v := (bool false)) rfl rfl hk) ?_
                refine st (fun _ hk => s_mv (v := (bool false)) rfl hk) ?_
                refine aopsS_off rfl rfl ?_
                refine aopsS_off rfl rfl ?_
                refine aopsS_off rfl rfl ?_
                refine st (fun _ hk => s_pickF (v := (bool false)) rfl rfl hk) ?_
                refine st (fun _ hk => s_as (v := (bool false)) rfl hk) ?_
                refine aopsS_end (hK217 _ (SatL.norm (n := 0) (h := hl []) (env' := [(10, (bool false))]) (L' := []) rfl hs_refl ?_))
                obtain rfl := Option.some.inj H0
                exact SatL.ret (fnQ_snap [] (bool false) (bool false) rfl (Snap.free _ (.sc _)) rfl)
      ·
        replace H0 := iteT H0 (by simpa using g19)
        refine aopsS_off rfl rfl ?_
        refine aopsS_off rfl rfl ?_
        refine st (fun _ hk => s_pickT (v := (bool true)) rfl rfl hk) ?_
        refine aopsS_end (hK3 _ (SatL.norm (n := 0) (h := hl []) (env' := [(0, (.sl (List.map (sl1 int1) table_343))), (1, (int kind_344)), (2, (int n_345)), (3, (.sl (List.map int1 counts_346))), (4, (.sl (List.map int1 bins_347))), (36, (bool true))]) (L' := []) rfl hs_refl ?_))
        repeat refine SatL.seq ?_
        refine SatL.condT rfl rfl ?_
        repeat refine SatL.seq ?_
        refine SatL.reg [10] [some 10] rfl rfl fun K255 hK255 => ?_
        refine st (fun _ hk => s_as (v := (bool true)) rfl hk) ?_
        refine aopsS_end (hK255 _ (SatL.norm (n := 0) (h := hl []) (env' := [(10, (bool true))]) (L' := []) rfl hs_refl ?_))
        obtain rfl := Option.some.inj H0
        exact SatL.ret (fnQ_snap [] (bool true) (bool true) rfl (Snap.free _ (.sc _)) rfl)
    ·
      replace H0 := iteT H0 (by simpa using g13)
      refine aopsS_off rfl rfl ?_
      refine aopsS_off rfl rfl ?_
      refine st (fun _ hk => s_pickT (v := (bool true)) rfl rfl hk) ?_
      refine st (fun _ hk => s_mv (v := (bool true)) rfl hk) ?_
      refine aopsS_off rfl rfl ?_
      refine aopsS_off rfl rfl ?_
      refine aopsS_off rfl rfl ?_
      refine st (fun _ hk => s_pickT (v := (bool true)) rfl rfl hk) ?_
      refine aopsS_end (hK3 _ (SatL.norm (n := 0) (h := hl []) (env' := [(0, (.sl (List.map (sl1 int1) table_343))), (1, (int kind_344)), (2, (int n_345)), (3, (.sl (List.map int1 counts_346))), (4, (.sl (List.map int1 bins_347))), (36, (bool true))]) (L' := []) rfl hs_refl ?_))
      repeat refine SatL.seq ?_
      refine SatL.condT rfl rfl ?_
      repeat refine SatL.seq ?_
      refine SatL.reg [10] [some 10] rfl rfl fun K260 hK260 => ?_
      refine st (fun _ hk => s_as (v := (bool true)) rfl hk) ?_
      refine aopsS_end (hK260 _ (SatL.norm (n := 0) (h := hl []) (env' := [(10, (bool true))]) (L' := []) rfl hs_refl ?_))
      obtain rfl := Option.some.inj H0
      exact SatL.ret (fnQ_snap [] (bool true) (bool true) rfl (Snap.free _ (.sc _)) rfl)
  ·
    replace H0 := iteT H0 (by simpa using g7)
    refine aopsS_off rfl rfl ?_
    refine aopsS_off rfl rfl ?_
    refine st (fun _ hk => s_pickT (v := (bool true)) rfl rfl hk) ?_
    refine st (fun _ hk => s_mv (v := (bool true)) rfl hk) ?_
    refine aopsS_off rfl rfl ?_
    refine aopsS_off rfl rfl ?_
    refine aopsS_off rfl rfl ?_
    refine st (fun _ hk => s_pickT (v := (bool true)) rfl rfl hk) ?_
    refine st (fun _ hk => s_mv (v := (bool true)) rfl hk) ?_
    refine aopsS_off rfl rfl ?_
    refine aopsS_off rfl rfl ?_
    refine aopsS_off rfl rfl ?_
    refine st (fun _ hk => s_pickT (v := (bool true)) rfl rfl hk) ?_
    refine aopsS_end (hK3 _ (SatL.norm (n := 0) (h := hl []) (env' := [(0, (.sl (List.map (sl1 int1) table_343))), (1, (int kind_344)), (2, (int n_345)), (3, (.sl (List.map int1 counts_346))), (4, (.sl (List.map int1 bins_347))), (36, (bool true))]) (L' := []) rfl hs_refl ?_))
    repeat refine SatL.seq ?_
    refine SatL.condT rfl rfl ?_
    repeat refine SatL.seq ?_
    refine SatL.reg [10] [some 10] rfl rfl fun K267 hK267 => ?_
    refine st (fun _ hk => s_as (v := (bool true)) rfl hk) ?_
    refine aopsS_end (hK267 _ (SatL.norm (n := 0) (h := hl []) (env' := [(10, (bool true))]) (L' := []) rfl hs_refl ?_))
    obtain rfl := Option.some.inj H0
    exact SatL.ret (fnQ_snap [] (bool true) (bool true) rfl (Snap.free _ (.sc _)) rfl)

end Go.Abs
