/- What Go functions do, told by Lean functions: the proofs. -/
import Derived.Test.YtmcfapchpedbgaaSD
import Derived.Test.YtmcfapchpedbgaaSW1a
import Derived.Test.YtmcfapchpedbgaaSF
import Derived.Test.YtmcfapchpedbgaaSQ
set_option linter.unusedSimpArgs false
set_option linter.unusedVariables false
set_option maxRecDepth 10000
set_option maxHeartbeats 2000000
namespace Go.Abs
open Go Go.Proofs

theorem law09_SortChecks_PC {b_1 : Belt} {l_2 : (List Fed)} {readings_3 : (List Int)} {r : Bool} (H0 : law09_SortChecks b_1 l_2 readings_3 = some r) : PC Try.prog 3 [(.ag (Belt.cells b_1)), (.sl (List.map Fed.cells l_2)), (.sl (List.map int1 readings_3))] (· = (bool r)) := by
  unfold law09_SortChecks at H0
  refine PC.of_bodyL [(0, (.ag (Belt.cells b_1))), (1, (.sl (List.map Fed.cells l_2))), (2, (.sl (List.map int1 readings_3)))] Try.func3 rfl rfl (Nat.le_of_ble_eq_true rfl) rfl fun O => ?_
  repeat refine SatL.seq ?_
  refine SatL.reg [1, 2, 3] [some 3, some 6] rfl rfl fun K1 hK1 => ?_
  refine st (fun _ hk => s_box (cs := [(int b_1.Length), (int b_1.Camera), (int b_1.Slow), (.sl (List.map Gate.cells b_1.Gates)), (.sl (List.map int1 b_1.Bins))]) (m := 5) (n' := 1) rfl rfl rfl hk) ?_
  refine st (fun _ hk => s_as (v := (bool false)) rfl hk) ?_
  refine aopsS_end (hK1 _ (SatL.norm (n := 1) (h := hl [(0, (some (.cells 5 25 [[(int b_1.Length), (int b_1.Camera), (int b_1.Slow), (.sl (List.map Gate.cells b_1.Gates)), (.sl (List.map int1 b_1.Bins))]])))]) (env' := [(1, (.sl (List.map Fed.cells l_2))), (2, (.sl (List.map int1 readings_3))), (3, (.own 0 0 0))]) (L' := [(0, (some (.cells 5 25 [[(int b_1.Length), (int b_1.Camera), (int b_1.Slow), (.sl (List.map Gate.cells b_1.Gates)), (.sl (List.map int1 b_1.Bins))]])))]) rfl hs_refl ?_))
  repeat refine SatL.seq ?_
  refine SatL.reg [1, 2, 3, 18] [some 11, some 12, some 13, some 14, some 15, some 16, some 17, some 18] rfl rfl fun K4 hK4 => ?_
  refine st (fun _ hk => s_loadA (cs' := [(int b_1.Length), (int b_1.Camera), (int b_1.Slow), (.sl (List.map Gate.cells b_1.Gates)), (.sl (List.map int1 b_1.Bins))]) agg_25 cells_25 (d_own rfl (hl_self _ _ _) rfl rfl) (Nat.le_of_ble_eq_true rfl) rfl hk) ?_
  refine st (fun _ hk => s_mv (v := (.sl (List.map Fed.cells l_2))) rfl hk) ?_
  obtain ⟨r_15, hr_15, H0⟩ := bindS H0
  refine st (fun _ hk => s_call (avs := [(.ag [(int b_1.Length), (int b_1.Camera), (int b_1.Slow), (.sl (List.map Gate.cells b_1.Gates)), (.sl (List.map int1 b_1.Bins))]), (.sl (List.map Fed.cells l_2))]) rfl rfl rfl (PC.call1 (ref09_Great_PC hr_15) (FreeL.cons (Free.agl (FreeL.cons (.sc _) (FreeL.cons (.sc _) (FreeL.cons (.sc _) (FreeL.cons (Free.slm Gate.fr) (FreeL.cons (Free.slm fr_int1) FreeL.nil)))))) (FreeL.cons (Free.slm Fed.fr) FreeL.nil)) hk)) ?_
  refine st (fun _ hk => s_mv (v := (bool r_15)) rfl hk) ?_
  refine aopsS_split rfl _ rfl (fun g9 => ?_) (fun g9 => ?_)
  ·
    replace H0 := iteF H0 (by simpa using g9)
    refine sx (fun _ hk => s_mv (v := (.sl (List.map int1 readings_3))) rfl hk) ?_
    refine aopsS_on rfl rfl fun _ hK => s_lenSl elem_23 rfl (fun hl11 => hK _ _ _ ?_)
    clear hK
    refine sg rfl rfl (fun _ hk => s_bin rfl rfl (b_gtr hk)) ?_
    refine st (fun _ hk => s_pickF (v := (bool (decide (20 < (List.length readings_3 : Int))))) rfl rfl hk) ?_
    refine aopsS_end (hK4 _ (SatL.norm (n := 1) (h := hl [(0, (some (.cells 5 25 [[(int b_1.Length), (int b_1.Camera), (int b_1.Slow), (.sl (List.map Gate.cells b_1.Gates)), (.sl (List.map int1 b_1.Bins))]])))]) (env' := [(1, (.sl (List.map Fed.cells l_2))), (2, (.sl (List.map int1 readings_3))), (3, (.own 0 0 0)), (18, (bool (decide (20 < (List.length readings_3 : Int)))))]) (L' := [(0, (some (.cells 5 25 [[(int b_1.Length), (int b_1.Camera), (int b_1.Slow), (.sl (List.map Gate.cells b_1.Gates)), (.sl (List.map int1 b_1.Bins))]])))]) rfl hs_refl ?_))
    repeat refine SatL.seq ?_
    refine SatL.condX rfl (fun hc14 => ?_) (fun hc14 => ?_)
    ·
      replace H0 := iteT H0 hc14
      repeat refine SatL.seq ?_
      refine SatL.reg [6] [some 6] rfl rfl fun K15 hK15 => ?_
      refine st (fun _ hk => s_as (v := (bool true)) rfl hk) ?_
      refine aopsS_end (hK15 _ (SatL.norm (n := 1) (h := hl [(0, (some (.cells 5 25 [[(int b_1.Length), (int b_1.Camera), (int b_1.Slow), (.sl (List.map Gate.cells b_1.Gates)), (.sl (List.map int1 b_1.Bins))]])))]) (env' := [(6, (bool true))]) (L' := []) rfl hs_nil ?_))
      obtain rfl := Option.some.inj H0
      exact SatL.ret (fnQ_snap [] (bool true) (bool true) rfl (Snap.free _ (.sc _)) rfl)
    ·
      replace H0 := iteF H0 hc14
      refine SatL.skip ?_
      repeat refine SatL.seq ?_
      refine SatL.reg [1, 2, 3, 7, 8] [some 20, some 21, some 19, some 22, some 23, some 7, some 8] rfl rfl fun K17 hK17 => ?_
      refine st (fun _ hk => s_mv (v := (.sl (List.map int1 readings_3))) rfl hk) ?_
      obtain ⟨⟨r0_82, r1_83⟩, hr0_82, H0⟩ := bindS H0
      replace H0 := un2S H0
      refine st (fun _ hk => s_call (avs := [(.sl (List.map int1 readings_3))]) rfl rfl rfl (PC.call1 (sort_Read_PC hr0_82) (FreeL.cons (Free.slm fr_int1) FreeL.nil) hk)) ?_
      refine st (fun _ hk => s_mv (v := (.tp [(int r0_82), (int r1_83)])) rfl hk) ?_
      refine st (fun _ hk => s_ext (c := (int r0_82)) rfl rfl hk) ?_
      refine st (fun _ hk => s_ext (c := (int r1_83)) rfl rfl hk) ?_
      refine st (fun _ hk => s_as (v := (int r0_82)) rfl hk) ?_
      refine st (fun _ hk => s_as (v := (int r1_83)) rfl hk) ?_
      refine aopsS_end (hK17 _ (SatL.norm (n := 1) (h := hl [(0, (some (.cells 5 25 [[(int b_1.Length), (int b_1.Camera), (int b_1.Slow), (.sl (List.map Gate.cells b_1.Gates)), (.sl (List.map int1 b_1.Bins))]])))]) (env' := [(1, (.sl (List.map Fed.cells l_2))), (2, (.sl (List.map int1 readings_3))), (3, (.own 0 0 0)), (7, (int r0_82)), (8, (int r1_83))]) (L' := [(0, (some (.cells 5 25 [[(int b_1.Length), (int b_1.Camera), (int b_1.Slow), (.sl (List.map Gate.cells b_1.Gates)), (.sl (List.map int1 b_1.Bins))]])))]) rfl hs_refl ?_))
      repeat refine SatL.seq ?_
      refine SatL.reg [1, 3, 7, 8, 9, 10] [some 25, some 26, some 24, some 27, some 28, some 9, some 10] rfl rfl fun K25 hK25 => ?_
      refine st (fun _ hk => s_mv (v := (.sl (List.map int1 readings_3))) rfl hk) ?_
      obtain ⟨⟨r0_140, r1_141⟩, hr0_140, H0⟩ := bindS H0
      replace H0 := un2S H0
      refine st (fun _ hk => s_call (avs := [(.sl (List.map int1 readings_3))]) rfl rfl rfl (PC.call1 (ref09_Read_PC hr0_140) (FreeL.cons (Free.slm fr_int1) FreeL.nil) hk)) ?_
      refine st (fun _ hk => s_mv (v := (.tp [(int r0_140), (int r1_141)])) rfl hk) ?_
      refine st (fun _ hk => s_ext (c := (int r0_140)) rfl rfl hk) ?_
      refine st (fun _ hk => s_ext (c := (int r1_141)) rfl rfl hk) ?_
      refine st (fun _ hk => s_as (v := (int r0_140)) rfl hk) ?_
      refine st (fun _ hk => s_as (v := (int r1_141)) rfl hk) ?_
      refine aopsS_end (hK25 _ (SatL.norm (n := 1) (h := hl [(0, (some (.cells 5 25 [[(int b_1.Length), (int b_1.Camera), (int b_1.Slow), (.sl (List.map Gate.cells b_1.Gates)), (.sl (List.map int1 b_1.Bins))]])))]) (env' := [(1, (.sl (List.map Fed.cells l_2))), (3, (.own 0 0 0)), (7, (int r0_82)), (8, (int r1_83)), (9, (int r0_140)), (10, (int r1_141))]) (L' := [(0, (some (.cells 5 25 [[(int b_1.Length), (int b_1.Camera), (int b_1.Slow), (.sl (List.map Gate.cells b_1.Gates)), (.sl (List.map int1 b_1.Bins))]])))]) rfl hs_refl ?_))
      repeat refine SatL.seq ?_
      refine SatL.draw [6] [] [] [some 29, some 30, some 31, some 32, some 33, some 34, some 35, some 36, some 37, some 38, some 39, some 40, some 41, some 42, some 43, some 44, some 45, some 46, some 47, some 48, some 49, some 50, some 6] rfl (by kernel_rfl) (by kernel_rfl) rfl rfl fun K33 hK33 => ?_
      refine dd_step (ds_r0 _ rfl rfl (fun _ hK => s_loadA (cs' := [(int b_1.Length), (int b_1.Camera), (int b_1.Slow), (.sl (List.map Gate.cells b_1.Gates)), (.sl (List.map int1 b_1.Bins))]) agg_25 cells_25 (d_own rfl (hl_self _ _ _) rfl rfl) (Nat.le_of_ble_eq_true rfl) rfl hK) ?_)
      obtain ⟨r_175, hr_175, H0⟩ := bindS H0
      refine dd_step (ds_r0 _ rfl rfl (fun _ hK => s_call (avs := [(.ag [(int b_1.Length), (int b_1.Camera), (int b_1.Slow), (.sl (List.map Gate.cells b_1.Gates)), (.sl (List.map int1 b_1.Bins))])]) rfl rfl rfl (PC.call1 (sort_CheckBelt_PC hr_175) (FreeL.cons (Free.agl (FreeL.cons (.sc _) (FreeL.cons (.sc _) (FreeL.cons (.sc _) (FreeL.cons (Free.slm Gate.fr) (FreeL.cons (Free.slm fr_int1) FreeL.nil)))))) FreeL.nil) hK)) ?_)
      refine dd_step (ds_r0 _ rfl rfl (fun _ hK => s_loadA (cs' := [(int b_1.Length), (int b_1.Camera), (int b_1.Slow), (.sl (List.map Gate.cells b_1.Gates)), (.sl (List.map int1 b_1.Bins))]) agg_25 cells_25 (d_own rfl (hl_self _ _ _) rfl rfl) (Nat.le_of_ble_eq_true rfl) rfl hK) ?_)
      obtain ⟨r_256, hr_256, H0⟩ := bindS H0
      refine dd_step (ds_r0 _ rfl rfl (fun _ hK => s_call (avs := [(.ag [(int b_1.Length), (int b_1.Camera), (int b_1.Slow), (.sl (List.map Gate.cells b_1.Gates)), (.sl (List.map int1 b_1.Bins))])]) rfl rfl rfl (PC.call1 (ref09_CheckBelt_PC hr_256) (FreeL.cons (Free.agl (FreeL.cons (.sc _) (FreeL.cons (.sc _) (FreeL.cons (.sc _) (FreeL.cons (Free.slm Gate.fr) (FreeL.cons (Free.slm fr_int1) FreeL.nil)))))) FreeL.nil) hK)) ?_)
      refine dd_step (ds_r0 _ rfl rfl (fun _ hK => s_bin rfl rfl (b_eql hK)) ?_)
      refine dd_step (ds_r0 _ rfl rfl (fun _ hK => s_mv (v := (bool (r_175 == r_256))) rfl hK) ?_)
      refine dd_split rfl _ rfl (fun g40 => ?_) (fun g40 => ?_)
      ·
        replace H0 := iteT H0 (by simpa using g40)
        refine ds_r0 _ rfl rfl (fun _ hK => s_mv (v := (.sl (List.map Fed.cells l_2))) rfl hK) ?_
        obtain ⟨r_290, hr_290, H0⟩ := bindS H0
        refine dd_on rfl rfl (ds_r0 _ rfl rfl (fun _ hK => s_call (avs := [(.sl (List.map Fed.cells l_2))]) rfl rfl rfl (PC.call1 (sort_CheckFed_PC hr_290) (FreeL.cons (Free.slm Fed.fr) FreeL.nil) hK)) ?_)
        refine dd_on rfl rfl (ds_r0 _ rfl rfl (fun _ hK => s_mv (v := (.sl (List.map Fed.cells l_2))) rfl hK) ?_)
        obtain ⟨r_342, hr_342, H0⟩ := bindS H0
        refine dd_on rfl rfl (ds_r0 _ rfl rfl (fun _ hK => s_call (avs := [(.sl (List.map Fed.cells l_2))]) rfl rfl rfl (PC.call1 (ref09_CheckFed_PC hr_342) (FreeL.cons (Free.slm Fed.fr) FreeL.nil) hK)) ?_)
        refine dd_on rfl rfl (ds_r0 _ rfl rfl (fun _ hK => s_bin rfl rfl (b_eql hK)) ?_)
        refine dd_step (ds_r0 _ rfl rfl (fun _ hK => s_pickT (v := (bool (r_290 == r_342))) rfl rfl hK) ?_)
        refine dd_step (ds_r0 _ rfl rfl (fun _ hK => s_mv (v := (bool (r_290 == r_342))) rfl hK) ?_)
        refine dd_split rfl _ rfl (fun g48 => ?_) (fun g48 => ?_)
        ·
          replace H0 := iteT H0 (by simpa using g48)
          refine ds_r0 _ rfl rfl (fun _ hK => s_mv (v := (int r0_82)) rfl hK) ?_
          refine dd_on rfl rfl (ds_r0 _ rfl rfl (fun _ hK => s_mv (v := (int r0_140)) rfl hK) ?_)
          refine dd_on rfl rfl (ds_r0 _ rfl rfl (fun _ hK => s_bin rfl rfl (b_eql hK)) ?_)
          refine dd_step (ds_r0 _ rfl rfl (fun _ hK => s_pickT (v := (bool (r0_82 == r0_140))) rfl rfl hK) ?_)
          refine dd_step (ds_r0 _ rfl rfl (fun _ hK => s_mv (v := (bool (r0_82 == r0_140))) rfl hK) ?_)
          refine dd_split rfl _ rfl (fun g54 => ?_) (fun g54 => ?_)
          ·
            replace H0 := iteT H0 (by simpa using g54)
            refine ds_r0 _ rfl rfl (fun _ hK => s_mv (v := (int r1_83)) rfl hK) ?_
            refine dd_on rfl rfl (ds_r0 _ rfl rfl (fun _ hK => s_mv (v := (int r1_141)) rfl hK) ?_)
            refine dd_on rfl rfl (ds_r0 _ rfl rfl (fun _ hK => s_bin rfl rfl (b_eql hK)) ?_)
            refine dd_step (ds_r0 _ rfl rfl (fun _ hK => s_pickT (v := (bool (r1_83 == r1_141))) rfl rfl hK) ?_)
            refine dd_step (ds_r0 _ rfl rfl (fun _ hK => s_as (v := (bool (r1_83 == r1_141))) rfl hK) ?_)
            refine dd_end rc_nil (hK33 _ (SatL.norm (n := 1) (h := hl [(0, (some (.cells 5 25 [[(int b_1.Length), (int b_1.Camera), (int b_1.Slow), (.sl (List.map Gate.cells b_1.Gates)), (.sl (List.map int1 b_1.Bins))]])))]) (env' := [(6, (bool (r1_83 == r1_141)))]) (L' := []) rfl hs_nil ?_))
            obtain rfl := Option.some.inj H0
            exact SatL.ret (fnQ_snap [] (bool (r1_83 == r1_141)) (bool (r1_83 == r1_141)) rfl (Snap.free _ (.sc _)) rfl)
          ·
            replace H0 := iteF H0 (by simpa using g54)
            refine dd_off rfl rfl ?_
            refine dd_off rfl rfl ?_
            refine dd_step (ds_r0 _ rfl rfl (fun _ hK => s_pickF (v := (bool false)) rfl rfl hK) ?_)
            refine dd_step (ds_r0 _ rfl rfl (fun _ hK => s_as (v := (bool false)) rfl hK) ?_)
            refine dd_end rc_nil (hK33 _ (SatL.norm (n := 1) (h := hl [(0, (some (.cells 5 25 [[(int b_1.Length), (int b_1.Camera), (int b_1.Slow), (.sl (List.map Gate.cells b_1.Gates)), (.sl (List.map int1 b_1.Bins))]])))]) (env' := [(6, (bool false))]) (L' := []) rfl hs_nil ?_))
            obtain rfl := Option.some.inj H0
            exact SatL.ret (fnQ_snap [] (bool false) (bool false) rfl (Snap.free _ (.sc _)) rfl)
        ·
          replace H0 := iteF H0 (by simpa using g48)
          refine dd_off rfl rfl ?_
          refine dd_off rfl rfl ?_
          refine dd_step (ds_r0 _ rfl rfl (fun _ hK => s_pickF (v := (bool false)) rfl rfl hK) ?_)
          refine dd_step (ds_r0 _ rfl rfl (fun _ hK => s_mv (v := (bool false)) rfl hK) ?_)
          refine dd_off rfl rfl ?_
          refine dd_off rfl rfl ?_
          refine dd_off rfl rfl ?_
          refine dd_step (ds_r0 _ rfl rfl (fun _ hK => s_pickF (v := (bool false)) rfl rfl hK) ?_)
          refine dd_step (ds_r0 _ rfl rfl (fun _ hK => s_as (v := (bool false)) rfl hK) ?_)
          refine dd_end rc_nil (hK33 _ (SatL.norm (n := 1) (h := hl [(0, (some (.cells 5 25 [[(int b_1.Length), (int b_1.Camera), (int b_1.Slow), (.sl (List.map Gate.cells b_1.Gates)), (.sl (List.map int1 b_1.Bins))]])))]) (env' := [(6, (bool false))]) (L' := []) rfl hs_nil ?_))
          obtain rfl := Option.some.inj H0
          exact SatL.ret (fnQ_snap [] (bool false) (bool false) rfl (Snap.free _ (.sc _)) rfl)
      ·
        replace H0 := iteF H0 (by simpa using g40)
        refine dd_off rfl rfl ?_
        refine dd_off rfl rfl ?_
        refine dd_off rfl rfl ?_
        refine dd_off rfl rfl ?_
        refine dd_step (ds_r0 _ rfl rfl (fun _ hK => s_pickF (v := (bool false)) rfl rfl hK) ?_)
        refine dd_step (ds_r0 _ rfl rfl (fun _ hK => s_mv (v := (bool false)) rfl hK) ?_)
        refine dd_off rfl rfl ?_
        refine dd_off rfl rfl ?_
        refine dd_off rfl rfl ?_
        refine dd_step (ds_r0 _ rfl rfl (fun _ hK => s_pickF (v := (bool false)) rfl rfl hK) ?_)
        refine dd_step (ds_r0 _ rfl rfl (fun _ hK => s_mv (v := (bool false)) rfl hK) ?_)
        refine dd_off rfl rfl ?_
        refine dd_off rfl rfl ?_
        refine dd_off rfl rfl ?_
        refine dd_step (ds_r0 _ rfl rfl (fun _ hK => s_pickF (v := (bool false)) rfl rfl hK) ?_)
        refine dd_step (ds_r0 _ rfl rfl (fun _ hK => s_as (v := (bool false)) rfl hK) ?_)
        refine dd_end rc_nil (hK33 _ (SatL.norm (n := 1) (h := hl [(0, (some (.cells 5 25 [[(int b_1.Length), (int b_1.Camera), (int b_1.Slow), (.sl (List.map Gate.cells b_1.Gates)), (.sl (List.map int1 b_1.Bins))]])))]) (env' := [(6, (bool false))]) (L' := []) rfl hs_nil ?_))
        obtain rfl := Option.some.inj H0
        exact SatL.ret (fnQ_snap [] (bool false) (bool false) rfl (Snap.free _ (.sc _)) rfl)
  ·
    replace H0 := iteT H0 (by simpa using g9)
    refine aopsS_off rfl rfl ?_
    refine aopsS_off rfl rfl ?_
    refine st (fun _ hk => s_pickT (v := (bool true)) rfl rfl hk) ?_
    refine aopsS_end (hK4 _ (SatL.norm (n := 1) (h := hl [(0, (some (.cells 5 25 [[(int b_1.Length), (int b_1.Camera), (int b_1.Slow), (.sl (List.map Gate.cells b_1.Gates)), (.sl (List.map int1 b_1.Bins))]])))]) (env' := [(1, (.sl (List.map Fed.cells l_2))), (2, (.sl (List.map int1 readings_3))), (3, (.own 0 0 0)), (18, (bool true))]) (L' := [(0, (some (.cells 5 25 [[(int b_1.Length), (int b_1.Camera), (int b_1.Slow), (.sl (List.map Gate.cells b_1.Gates)), (.sl (List.map int1 b_1.Bins))]])))]) rfl hs_refl ?_))
    repeat refine SatL.seq ?_
    refine SatL.condT rfl rfl ?_
    repeat refine SatL.seq ?_
    refine SatL.reg [6] [some 6] rfl rfl fun K73 hK73 => ?_
    refine st (fun _ hk => s_as (v := (bool true)) rfl hk) ?_
    refine aopsS_end (hK73 _ (SatL.norm (n := 1) (h := hl [(0, (some (.cells 5 25 [[(int b_1.Length), (int b_1.Camera), (int b_1.Slow), (.sl (List.map Gate.cells b_1.Gates)), (.sl (List.map int1 b_1.Bins))]])))]) (env' := [(6, (bool true))]) (L' := []) rfl hs_nil ?_))
    obtain rfl := Option.some.inj H0
    exact SatL.ret (fnQ_snap [] (bool true) (bool true) rfl (Snap.free _ (.sc _)) rfl)

end Go.Abs
