/- What Go functions do, told by Lean functions: the proofs. -/
import Derived.Test.YtmcfapchpedbgaaSD
import Derived.Test.YtmcfapchpedbgaaSW1b
import Derived.Test.YtmcfapchpedbgaaSF
import Derived.Test.YtmcfapchpedbgaaSQ
set_option linter.unusedSimpArgs false
set_option linter.unusedVariables false
set_option maxRecDepth 10000
set_option maxHeartbeats 2000000
namespace Go.Abs
open Go Go.Proofs

theorem law09_wide_PC {table_348 : (List (List Int))} {r : Bool} (H0 : law09_wide table_348 = some r) : PC Try.prog 22 [(.sl (List.map (sl1 int1) table_348))] (· = (bool r)) := by
  unfold law09_wide at H0
  refine PC.of_bodyL [(0, (.sl (List.map (sl1 int1) table_348)))] Try.func22 rfl rfl (Nat.le_of_ble_eq_true rfl) rfl fun O => ?_
  repeat refine SatL.seq ?_
  refine SatL.reg [0] [some 2] rfl rfl fun K1 hK1 => ?_
  refine st (fun _ hk => s_as (v := (bool false)) rfl hk) ?_
  refine aopsS_end (hK1 _ (SatL.norm (n := 0) (h := hl []) (env' := [(0, (.sl (List.map (sl1 int1) table_348)))]) (L' := []) rfl hs_refl ?_))
  repeat refine SatL.seq ?_
  refine SatL.reg [0, 5, 6, 7] [some 5, some 6, some 7] rfl rfl fun K3 hK3 => ?_
  refine st (fun _ hk => s_mv (v := (.sl (List.map (sl1 int1) table_348))) rfl hk) ?_
  refine aopsS_step fun _ hK => s_lenSl elem_38 rfl (fun hl5 => hK _ _ _ ?_)
  clear hK
  refine st (fun _ hk => s_mv (v := (int 0)) rfl hk) ?_
  refine aopsS_end (hK3 _ (SatL.norm (n := 0) (h := hl []) (env' := [(0, (.sl (List.map (sl1 int1) table_348))), (5, (.sl (List.map (sl1 int1) table_348))), (6, (int (List.length table_348 : Int))), (7, (int 0))]) (L' := []) rfl hs_refl ?_))
  repeat refine SatL.seq ?_
  obtain ⟨o_353, H1, H0⟩ := bindS H0
  refine SatL.mid [0] (fun s_ => (Sum.inr ()) = o_353 ∧ StLe s_ [(0, (.sl (List.map (sl1 int1) table_348)))] [] 0) ?_ ?_
  ·
    repeat refine SatL.seq ?_
    refine SatL.block ?_
    repeat refine SatL.seq ?_
    refine SatL.loopK [0, 5, 6, 7] (fun k0 s_ => ∃ (x_355 : Int), StLe s_ [(0, (.sl (List.map (sl1 int1) table_348))), (5, (.sl (List.map (sl1 int1) table_348))), (6, (int (List.length table_348 : Int))), (7, (int x_355))] [] 0 ∧ 0 ≤ x_355 ∧ k0 = Int.toNat ((List.length table_348 : Int) - x_355) ∧ law09_wide_L0 table_348 k0 x_355 = some o_353) (Int.toNat ((List.length table_348 : Int) - 0)) ?_ ?_
    · exact ⟨0, (StLe.of [] 0 rfl hs_nil (Nat.le_refl _)), (by omega), rfl, H1⟩
    rintro k0 s_ ⟨x_355, hs_, _, hk_, H1⟩
    refine SatL.le hs_ ?_
    clear hs_
    rcases k0 with _ | k0
    ·
      rw [law09_wide_L0.eq_1] at H1
      repeat refine SatL.seq ?_
      refine SatL.reg [0, 5, 6, 7, 8] [some 8] rfl rfl fun K92 hK92 => ?_
      refine st (fun _ hk => s_bin rfl rfl (b_lss hk)) ?_
      refine aopsS_end (hK92 _ (SatL.norm (n := 0) (h := hl []) (env' := [(0, (.sl (List.map (sl1 int1) table_348))), (5, (.sl (List.map (sl1 int1) table_348))), (6, (int (List.length table_348 : Int))), (7, (int x_355)), (8, (bool (decide (x_355 < (List.length table_348 : Int)))))]) (L' := []) rfl hs_refl ?_))
      repeat refine SatL.seq ?_
      refine SatL.condF rfl (decide_eq_false (by omega)) ?_
      refine SatL.exit ?_
      simp only [thenQ, blockQ, if_true, reduceIte, Nat.reduceEqDiff]
      obtain rfl := Option.some.inj H1
      exact SatL.nil (thenN ⟨rfl, (StLe.of [] 0 rfl hs_nil (Nat.le_refl _))⟩)
    ·
      rw [law09_wide_L0.eq_2] at H1
      repeat refine SatL.seq ?_
      refine SatL.reg [0, 5, 6, 7, 8] [some 8] rfl rfl fun K94 hK94 => ?_
      refine st (fun _ hk => s_bin rfl rfl (b_lss hk)) ?_
      refine aopsS_end (hK94 _ (SatL.norm (n := 0) (h := hl []) (env' := [(0, (.sl (List.map (sl1 int1) table_348))), (5, (.sl (List.map (sl1 int1) table_348))), (6, (int (List.length table_348 : Int))), (7, (int x_355)), (8, (bool (decide (x_355 < (List.length table_348 : Int)))))]) (L' := []) rfl hs_refl ?_))
      repeat refine SatL.seq ?_
      refine SatL.condT rfl (decide_eq_true (by omega)) ?_
      have hlt96 : (x_355 < (List.length table_348 : Int)) := by omega
      refine SatL.skip ?_
      repeat refine SatL.seq ?_
      refine SatL.block ?_
      repeat refine SatL.seq ?_
      refine SatL.reg [0, 4, 5, 6, 7] [some 9, some 10, some 4] rfl rfl fun K97 hK97 => ?_
      obtain ⟨e_357, he_357, H1⟩ := bindS H1
      refine st (fun _ hk => s_ixSl elem_38 rfl rfl he_357 cells_23 rfl (by decide) hk) ?_
      refine st (fun _ hk => s_load1 (c := (.sl (List.map int1 e_357))) agg_23 (d_fp rfl) rfl hk) ?_
      refine st (fun _ hk => s_as (v := (.sl (List.map int1 e_357))) rfl hk) ?_
      refine aopsS_end (hK97 _ (SatL.norm (n := 0) (h := hl []) (env' := [(0, (.sl (List.map (sl1 int1) table_348))), (4, (.sl (List.map int1 e_357))), (5, (.sl (List.map (sl1 int1) table_348))), (6, (int (List.length table_348 : Int))), (7, (int x_355))]) (L' := []) rfl hs_refl ?_))
      repeat refine SatL.seq ?_
      refine SatL.reg [0, 5, 6, 7, 13] [some 11, some 12, some 13] rfl rfl fun K101 hK101 => ?_
      refine st (fun _ hk => s_mv (v := (.sl (List.map int1 e_357))) rfl hk) ?_
      refine aopsS_step fun _ hK => s_lenSl elem_23 rfl (fun hl103 => hK _ _ _ ?_)
      clear hK
      refine st (fun _ hk => s_bin rfl rfl (b_gtr hk)) ?_
      refine aopsS_end (hK101 _ (SatL.norm (n := 0) (h := hl []) (env' := [(0, (.sl (List.map (sl1 int1) table_348))), (5, (.sl (List.map (sl1 int1) table_348))), (6, (int (List.length table_348 : Int))), (7, (int x_355)), (13, (bool (decide (12 < (List.length e_357 : Int)))))]) (L' := []) rfl hs_refl ?_))
      repeat refine SatL.seq ?_
      refine SatL.condX rfl (fun hc105 => ?_) (fun hc105 => ?_)
      ·
        replace H1 := iteT H1 hc105
        repeat refine SatL.seq ?_
        refine SatL.reg [2] [some 2] rfl rfl fun K106 hK106 => ?_
        refine st (fun _ hk => s_as (v := (bool true)) rfl hk) ?_
        refine aopsS_end (hK106 _ (SatL.norm (n := 0) (h := hl []) (env' := [(2, (bool true))]) (L' := []) rfl hs_refl ?_))
        obtain rfl := Option.some.inj H1
        obtain rfl := Option.some.inj H0
        exact SatL.ret (fnQ_snap [] (bool true) (bool true) rfl (Snap.free _ (.sc _)) rfl)
      ·
        replace H1 := iteF H1 hc105
        refine SatL.skip ?_
        refine SatL.nil (blockN (thenN ?_))
        repeat refine SatL.seq ?_
        refine SatL.rege [some 14, some 7] rfl rfl fun K108 hK108 => ?_
        refine st (fun _ hk => s_bin rfl rfl (b_add64 hk)) ?_
        refine st (fun _ hk => s_mv (v := (int (w64 (x_355 + 1)))) rfl hk) ?_
        refine aopsS_end (hK108 _ ?_)
        have hw111 : w64 (x_355 + 1) = x_355 + 1 := w64_id (by omega) (by omega)
        exact (thenN ⟨k0, ⟨(w64 (x_355 + 1)), (StLe.of [] 0 rfl hs_nil (Nat.le_refl _)), (by omega), (by rw [hw111]; omega), (Eq.mpr (congrArg (fun q_ => law09_wide_L0 table_348 k0 q_ = some o_353) hw111) H1)⟩, by omega⟩)
  ·
    rintro s_ ⟨rfl, hs_⟩
    refine SatL.le hs_ ?_
    clear hs_
    replace H0 := sumun0S H0
    repeat refine SatL.seq ?_
    refine SatL.reg [2] [some 15, some 16, some 17, some 2] rfl rfl fun K112 hK112 => ?_
    refine st (fun _ hk => s_mv (v := (.sl (List.map (sl1 int1) table_348))) rfl hk) ?_
    refine aopsS_step fun _ hK => s_lenSl elem_38 rfl (fun hl114 => hK _ _ _ ?_)
    clear hK
    refine st (fun _ hk => s_bin rfl rfl (b_gtr hk)) ?_
    refine st (fun _ hk => s_as (v := (bool (decide (10 < (List.length table_348 : Int))))) rfl hk) ?_
    refine aopsS_end (hK112 _ (SatL.norm (n := 0) (h := hl []) (env' := [(2, (bool (decide (10 < (List.length table_348 : Int)))))]) (L' := []) rfl hs_refl ?_))
    obtain rfl := Option.some.inj H0
    exact SatL.ret (fnQ_snap [] (bool (decide (10 < (List.length table_348 : Int)))) (bool (decide (10 < (List.length table_348 : Int)))) rfl (Snap.free _ (.sc _)) rfl)

theorem law09_heavy_PC {table_359 : (List (List Int))} {n_360 : Int} {r : Bool} (H0 : law09_heavy table_359 n_360 = some r) : PC Try.prog 23 [(.sl (List.map (sl1 int1) table_359)), (int n_360)] (· = (bool r)) := by
  unfold law09_heavy at H0
  refine PC.of_bodyL [(0, (.sl (List.map (sl1 int1) table_359))), (1, (int n_360))] Try.func23 rfl rfl (Nat.le_of_ble_eq_true rfl) rfl fun O => ?_
  repeat refine SatL.seq ?_
  refine SatL.reg [0, 1] [some 4] rfl rfl fun K1 hK1 => ?_
  refine st (fun _ hk => s_as (v := (bool false)) rfl hk) ?_
  refine aopsS_end (hK1 _ (SatL.norm (n := 0) (h := hl []) (env' := [(0, (.sl (List.map (sl1 int1) table_359))), (1, (int n_360))]) (L' := []) rfl hs_refl ?_))
  repeat refine SatL.seq ?_
  refine SatL.reg [4] [some 5, some 6, some 7, some 8, some 9, some 10, some 11, some 4] rfl rfl fun K3 hK3 => ?_
  refine st (fun _ hk => s_mv (v := (.sl (List.map (sl1 int1) table_359))) rfl hk) ?_
  refine aopsS_step fun _ hK => s_lenSl elem_38 rfl (fun hl5 => hK _ _ _ ?_)
  clear hK
  refine st (fun _ hk => s_bin rfl rfl (b_gtr hk)) ?_
  refine st (fun _ hk => s_mv (v := (bool (decide (4 < (List.length table_359 : Int))))) rfl hk) ?_
  refine aopsS_split rfl _ rfl (fun g8 => ?_) (fun g8 => ?_)
  ·
    replace H0 := iteT H0 (by simpa using g8)
    refine sx (fun _ hk => s_mv (v := (int n_360)) rfl hk) ?_
    refine sg rfl rfl (fun _ hk => s_bin rfl rfl (b_gtr hk)) ?_
    refine st (fun _ hk => s_pickT (v := (bool (decide (3 < n_360)))) rfl rfl hk) ?_
    refine st (fun _ hk => s_as (v := (bool (decide (3 < n_360)))) rfl hk) ?_
    refine aopsS_end (hK3 _ (SatL.norm (n := 0) (h := hl []) (env' := [(4, (bool (decide (3 < n_360))))]) (L' := []) rfl hs_refl ?_))
    obtain rfl := Option.some.inj H0
    exact SatL.ret (fnQ_snap [] (bool (decide (3 < n_360))) (bool (decide (3 < n_360))) rfl (Snap.free _ (.sc _)) rfl)
  ·
    replace H0 := iteF H0 (by simpa using g8)
    refine aopsS_off rfl rfl ?_
    refine st (fun _ hk => s_pickF (v := (bool false)) rfl rfl hk) ?_
    refine st (fun _ hk => s_as (v := (bool false)) rfl hk) ?_
    refine aopsS_end (hK3 _ (SatL.norm (n := 0) (h := hl []) (env' := [(4, (bool false))]) (L' := []) rfl hs_refl ?_))
    obtain rfl := Option.some.inj H0
    exact SatL.ret (fnQ_snap [] (bool false) (bool false) rfl (Snap.free _ (.sc _)) rfl)

theorem sort_CheckTable_PC {table_365 : (List (List Int))} {r : Int} (H0 : sort_CheckTable table_365 = some r) : PC Try.prog 28 [(.sl (List.map (sl1 int1) table_365))] (· = (int r)) := by
  unfold sort_CheckTable at H0
  refine PC.of_bodyL [(0, (.sl (List.map (sl1 int1) table_365)))] Try.func28 rfl rfl (Nat.le_of_ble_eq_true rfl) rfl fun O => ?_
  repeat refine SatL.seq ?_
  refine SatL.reg [0] [some 2] rfl rfl fun K1 hK1 => ?_
  refine st (fun _ hk => s_as (v := (int 0)) rfl hk) ?_
  refine aopsS_end (hK1 _ (SatL.norm (n := 0) (h := hl []) (env' := [(0, (.sl (List.map (sl1 int1) table_365)))]) (L' := []) rfl hs_refl ?_))
  repeat refine SatL.seq ?_
  refine SatL.reg [0, 12] [some 8, some 9, some 10, some 11, some 12] rfl rfl fun K3 hK3 => ?_
  refine st (fun _ hk => s_mv (v := (.sl (List.map (sl1 int1) table_365))) rfl hk) ?_
  refine aopsS_step fun _ hK => s_lenSl elem_38 rfl (fun hl5 => hK _ _ _ ?_)
  clear hK
  refine st (fun _ hk => s_bslF (es := [[(int (List.length table_365 : Int))]]) (es' := List.map int1 [(List.length table_365 : Int)]) elem_23 zero_3 rfl (by decide) (by decide) rfl rfl hk) ?_
  obtain ⟨r_366, hr_366, H0⟩ := bindS H0
  refine st (fun _ hk => s_call (avs := [(int 1), (int 8), (.sl (List.map int1 ([(List.length table_365 : Int)])))]) rfl rfl rfl (PC.call1 (sort_from_PC hr_366) (FreeL.cons (.sc _) (FreeL.cons (.sc _) (FreeL.cons (Free.slm fr_int1) FreeL.nil))) hk)) ?_
  refine st (fun _ hk => s_not rfl hk) ?_
  refine aopsS_end (hK3 _ (SatL.norm (n := 0) (h := hl []) (env' := [(0, (.sl (List.map (sl1 int1) table_365))), (12, (bool (!r_366)))]) (L' := []) rfl hs_refl ?_))
  repeat refine SatL.seq ?_
  refine SatL.condX rfl (fun hc9 => ?_) (fun hc9 => ?_)
  ·
    replace H0 := iteT H0 hc9
    repeat refine SatL.seq ?_
    refine SatL.reg [2] [some 2] rfl rfl fun K10 hK10 => ?_
    refine st (fun _ hk => s_as (v := (int 8)) rfl hk) ?_
    refine aopsS_end (hK10 _ (SatL.norm (n := 0) (h := hl []) (env' := [(2, (int 8))]) (L' := []) rfl hs_refl ?_))
    obtain rfl := Option.some.inj H0
    exact SatL.ret (fnQ_snap [] (int 8) (int 8) rfl (Snap.free _ (.sc _)) rfl)
  ·
    replace H0 := iteF H0 hc9
    refine SatL.skip ?_
    repeat refine SatL.seq ?_
    refine SatL.reg [0, 13, 14, 15] [some 13, some 14, some 15] rfl rfl fun K12 hK12 => ?_
    refine st (fun _ hk => s_mv (v := (.sl (List.map (sl1 int1) table_365))) rfl hk) ?_
    refine aopsS_step fun _ hK => s_lenSl elem_38 rfl (fun hl14 => hK _ _ _ ?_)
    clear hK
    refine st (fun _ hk => s_mv (v := (int 0)) rfl hk) ?_
    refine aopsS_end (hK12 _ (SatL.norm (n := 0) (h := hl []) (env' := [(0, (.sl (List.map (sl1 int1) table_365))), (13, (.sl (List.map (sl1 int1) table_365))), (14, (int (List.length table_365 : Int))), (15, (int 0))]) (L' := []) rfl hs_refl ?_))
    repeat refine SatL.seq ?_
    obtain ⟨o_406, H1, H0⟩ := bindS H0
    refine SatL.mid [] (fun s_ => (Sum.inr ()) = o_406 ∧ StLe s_ [] [] 0) ?_ ?_
    ·
      repeat refine SatL.seq ?_
      refine SatL.block ?_
      repeat refine SatL.seq ?_
      refine SatL.loopK [0, 13, 14, 15] (fun k0 s_ => ∃ (x_419 : Int), StLe s_ [(0, (.sl (List.map (sl1 int1) table_365))), (13, (.sl (List.map (sl1 int1) table_365))), (14, (int (List.length table_365 : Int))), (15, (int x_419))] [] 0 ∧ 0 ≤ x_419 ∧ k0 = Int.toNat ((List.length table_365 : Int) - x_419) ∧ sort_CheckTable_L0 table_365 k0 x_419 = some o_406) (Int.toNat ((List.length table_365 : Int) - 0)) ?_ ?_
      · exact ⟨0, (StLe.of [] 0 rfl hs_nil (Nat.le_refl _)), (by omega), rfl, H1⟩
      rintro k0 s_ ⟨x_419, hs_, _, hk_, H1⟩
      refine SatL.le hs_ ?_
      clear hs_
      rcases k0 with _ | k0
      ·
        rw [sort_CheckTable_L0.eq_1] at H1
        repeat refine SatL.seq ?_
        refine SatL.reg [0, 13, 14, 15, 16] [some 16] rfl rfl fun K743 hK743 => ?_
        refine st (fun _ hk => s_bin rfl rfl (b_lss hk)) ?_
        refine aopsS_end (hK743 _ (SatL.norm (n := 0) (h := hl []) (env' := [(0, (.sl (List.map (sl1 int1) table_365))), (13, (.sl (List.map (sl1 int1) table_365))), (14, (int (List.length table_365 : Int))), (15, (int x_419)), (16, (bool (decide (x_419 < (List.length table_365 : Int)))))]) (L' := []) rfl hs_refl ?_))
        repeat refine SatL.seq ?_
        refine SatL.condF rfl (decide_eq_false (by omega)) ?_
        refine SatL.exit ?_
        simp only [thenQ, blockQ, if_true, reduceIte, Nat.reduceEqDiff]
        obtain rfl := Option.some.inj H1
        exact SatL.nil (thenN ⟨rfl, (StLe.of [] 0 rfl hs_nil (Nat.le_refl _))⟩)
      ·
        rw [sort_CheckTable_L0.eq_2] at H1
        repeat refine SatL.seq ?_
        refine SatL.reg [0, 13, 14, 15, 16] [some 16] rfl rfl fun K745 hK745 => ?_
        refine st (fun _ hk => s_bin rfl rfl (b_lss hk)) ?_
        refine aopsS_end (hK745 _ (SatL.norm (n := 0) (h := hl []) (env' := [(0, (.sl (List.map (sl1 int1) table_365))), (13, (.sl (List.map (sl1 int1) table_365))), (14, (int (List.length table_365 : Int))), (15, (int x_419)), (16, (bool (decide (x_419 < (List.length table_365 : Int)))))]) (L' := []) rfl hs_refl ?_))
        repeat refine SatL.seq ?_
        refine SatL.condT rfl (decide_eq_true (by omega)) ?_
        have hlt747 : (x_419 < (List.length table_365 : Int)) := by omega
        refine SatL.skip ?_
        repeat refine SatL.seq ?_
        refine SatL.block ?_
        repeat refine SatL.seq ?_
        refine SatL.reg [0, 4, 13, 14, 15] [some 17, some 18, some 4] rfl rfl fun K748 hK748 => ?_
        obtain ⟨e_432, he_432, H1⟩ := bindS H1
        refine st (fun _ hk => s_ixSl elem_38 rfl rfl he_432 cells_23 rfl (by decide) hk) ?_
        refine st (fun _ hk => s_load1 (c := (.sl (List.map int1 e_432))) agg_23 (d_fp rfl) rfl hk) ?_
        refine st (fun _ hk => s_as (v := (.sl (List.map int1 e_432))) rfl hk) ?_
        refine aopsS_end (hK748 _ (SatL.norm (n := 0) (h := hl []) (env' := [(0, (.sl (List.map (sl1 int1) table_365))), (4, (.sl (List.map int1 e_432))), (13, (.sl (List.map (sl1 int1) table_365))), (14, (int (List.length table_365 : Int))), (15, (int x_419))]) (L' := []) rfl hs_refl ?_))
        repeat refine SatL.seq ?_
        refine SatL.reg [0, 4, 13, 14, 15, 29] [some 19, some 20, some 21, some 22, some 23, some 24, some 25, some 26, some 27, some 28, some 29] rfl rfl fun K752 hK752 => ?_
        refine st (fun _ hk => s_mv (v := (.sl (List.map int1 e_432))) rfl hk) ?_
        refine aopsS_step fun _ hK => s_lenSl elem_23 rfl (fun hl754 => hK _ _ _ ?_)
        clear hK
        refine st (fun _ hk => s_mv (v := (.sl (List.map (sl1 int1) table_365))) rfl hk) ?_
        refine aopsS_step fun _ hK => s_lenSl elem_38 rfl (fun hl756 => hK _ _ _ ?_)
        clear hK
        refine st (fun _ hk => s_bin rfl rfl (b_add64 hk)) ?_
        refine st (fun _ hk => s_bin rfl rfl (b_neq hk)) ?_
        refine st (fun _ hk => s_mv (v := (bool ((List.length e_432 : Int) != (w64 ((List.length table_365 : Int) + 1))))) rfl hk) ?_
        refine aopsS_split rfl _ rfl (fun g760 => ?_) (fun g760 => ?_)
        ·
          replace H1 := iteF H1 (by simpa using g760)
          refine sx (fun _ hk => s_mv (v := (.sl (List.map int1 e_432))) rfl hk) ?_
          obtain ⟨r_433, hr_433, H1⟩ := bindS H1
          refine sg rfl rfl (fun _ hk => s_call (avs := [(int 0), (int 1000), (.sl (List.map int1 e_432))]) rfl rfl rfl (PC.call1 (sort_from_PC hr_433) (FreeL.cons (.sc _) (FreeL.cons (.sc _) (FreeL.cons (Free.slm fr_int1) FreeL.nil))) hk)) ?_
          refine sg rfl rfl (fun _ hk => s_not rfl hk) ?_
          refine st (fun _ hk => s_pickF (v := (bool (!r_433))) rfl rfl hk) ?_
          refine aopsS_end (hK752 _ (SatL.norm (n := 0) (h := hl []) (env' := [(0, (.sl (List.map (sl1 int1) table_365))), (4, (.sl (List.map int1 e_432))), (13, (.sl (List.map (sl1 int1) table_365))), (14, (int (List.length table_365 : Int))), (15, (int x_419)), (29, (bool (!r_433)))]) (L' := []) rfl hs_refl ?_))
          repeat refine SatL.seq ?_
          refine SatL.condX rfl (fun hc765 => ?_) (fun hc765 => ?_)
          ·
            replace H1 := iteT H1 hc765
            repeat refine SatL.seq ?_
            refine SatL.reg [2] [some 2] rfl rfl fun K766 hK766 => ?_
            refine st (fun _ hk => s_as (v := (int 8)) rfl hk) ?_
            refine aopsS_end (hK766 _ (SatL.norm (n := 0) (h := hl []) (env' := [(2, (int 8))]) (L' := []) rfl hs_refl ?_))
            obtain rfl := Option.some.inj H1
            obtain rfl := Option.some.inj H0
            exact SatL.ret (fnQ_snap [] (int 8) (int 8) rfl (Snap.free _ (.sc _)) rfl)
          ·
            replace H1 := iteF H1 hc765
            refine SatL.skip ?_
            repeat refine SatL.seq ?_
            refine SatL.reg [0, 4, 5, 13, 14, 15] [some 5] rfl rfl fun K768 hK768 => ?_
            refine st (fun _ hk => s_as (v := (int 0)) rfl hk) ?_
            refine aopsS_end (hK768 _ (SatL.norm (n := 0) (h := hl []) (env' := [(0, (.sl (List.map (sl1 int1) table_365))), (4, (.sl (List.map int1 e_432))), (5, (int 0)), (13, (.sl (List.map (sl1 int1) table_365))), (14, (int (List.length table_365 : Int))), (15, (int x_419))]) (L' := []) rfl hs_refl ?_))
            repeat refine SatL.seq ?_
            refine SatL.reg [0, 5, 13, 14, 15, 30, 31, 32] [some 30, some 31, some 32] rfl rfl fun K770 hK770 => ?_
            refine st (fun _ hk => s_mv (v := (.sl (List.map int1 e_432))) rfl hk) ?_
            refine aopsS_step fun _ hK => s_lenSl elem_23 rfl (fun hl772 => hK _ _ _ ?_)
            clear hK
            refine st (fun _ hk => s_mv (v := (int 0)) rfl hk) ?_
            refine aopsS_end (hK770 _ (SatL.norm (n := 0) (h := hl []) (env' := [(0, (.sl (List.map (sl1 int1) table_365))), (5, (int 0)), (13, (.sl (List.map (sl1 int1) table_365))), (14, (int (List.length table_365 : Int))), (15, (int x_419)), (30, (.sl (List.map int1 e_432))), (31, (int (List.length e_432 : Int))), (32, (int 0))]) (L' := []) rfl hs_refl ?_))
            repeat refine SatL.seq ?_
            obtain ⟨o_440, H2, H1⟩ := bindS H1
            refine SatL.mid [0, 5, 13, 14, 15] (fun s_ => ∃ (sum_439 : Int), sum_439 = o_440 ∧ StLe s_ [(0, (.sl (List.map (sl1 int1) table_365))), (5, (int sum_439)), (13, (.sl (List.map (sl1 int1) table_365))), (14, (int (List.length table_365 : Int))), (15, (int x_419))] [] 0) ?_ ?_
            ·
              repeat refine SatL.seq ?_
              refine SatL.block ?_
              repeat refine SatL.seq ?_
              refine SatL.loopK [0, 5, 13, 14, 15, 30, 31, 32] (fun k1 s_ => ∃ (sum_442 : Int) (x_443 : Int), StLe s_ [(0, (.sl (List.map (sl1 int1) table_365))), (5, (int sum_442)), (13, (.sl (List.map (sl1 int1) table_365))), (14, (int (List.length table_365 : Int))), (15, (int x_419)), (30, (.sl (List.map int1 e_432))), (31, (int (List.length e_432 : Int))), (32, (int x_443))] [] 0 ∧ 0 ≤ x_443 ∧ k1 = Int.toNat ((List.length e_432 : Int) - x_443) ∧ sort_CheckTable_L1 e_432 k1 sum_442 x_443 = some o_440) (Int.toNat ((List.length e_432 : Int) - 0)) ?_ ?_
              · exact ⟨0, 0, (StLe.of [] 0 rfl hs_nil (Nat.le_refl _)), (by omega), rfl, H2⟩
              rintro k1 s_ ⟨sum_442, x_443, hs_, _, hk_, H2⟩
              refine SatL.le hs_ ?_
              clear hs_
              rcases k1 with _ | k1
              ·
                rw [sort_CheckTable_L1.eq_1] at H2
                repeat refine SatL.seq ?_
                refine SatL.reg [0, 5, 13, 14, 15, 30, 31, 32, 33] [some 33] rfl rfl fun K849 hK849 => ?_
                refine st (fun _ hk => s_bin rfl rfl (b_lss hk)) ?_
                refine aopsS_end (hK849 _ (SatL.norm (n := 0) (h := hl []) (env' := [(0, (.sl (List.map (sl1 int1) table_365))), (5, (int sum_442)), (13, (.sl (List.map (sl1 int1) table_365))), (14, (int (List.length table_365 : Int))), (15, (int x_419)), (30, (.sl (List.map int1 e_432))), (31, (int (List.length e_432 : Int))), (32, (int x_443)), (33, (bool (decide (x_443 < (List.length e_432 : Int)))))]) (L' := []) rfl hs_refl ?_))
                repeat refine SatL.seq ?_
                refine SatL.condF rfl (decide_eq_false (by omega)) ?_
                refine SatL.exit ?_
                simp only [thenQ, blockQ, if_true, reduceIte, Nat.reduceEqDiff]
                obtain rfl := Option.some.inj H2
                exact SatL.nil (thenN ⟨sum_442, rfl, (StLe.of [] 0 rfl hs_nil (Nat.le_refl _))⟩)
              ·
                rw [sort_CheckTable_L1.eq_2] at H2
                repeat refine SatL.seq ?_
                refine SatL.reg [0, 5, 13, 14, 15, 30, 31, 32, 33] [some 33] rfl rfl fun K851 hK851 => ?_
                refine st (fun _ hk => s_bin rfl rfl (b_lss hk)) ?_
                refine aopsS_end (hK851 _ (SatL.norm (n := 0) (h := hl []) (env' := [(0, (.sl (List.map (sl1 int1) table_365))), (5, (int sum_442)), (13, (.sl (List.map (sl1 int1) table_365))), (14, (int (List.length table_365 : Int))), (15, (int x_419)), (30, (.sl (List.map int1 e_432))), (31, (int (List.length e_432 : Int))), (32, (int x_443)), (33, (bool (decide (x_443 < (List.length e_432 : Int)))))]) (L' := []) rfl hs_refl ?_))
                repeat refine SatL.seq ?_
                refine SatL.condT rfl (decide_eq_true (by omega)) ?_
                have hlt853 : (x_443 < (List.length e_432 : Int)) := by omega
                refine SatL.skip ?_
                repeat refine SatL.seq ?_
                refine SatL.block ?_
                repeat refine SatL.seq ?_
                refine SatL.reg [0, 5, 7, 13, 14, 15, 30, 31, 32] [some 34, some 35, some 7] rfl rfl fun K854 hK854 => ?_
                obtain ⟨e_445, he_445, H2⟩ := bindS H2
                refine st (fun _ hk => s_ixSl elem_23 rfl rfl he_445 cells_3 rfl (by decide) hk) ?_
                refine st (fun _ hk => s_load1 (c := (int e_445)) agg_3 (d_fp rfl) rfl hk) ?_
                refine st (fun _ hk => s_as (v := (int e_445)) rfl hk) ?_
                refine aopsS_end (hK854 _ (SatL.norm (n := 0) (h := hl []) (env' := [(0, (.sl (List.map (sl1 int1) table_365))), (5, (int sum_442)), (7, (int e_445)), (13, (.sl (List.map (sl1 int1) table_365))), (14, (int (List.length table_365 : Int))), (15, (int x_419)), (30, (.sl (List.map int1 e_432))), (31, (int (List.length e_432 : Int))), (32, (int x_443))]) (L' := []) rfl hs_refl ?_))
                repeat refine SatL.seq ?_
                refine SatL.rege [some 36, some 37, some 38, some 5] rfl rfl fun K858 hK858 => ?_
                refine st (fun _ hk => s_mv (v := (int sum_442)) rfl hk) ?_
                refine st (fun _ hk => s_mv (v := (int e_445)) rfl hk) ?_
                refine st (fun _ hk => s_bin rfl rfl (b_add64 hk)) ?_
                refine st (fun _ hk => s_as (v := (int (w64 (sum_442 + e_445)))) rfl hk) ?_
                refine aopsS_end (hK858 _ ?_)
                refine (blockN (thenN ?_))
                refine SatL.forget [0, 5, 13, 14, 15, 30, 31, 32] (SatL.norm (n := 0) (h := hl []) (env' := [(0, (.sl (List.map (sl1 int1) table_365))), (5, (int (w64 (sum_442 + e_445)))), (13, (.sl (List.map (sl1 int1) table_365))), (14, (int (List.length table_365 : Int))), (15, (int x_419)), (30, (.sl (List.map int1 e_432))), (31, (int (List.length e_432 : Int))), (32, (int x_443))]) (L' := []) rfl hs_refl ?_)
                repeat refine SatL.seq ?_
                refine SatL.rege [some 39, some 32] rfl rfl fun K863 hK863 => ?_
                refine st (fun _ hk => s_bin rfl rfl (b_add64 hk)) ?_
                refine st (fun _ hk => s_mv (v := (int (w64 (x_443 + 1)))) rfl hk) ?_
                refine aopsS_end (hK863 _ ?_)
                have hw866 : w64 (x_443 + 1) = x_443 + 1 := w64_id (by omega) (by omega)
                exact (thenN ⟨k1, ⟨(w64 (sum_442 + e_445)), (w64 (x_443 + 1)), (StLe.of [] 0 rfl hs_nil (Nat.le_refl _)), (by omega), (by rw [hw866]; omega), (Eq.mpr (congrArg (fun q_ => sort_CheckTable_L1 e_432 k1 ((w64 (sum_442 + e_445))) q_ = some o_440) hw866) H2)⟩, by omega⟩)
            ·
              rintro s_ ⟨sum_439, rfl, hs_⟩
              refine SatL.le hs_ ?_
              clear hs_
              replace H1 := un1S H1
              repeat refine SatL.seq ?_
              refine SatL.reg [0, 13, 14, 15, 41] [some 40, some 41] rfl rfl fun K867 hK867 => ?_
              refine st (fun _ hk => s_mv (v := (int sum_439)) rfl hk) ?_
              refine st (fun _ hk => s_bin rfl rfl (b_neq hk)) ?_
              refine aopsS_end (hK867 _ (SatL.norm (n := 0) (h := hl []) (env' := [(0, (.sl (List.map (sl1 int1) table_365))), (13, (.sl (List.map (sl1 int1) table_365))), (14, (int (List.length table_365 : Int))), (15, (int x_419)), (41, (bool (sum_439 != 1000)))]) (L' := []) rfl hs_refl ?_))
              repeat refine SatL.seq ?_
              refine SatL.condX rfl (fun hc870 => ?_) (fun hc870 => ?_)
              ·
                replace H1 := iteT H1 hc870
                repeat refine SatL.seq ?_
                refine SatL.reg [2] [some 2] rfl rfl fun K871 hK871 => ?_
                refine st (fun _ hk => s_as (v := (int 8)) rfl hk) ?_
                refine aopsS_end (hK871 _ (SatL.norm (n := 0) (h := hl []) (env' := [(2, (int 8))]) (L' := []) rfl hs_refl ?_))
                obtain rfl := Option.some.inj H1
                obtain rfl := Option.some.inj H0
                exact SatL.ret (fnQ_snap [] (int 8) (int 8) rfl (Snap.free _ (.sc _)) rfl)
              ·
                replace H1 := iteF H1 hc870
                refine SatL.skip ?_
                refine SatL.nil (blockN (thenN ?_))
                repeat refine SatL.seq ?_
                refine SatL.rege [some 42, some 15] rfl rfl fun K873 hK873 => ?_
                refine st (fun _ hk => s_bin rfl rfl (b_add64 hk)) ?_
                refine st (fun _ hk => s_mv (v := (int (w64 (x_419 + 1)))) rfl hk) ?_
                refine aopsS_end (hK873 _ ?_)
                have hw876 : w64 (x_419 + 1) = x_419 + 1 := w64_id (by omega) (by omega)
                exact (thenN ⟨k0, ⟨(w64 (x_419 + 1)), (StLe.of [] 0 rfl hs_nil (Nat.le_refl _)), (by omega), (by rw [hw876]; omega), (Eq.mpr (congrArg (fun q_ => sort_CheckTable_L0 table_365 k0 q_ = some o_406) hw876) H1)⟩, by omega⟩)
        ·
          replace H1 := iteT H1 (by simpa using g760)
          refine aopsS_off rfl rfl ?_
          refine aopsS_off rfl rfl ?_
          refine st (fun _ hk => s_pickT (v := (bool true)) rfl rfl hk) ?_
          refine aopsS_end (hK752 _ (SatL.norm (n := 0) (h := hl []) (env' := [(0, (.sl (List.map (sl1 int1) table_365))), (4, (.sl (List.map int1 e_432))), (13, (.sl (List.map (sl1 int1) table_365))), (14, (int (List.length table_365 : Int))), (15, (int x_419)), (29, (bool true))]) (L' := []) rfl hs_refl ?_))
          repeat refine SatL.seq ?_
          refine SatL.condT rfl rfl ?_
          repeat refine SatL.seq ?_
          refine SatL.reg [2] [some 2] rfl rfl fun K878 hK878 => ?_
          refine st (fun _ hk => s_as (v := (int 8)) rfl hk) ?_
          refine aopsS_end (hK878 _ (SatL.norm (n := 0) (h := hl []) (env' := [(2, (int 8))]) (L' := []) rfl hs_refl ?_))
          obtain rfl := Option.some.inj H1
          obtain rfl := Option.some.inj H0
          exact SatL.ret (fnQ_snap [] (int 8) (int 8) rfl (Snap.free _ (.sc _)) rfl)
    ·
      rintro s_ ⟨rfl, hs_⟩
      refine SatL.le hs_ ?_
      clear hs_
      replace H0 := sumun0S H0
      repeat refine SatL.seq ?_
      refine SatL.reg [2] [some 2] rfl rfl fun K880 hK880 => ?_
      refine st (fun _ hk => s_as (v := (int 0)) rfl hk) ?_
      refine aopsS_end (hK880 _ (SatL.norm (n := 0) (h := hl []) (env' := [(2, (int 0))]) (L' := []) rfl hs_refl ?_))
      obtain rfl := Option.some.inj H0
      exact SatL.ret (fnQ_snap [] (int 0) (int 0) rfl (Snap.free _ (.sc _)) rfl)

theorem sort_chances_c1_m_ind (fuel : Nat) : ∀ (i_485 : Int) (ways_486 : Int) (c_487 : Int) (c_488 : (List Int)) (len_489 : Nat) (c_490 : Int) (c_491 : (List Int)) (len_492 : Nat) (c_493 : (List Int)) (id_494 : Nat) (id_495 : Nat) (id_496 : Nat) (id_497 : Nat) (id_498 : Nat) (id_499 : Nat) (id_500 : Nat) (id_501 : Nat) (n_502 : Nat) (hlenc_488 : List.length c_488 = len_489) (hlenc_491 : List.length c_491 = len_492) (hids : id_494 < n_502 ∧ id_495 < n_502 ∧ id_496 < n_502 ∧ id_497 < n_502 ∧ id_498 < n_502 ∧ id_499 < n_502 ∧ id_500 < n_502 ∧ id_501 < n_502 ∧ id_494 ≠ id_495 ∧ id_494 ≠ id_496 ∧ id_494 ≠ id_497 ∧ id_494 ≠ id_498 ∧ id_494 ≠ id_499 ∧ id_494 ≠ id_500 ∧ id_494 ≠ id_501 ∧ id_495 ≠ id_496 ∧ id_495 ≠ id_497 ∧ id_495 ≠ id_498 ∧ id_495 ≠ id_499 ∧ id_495 ≠ id_500 ∧ id_495 ≠ id_501 ∧ id_496 ≠ id_497 ∧ id_496 ≠ id_498 ∧ id_496 ≠ id_499 ∧ id_496 ≠ id_500 ∧ id_496 ≠ id_501 ∧ id_497 ≠ id_498 ∧ id_497 ≠ id_499 ∧ id_497 ≠ id_500 ∧ id_497 ≠ id_501 ∧ id_498 ≠ id_499 ∧ id_498 ≠ id_500 ∧ id_498 ≠ id_501 ∧ id_499 ≠ id_500 ∧ id_499 ≠ id_501 ∧ id_500 ≠ id_501) {r : ((List Int) × (List Int))}, sort_chances_c1_m fuel i_485 ways_486 c_487 c_488 len_489 c_490 c_491 len_492 c_493 = some r → HC Try.prog 83 [(int i_485), (int ways_486), (.own id_494 0 0), (.own id_495 0 0), (.own id_497 0 0), (.own id_498 0 0), (.own id_500 0 0), (.own id_501 0 0)] (hl [(id_494, (some (.cells 1 3 [[(int c_487)]]))), (id_495, (some (.cells 1 23 [[(.ms id_496 0 len_489)]]))), (id_496, (some (.cells 1 3 (List.map int1 c_488)))), (id_497, (some (.cells 1 3 [[(int c_490)]]))), (id_498, (some (.cells 1 23 [[(.ms id_499 0 len_492)]]))), (id_499, (some (.cells 1 3 (List.map int1 c_491)))), (id_500, (some (.cells 1 23 [[(.sl (List.map int1 c_493))]]))), (id_501, (some (.cells 1 133 [[(.fn 83 [(.own id_494 0 0), (.own id_495 0 0), (.own id_497 0 0), (.own id_498 0 0), (.own id_500 0 0), (.own id_501 0 0)])]])))]) n_502 (fun v_ h_ n_ => (v_ = (.tp []) ∧ h_ = hl [(id_494, (some (.cells 1 3 [[(int c_487)]]))), (id_495, (some (.cells 1 23 [[(.ms id_496 0 len_489)]]))), (id_496, (some (.cells 1 3 (List.map int1 r.1)))), (id_497, (some (.cells 1 3 [[(int c_490)]]))), (id_498, (some (.cells 1 23 [[(.ms id_499 0 len_492)]]))), (id_499, (some (.cells 1 3 (List.map int1 r.2)))), (id_500, (some (.cells 1 23 [[(.sl (List.map int1 c_493))]]))), (id_501, (some (.cells 1 133 [[(.fn 83 [(.own id_494 0 0), (.own id_495 0 0), (.own id_497 0 0), (.own id_498 0 0), (.own id_500 0 0), (.own id_501 0 0)])]])))] ∧ n_ = n_502) ∧ (List.length r.1 = len_489 ∧ List.length r.2 = len_492)) := by
  induction fuel with
  | zero => intro i_485 ways_486 c_487 c_488 len_489 c_490 c_491 len_492 c_493 id_494 id_495 id_496 id_497 id_498 id_499 id_500 id_501 n_502 hlenc_488 hlenc_491 hids r H0; cases H0
  | succ fuel ih_sort_chances_c1_m =>
    intro i_485 ways_486 c_487 c_488 len_489 c_490 c_491 len_492 c_493 id_494 id_495 id_496 id_497 id_498 id_499 id_500 id_501 n_502 hlenc_488 hlenc_491 hids r H0
    rw [sort_chances_c1_m.eq_2] at H0
    obtain ⟨hltid_494, hltid_495, hltid_496, hltid_497, hltid_498, hltid_499, hltid_500, hltid_501, hneid_494id_495, hneid_494id_496, hneid_494id_497, hneid_494id_498, hneid_494id_499, hneid_494id_500, hneid_494id_501, hneid_495id_496, hneid_495id_497, hneid_495id_498, hneid_495id_499, hneid_495id_500, hneid_495id_501, hneid_496id_497, hneid_496id_498, hneid_496id_499, hneid_496id_500, hneid_496id_501, hneid_497id_498, hneid_497id_499, hneid_497id_500, hneid_497id_501, hneid_498id_499, hneid_498id_500, hneid_498id_501, hneid_499id_500, hneid_499id_501, hneid_500id_501⟩ := hids
    refine HC.of_bodyM [(0, (int i_485)), (1, (int ways_486)), (2, (.own id_494 0 0)), (3, (.own id_495 0 0)), (4, (.own id_497 0 0)), (5, (.own id_498 0 0)), (6, (.own id_500 0 0)), (7, (.own id_501 0 0))] Try.func83 rfl rfl (Nat.le_of_ble_eq_true rfl) rfl fun O => ?_
    repeat refine SatL.seq ?_
    refine SatL.reg [0, 1, 3, 4, 5, 6, 7, 15] [some 13, some 14, some 15] rfl rfl fun K749 hK749 => ?_
    refine st (fun _ hk => s_mv (v := (int i_485)) rfl hk) ?_
    refine st (fun _ hk => s_load1 (c := (int c_487)) agg_3 (d_own rfl (hl_self _ _ _) rfl rfl) rfl hk) ?_
    refine st (fun _ hk => s_bin rfl rfl (b_eql hk)) ?_
    refine aopsS_end (hK749 _ (SatL.norm (n := n_502) (h := hl [(id_494, (some (.cells 1 3 [[(int c_487)]]))), (id_495, (some (.cells 1 23 [[(.ms id_496 0 len_489)]]))), (id_496, (some (.cells 1 3 (List.map int1 c_488)))), (id_497, (some (.cells 1 3 [[(int c_490)]]))), (id_498, (some (.cells 1 23 [[(.ms id_499 0 len_492)]]))), (id_499, (some (.cells 1 3 (List.map int1 c_491)))), (id_500, (some (.cells 1 23 [[(.sl (List.map int1 c_493))]]))), (id_501, (some (.cells 1 133 [[(.fn 83 [(.own id_494 0 0), (.own id_495 0 0), (.own id_497 0 0), (.own id_498 0 0), (.own id_500 0 0), (.own id_501 0 0)])]])))]) (env' := [(0, (int i_485)), (1, (int ways_486)), (3, (.own id_495 0 0)), (4, (.own id_497 0 0)), (5, (.own id_498 0 0)), (6, (.own id_500 0 0)), (7, (.own id_501 0 0)), (15, (bool (i_485 == c_487)))]) (L' := [(id_494, (some (.cells 1 3 [[(int c_487)]]))), (id_495, (some (.cells 1 23 [[(.ms id_496 0 len_489)]]))), (id_496, (some (.cells 1 3 (List.map int1 c_488)))), (id_497, (some (.cells 1 3 [[(int c_490)]]))), (id_498, (some (.cells 1 23 [[(.ms id_499 0 len_492)]]))), (id_499, (some (.cells 1 3 (List.map int1 c_491)))), (id_500, (some (.cells 1 23 [[(.sl (List.map int1 c_493))]]))), (id_501, (some (.cells 1 133 [[(.fn 83 [(.own id_494 0 0), (.own id_495 0 0), (.own id_497 0 0), (.own id_498 0 0), (.own id_500 0 0), (.own id_501 0 0)])]])))]) rfl hs_refl ?_))
    repeat refine SatL.seq ?_
    refine SatL.condX rfl (fun hc753 => ?_) (fun hc753 => ?_)
    ·
      replace H0 := iteT H0 hc753
      repeat refine SatL.seq ?_
      refine SatL.reg [1, 4, 5, 10] [some 16, some 17, some 10] rfl rfl fun K754 hK754 => ?_
      refine st (fun _ hk => s_load1 (c := (.ms id_496 0 len_489)) agg_23 (d_own rfl (hl_ne (j := id_495) (i := id_494) hneid_494id_495.symm (hl_self _ _ _)) rfl rfl) rfl hk) ?_
      obtain ⟨r_596, hr_596, H0⟩ := bindS H0
      refine st (fun _ hk => s_call (avs := [(.ms id_496 0 len_489)]) rfl rfl rfl (PC.lend1 (args' := [(.sl (List.map int1 c_488))]) (SnapL.cons (Snap.msW (hl_ne (j := id_496) (i := id_494) hneid_494id_496.symm (hl_ne (j := id_496) (i := id_495) hneid_495id_496.symm (hl_self _ _ _))) hlenc_488 fr_int1) SnapL.nil) (sort_read_PC hr_596) (.sc _) hk)) ?_
      refine st (fun _ hk => s_as (v := (int r_596)) rfl hk) ?_
      refine aopsS_end (hK754 _ (SatL.norm (n := n_502) (h := hl [(id_494, (some (.cells 1 3 [[(int c_487)]]))), (id_495, (some (.cells 1 23 [[(.ms id_496 0 len_489)]]))), (id_496, (some (.cells 1 3 (List.map int1 c_488)))), (id_497, (some (.cells 1 3 [[(int c_490)]]))), (id_498, (some (.cells 1 23 [[(.ms id_499 0 len_492)]]))), (id_499, (some (.cells 1 3 (List.map int1 c_491)))), (id_500, (some (.cells 1 23 [[(.sl (List.map int1 c_493))]]))), (id_501, (some (.cells 1 133 [[(.fn 83 [(.own id_494 0 0), (.own id_495 0 0), (.own id_497 0 0), (.own id_498 0 0), (.own id_500 0 0), (.own id_501 0 0)])]])))]) (env' := [(1, (int ways_486)), (4, (.own id_497 0 0)), (5, (.own id_498 0 0)), (10, (int r_596))]) (L' := [(id_494, (some (.cells 1 3 [[(int c_487)]]))), (id_495, (some (.cells 1 23 [[(.ms id_496 0 len_489)]]))), (id_496, (some (.cells 1 3 (List.map int1 c_488)))), (id_497, (some (.cells 1 3 [[(int c_490)]]))), (id_498, (some (.cells 1 23 [[(.ms id_499 0 len_492)]]))), (id_499, (some (.cells 1 3 (List.map int1 c_491)))), (id_500, (some (.cells 1 23 [[(.sl (List.map int1 c_493))]]))), (id_501, (some (.cells 1 133 [[(.fn 83 [(.own id_494 0 0), (.own id_495 0 0), (.own id_497 0 0), (.own id_498 0 0), (.own id_500 0 0), (.own id_501 0 0)])]])))]) rfl hs_refl ?_))
      repeat refine SatL.seq ?_
      refine SatL.reg [1, 4, 5, 10, 19] [some 18, some 19] rfl rfl fun K758 hK758 => ?_
      refine st (fun _ hk => s_mv (v := (int r_596)) rfl hk) ?_
      refine st (fun _ hk => s_bin rfl rfl (b_lss hk)) ?_
      refine aopsS_end (hK758 _ (SatL.norm (n := n_502) (h := hl [(id_494, (some (.cells 1 3 [[(int c_487)]]))), (id_495, (some (.cells 1 23 [[(.ms id_496 0 len_489)]]))), (id_496, (some (.cells 1 3 (List.map int1 c_488)))), (id_497, (some (.cells 1 3 [[(int c_490)]]))), (id_498, (some (.cells 1 23 [[(.ms id_499 0 len_492)]]))), (id_499, (some (.cells 1 3 (List.map int1 c_491)))), (id_500, (some (.cells 1 23 [[(.sl (List.map int1 c_493))]]))), (id_501, (some (.cells 1 133 [[(.fn 83 [(.own id_494 0 0), (.own id_495 0 0), (.own id_497 0 0), (.own id_498 0 0), (.own id_500 0 0), (.own id_501 0 0)])]])))]) (env' := [(1, (int ways_486)), (4, (.own id_497 0 0)), (5, (.own id_498 0 0)), (10, (int r_596)), (19, (bool (decide (r_596 < 0))))]) (L' := [(id_494, (some (.cells 1 3 [[(int c_487)]]))), (id_495, (some (.cells 1 23 [[(.ms id_496 0 len_489)]]))), (id_496, (some (.cells 1 3 (List.map int1 c_488)))), (id_497, (some (.cells 1 3 [[(int c_490)]]))), (id_498, (some (.cells 1 23 [[(.ms id_499 0 len_492)]]))), (id_499, (some (.cells 1 3 (List.map int1 c_491)))), (id_500, (some (.cells 1 23 [[(.sl (List.map int1 c_493))]]))), (id_501, (some (.cells 1 133 [[(.fn 83 [(.own id_494 0 0), (.own id_495 0 0), (.own id_497 0 0), (.own id_498 0 0), (.own id_500 0 0), (.own id_501 0 0)])]])))]) rfl hs_refl ?_))
      repeat refine SatL.seq ?_
      refine SatL.condX rfl (fun hc761 => ?_) (fun hc761 => ?_)
      ·
        replace H0 := iteT H0 hc761
        repeat refine SatL.seq ?_
        refine SatL.reg [1, 5, 10] [some 20, some 10] rfl rfl fun K762 hK762 => ?_
        refine st (fun _ hk => s_load1 (c := (int c_490)) agg_3 (d_own rfl (hl_ne (j := id_497) (i := id_494) hneid_494id_497.symm (hl_ne (j := id_497) (i := id_495) hneid_495id_497.symm (hl_ne (j := id_497) (i := id_496) hneid_496id_497.symm (hl_self _ _ _)))) rfl rfl) rfl hk) ?_
        refine st (fun _ hk => s_as (v := (int c_490)) rfl hk) ?_
        refine aopsS_end (hK762 _ (SatL.norm (n := n_502) (h := hl [(id_494, (some (.cells 1 3 [[(int c_487)]]))), (id_495, (some (.cells 1 23 [[(.ms id_496 0 len_489)]]))), (id_496, (some (.cells 1 3 (List.map int1 c_488)))), (id_497, (some (.cells 1 3 [[(int c_490)]]))), (id_498, (some (.cells 1 23 [[(.ms id_499 0 len_492)]]))), (id_499, (some (.cells 1 3 (List.map int1 c_491)))), (id_500, (some (.cells 1 23 [[(.sl (List.map int1 c_493))]]))), (id_501, (some (.cells 1 133 [[(.fn 83 [(.own id_494 0 0), (.own id_495 0 0), (.own id_497 0 0), (.own id_498 0 0), (.own id_500 0 0), (.own id_501 0 0)])]])))]) (env' := [(1, (int ways_486)), (5, (.own id_498 0 0)), (10, (int c_490))]) (L' := [(id_494, (some (.cells 1 3 [[(int c_487)]]))), (id_495, (some (.cells 1 23 [[(.ms id_496 0 len_489)]]))), (id_496, (some (.cells 1 3 (List.map int1 c_488)))), (id_497, (some (.cells 1 3 [[(int c_490)]]))), (id_498, (some (.cells 1 23 [[(.ms id_499 0 len_492)]]))), (id_499, (some (.cells 1 3 (List.map int1 c_491)))), (id_500, (some (.cells 1 23 [[(.sl (List.map int1 c_493))]]))), (id_501, (some (.cells 1 133 [[(.fn 83 [(.own id_494 0 0), (.own id_495 0 0), (.own id_497 0 0), (.own id_498 0 0), (.own id_500 0 0), (.own id_501 0 0)])]])))]) rfl hs_refl ?_))
        repeat refine SatL.seq ?_
        refine SatL.reg [] [some 21, some 22, some 23, some 24, some 25, some 26, some 27, none] rfl rfl fun K765 hK765 => ?_
        refine st (fun _ hk => s_load1 (c := (.ms id_499 0 len_492)) agg_23 (d_own rfl (hl_ne (j := id_498) (i := id_494) hneid_494id_498.symm (hl_ne (j := id_498) (i := id_495) hneid_495id_498.symm (hl_ne (j := id_498) (i := id_496) hneid_496id_498.symm (hl_ne (j := id_498) (i := id_497) hneid_497id_498.symm (hl_self _ _ _))))) rfl rfl) rfl hk) ?_
        refine st (fun _ hk => s_mv (v := (int c_490)) rfl hk) ?_
        obtain ⟨e_597, he_597, H0⟩ := bindS H0
        refine st (fun _ hk => s_ixM0 elem_23 rfl rfl (hl_ne (j := id_499) (i := id_494) hneid_494id_499.symm (hl_ne (j := id_499) (i := id_495) hneid_495id_499.symm (hl_ne (j := id_499) (i := id_496) hneid_496id_499.symm (hl_ne (j := id_499) (i := id_497) hneid_497id_499.symm (hl_ne (j := id_499) (i := id_498) hneid_498id_499.symm (hl_self _ _ _)))))) (gi_lt he_597).1 (ltl he_597 hlenc_491) cells_3 (by decide) hk) ?_
        refine st (fun _ hk => s_load1 (c := (int e_597)) agg_3 (d_own rfl (hl_ne (j := id_499) (i := id_494) hneid_494id_499.symm (hl_ne (j := id_499) (i := id_495) hneid_495id_499.symm (hl_ne (j := id_499) (i := id_496) hneid_496id_499.symm (hl_ne (j := id_499) (i := id_497) hneid_497id_499.symm (hl_ne (j := id_499) (i := id_498) hneid_498id_499.symm (hl_self _ _ _)))))) (mapget he_597) rfl) rfl hk) ?_
        refine st (fun _ hk => s_mv (v := (int ways_486)) rfl hk) ?_
        refine st (fun _ hk => s_bin rfl rfl (b_add64 hk)) ?_
        refine st (fun _ hk => s_ixM0 elem_23 rfl rfl (hl_ne (j := id_499) (i := id_494) hneid_494id_499.symm (hl_ne (j := id_499) (i := id_495) hneid_495id_499.symm (hl_ne (j := id_499) (i := id_496) hneid_496id_499.symm (hl_ne (j := id_499) (i := id_497) hneid_497id_499.symm (hl_ne (j := id_499) (i := id_498) hneid_498id_499.symm (hl_self _ _ _)))))) (gi_lt he_597).1 (ltl he_597 hlenc_491) cells_3 (by decide) hk) ?_
        refine s0 (fun _ hk => s_store rfl (hl_ne (j := id_499) (i := id_494) hneid_494id_499.symm (hl_ne (j := id_499) (i := id_495) hneid_495id_499.symm (hl_ne (j := id_499) (i := id_496) hneid_496id_499.symm (hl_ne (j := id_499) (i := id_497) hneid_497id_499.symm (hl_ne (j := id_499) (i := id_498) hneid_498id_499.symm (hl_self _ _ _)))))) (mapget he_597) rfl cells_3 rfl (by decide) (Nat.le_of_ble_eq_true rfl) (set_map (f := int1) (y := (w64 (e_597 + ways_486))) rfl) (hu_ne (j := id_499) (i := id_494) hneid_494id_499.symm (hu_ne (j := id_499) (i := id_495) hneid_495id_499.symm (hu_ne (j := id_499) (i := id_496) hneid_496id_499.symm (hu_ne (j := id_499) (i := id_497) hneid_497id_499.symm (hu_ne (j := id_499) (i := id_498) hneid_498id_499.symm (hu_self _ _ _ _)))))) hk) ?_
        refine aopsS_end (hK765 _ (SatL.norm (n := n_502) (h := hl [(id_494, (some (.cells 1 3 [[(int c_487)]]))), (id_495, (some (.cells 1 23 [[(.ms id_496 0 len_489)]]))), (id_496, (some (.cells 1 3 (List.map int1 c_488)))), (id_497, (some (.cells 1 3 [[(int c_490)]]))), (id_498, (some (.cells 1 23 [[(.ms id_499 0 len_492)]]))), (id_499, (some (.cells 1 3 (List.map int1 (List.set c_491 (Int.toNat c_490) (w64 (e_597 + ways_486))))))), (id_500, (some (.cells 1 23 [[(.sl (List.map int1 c_493))]]))), (id_501, (some (.cells 1 133 [[(.fn 83 [(.own id_494 0 0), (.own id_495 0 0), (.own id_497 0 0), (.own id_498 0 0), (.own id_500 0 0), (.own id_501 0 0)])]])))]) (env' := []) (L' := [(id_494, (some (.cells 1 3 [[(int c_487)]]))), (id_495, (some (.cells 1 23 [[(.ms id_496 0 len_489)]]))), (id_496, (some (.cells 1 3 (List.map int1 c_488)))), (id_497, (some (.cells 1 3 [[(int c_490)]]))), (id_498, (some (.cells 1 23 [[(.ms id_499 0 len_492)]]))), (id_499, (some (.cells 1 3 (List.map int1 (List.set c_491 (Int.toNat c_490) (w64 (e_597 + ways_486))))))), (id_500, (some (.cells 1 23 [[(.sl (List.map int1 c_493))]]))), (id_501, (some (.cells 1 133 [[(.fn 83 [(.own id_494 0 0), (.own id_495 0 0), (.own id_497 0 0), (.own id_498 0 0), (.own id_500 0 0), (.own id_501 0 0)])]])))]) rfl hs_refl ?_))
        obtain rfl := Option.some.inj H0
        exact SatL.ret (fnQ_shut [(id_494, (some (.cells 1 3 [[(int c_487)]]))), (id_495, (some (.cells 1 23 [[(.ms id_496 0 len_489)]]))), (id_496, (some (.cells 1 3 (List.map int1 c_488)))), (id_497, (some (.cells 1 3 [[(int c_490)]]))), (id_498, (some (.cells 1 23 [[(.ms id_499 0 len_492)]]))), (id_499, (some (.cells 1 3 (List.map int1 (List.set c_491 (Int.toNat c_490) (w64 (e_597 + ways_486))))))), (id_500, (some (.cells 1 23 [[(.sl (List.map int1 c_493))]]))), (id_501, (some (.cells 1 133 [[(.fn 83 [(.own id_494 0 0), (.own id_495 0 0), (.own id_497 0 0), (.own id_498 0 0), (.own id_500 0 0), (.own id_501 0 0)])]])))] (.tp []) rfl (sh_cons (hl_self _ _ _) (by omega) (ono_s (OnC.cons (.free _ (.sc _)) OnC.nil)) (sh_cons (hl_ne (j := id_495) (i := id_494) hneid_494id_495.symm (hl_self _ _ _)) (by omega) (ono_s (OnC.cons (.ms _ _ _ (by simp <;> omega)) OnC.nil)) (sh_cons (hl_ne (j := id_496) (i := id_494) hneid_494id_496.symm (hl_ne (j := id_496) (i := id_495) hneid_495id_496.symm (hl_self _ _ _))) (by omega) (ono_typed fr_int1) (sh_cons (hl_ne (j := id_497) (i := id_494) hneid_494id_497.symm (hl_ne (j := id_497) (i := id_495) hneid_495id_497.symm (hl_ne (j := id_497) (i := id_496) hneid_496id_497.symm (hl_self _ _ _)))) (by omega) (ono_s (OnC.cons (.free _ (.sc _)) OnC.nil)) (sh_cons (hl_ne (j := id_498) (i := id_494) hneid_494id_498.symm (hl_ne (j := id_498) (i := id_495) hneid_495id_498.symm (hl_ne (j := id_498) (i := id_496) hneid_496id_498.symm (hl_ne (j := id_498) (i := id_497) hneid_497id_498.symm (hl_self _ _ _))))) (by omega) (ono_s (OnC.cons (.ms _ _ _ (by simp <;> omega)) OnC.nil)) (sh_cons (hl_ne (j := id_499) (i := id_494) hneid_494id_499.symm (hl_ne (j := id_499) (i := id_495) hneid_495id_499.symm (hl_ne (j := id_499) (i := id_496) hneid_496id_499.symm (hl_ne (j := id_499) (i := id_497) hneid_497id_499.symm (hl_ne (j := id_499) (i := id_498) hneid_498id_499.symm (hl_self _ _ _)))))) (by omega) (ono_typed fr_int1) (sh_cons (hl_ne (j := id_500) (i := id_494) hneid_494id_500.symm (hl_ne (j := id_500) (i := id_495) hneid_495id_500.symm (hl_ne (j := id_500) (i := id_496) hneid_496id_500.symm (hl_ne (j := id_500) (i := id_497) hneid_497id_500.symm (hl_ne (j := id_500) (i := id_498) hneid_498id_500.symm (hl_ne (j := id_500) (i := id_499) hneid_499id_500.symm (hl_self _ _ _))))))) (by omega) (ono_s (OnC.cons (.free _ (Free.slm fr_int1)) OnC.nil)) (sh_cons (hl_ne (j := id_501) (i := id_494) hneid_494id_501.symm (hl_ne (j := id_501) (i := id_495) hneid_495id_501.symm (hl_ne (j := id_501) (i := id_496) hneid_496id_501.symm (hl_ne (j := id_501) (i := id_497) hneid_497id_501.symm (hl_ne (j := id_501) (i := id_498) hneid_498id_501.symm (hl_ne (j := id_501) (i := id_499) hneid_499id_501.symm (hl_ne (j := id_501) (i := id_500) hneid_500id_501.symm (hl_self _ _ _)))))))) (by omega) (ono_s (OnC.cons (On.fnl (OnC.cons (.own _ _ _ (by simp <;> omega)) (OnC.cons (.own _ _ _ (by simp <;> omega)) (OnC.cons (.own _ _ _ (by simp <;> omega)) (OnC.cons (.own _ _ _ (by simp <;> omega)) (OnC.cons (.own _ _ _ (by simp <;> omega)) (OnC.cons (.own _ _ _ (by simp <;> omega)) OnC.nil))))))) OnC.nil)) sh_nil)))))))) (hl []) hn_nil (Snap.free _ (Free.tpl FreeL.nil)) ⟨hlenc_488, (List.length_set.trans hlenc_491)⟩)
      ·
        replace H0 := iteF H0 hc761
        refine SatL.skip ?_
        repeat refine SatL.seq ?_
        refine SatL.reg [] [some 21, some 22, some 23, some 24, some 25, some 26, some 27, none] rfl rfl fun K774 hK774 => ?_
        refine st (fun _ hk => s_load1 (c := (.ms id_499 0 len_492)) agg_23 (d_own rfl (hl_ne (j := id_498) (i := id_494) hneid_494id_498.symm (hl_ne (j := id_498) (i := id_495) hneid_495id_498.symm (hl_ne (j := id_498) (i := id_496) hneid_496id_498.symm (hl_ne (j := id_498) (i := id_497) hneid_497id_498.symm (hl_self _ _ _))))) rfl rfl) rfl hk) ?_
        refine st (fun _ hk => s_mv (v := (int r_596)) rfl hk) ?_
        obtain ⟨e_598, he_598, H0⟩ := bindS H0
        refine st (fun _ hk => s_ixM0 elem_23 rfl rfl (hl_ne (j := id_499) (i := id_494) hneid_494id_499.symm (hl_ne (j := id_499) (i := id_495) hneid_495id_499.symm (hl_ne (j := id_499) (i := id_496) hneid_496id_499.symm (hl_ne (j := id_499) (i := id_497) hneid_497id_499.symm (hl_ne (j := id_499) (i := id_498) hneid_498id_499.symm (hl_self _ _ _)))))) (gi_lt he_598).1 (ltl he_598 hlenc_491) cells_3 (by decide) hk) ?_
        refine st (fun _ hk => s_load1 (c := (int e_598)) agg_3 (d_own rfl (hl_ne (j := id_499) (i := id_494) hneid_494id_499.symm (hl_ne (j := id_499) (i := id_495) hneid_495id_499.symm (hl_ne (j := id_499) (i := id_496) hneid_496id_499.symm (hl_ne (j := id_499) (i := id_497) hneid_497id_499.symm (hl_ne (j := id_499) (i := id_498) hneid_498id_499.symm (hl_self _ _ _)))))) (mapget he_598) rfl) rfl hk) ?_
        refine st (fun _ hk => s_mv (v := (int ways_486)) rfl hk) ?_
        refine st (fun _ hk => s_bin rfl rfl (b_add64 hk)) ?_
        refine st (fun _ hk => s_ixM0 elem_23 rfl rfl (hl_ne (j := id_499) (i := id_494) hneid_494id_499.symm (hl_ne (j := id_499) (i := id_495) hneid_495id_499.symm (hl_ne (j := id_499) (i := id_496) hneid_496id_499.symm (hl_ne (j := id_499) (i := id_497) hneid_497id_499.symm (hl_ne (j := id_499) (i := id_498) hneid_498id_499.symm (hl_self _ _ _)))))) (gi_lt he_598).1 (ltl he_598 hlenc_491) cells_3 (by decide) hk) ?_
        refine s0 (fun _ hk => s_store rfl (hl_ne (j := id_499) (i := id_494) hneid_494id_499.symm (hl_ne (j := id_499) (i := id_495) hneid_495id_499.symm (hl_ne (j := id_499) (i := id_496) hneid_496id_499.symm (hl_ne (j := id_499) (i := id_497) hneid_497id_499.symm (hl_ne (j := id_499) (i := id_498) hneid_498id_499.symm (hl_self _ _ _)))))) (mapget he_598) rfl cells_3 rfl (by decide) (Nat.le_of_ble_eq_true rfl) (set_map (f := int1) (y := (w64 (e_598 + ways_486))) rfl) (hu_ne (j := id_499) (i := id_494) hneid_494id_499.symm (hu_ne (j := id_499) (i := id_495) hneid_495id_499.symm (hu_ne (j := id_499) (i := id_496) hneid_496id_499.symm (hu_ne (j := id_499) (i := id_497) hneid_497id_499.symm (hu_ne (j := id_499) (i := id_498) hneid_498id_499.symm (hu_self _ _ _ _)))))) hk) ?_
        refine aopsS_end (hK774 _ (SatL.norm (n := n_502) (h := hl [(id_494, (some (.cells 1 3 [[(int c_487)]]))), (id_495, (some (.cells 1 23 [[(.ms id_496 0 len_489)]]))), (id_496, (some (.cells 1 3 (List.map int1 c_488)))), (id_497, (some (.cells 1 3 [[(int c_490)]]))), (id_498, (some (.cells 1 23 [[(.ms id_499 0 len_492)]]))), (id_499, (some (.cells 1 3 (List.map int1 (List.set c_491 (Int.toNat r_596) (w64 (e_598 + ways_486))))))), (id_500, (some (.cells 1 23 [[(.sl (List.map int1 c_493))]]))), (id_501, (some (.cells 1 133 [[(.fn 83 [(.own id_494 0 0), (.own id_495 0 0), (.own id_497 0 0), (.own id_498 0 0), (.own id_500 0 0), (.own id_501 0 0)])]])))]) (env' := []) (L' := [(id_494, (some (.cells 1 3 [[(int c_487)]]))), (id_495, (some (.cells 1 23 [[(.ms id_496 0 len_489)]]))), (id_496, (some (.cells 1 3 (List.map int1 c_488)))), (id_497, (some (.cells 1 3 [[(int c_490)]]))), (id_498, (some (.cells 1 23 [[(.ms id_499 0 len_492)]]))), (id_499, (some (.cells 1 3 (List.map int1 (List.set c_491 (Int.toNat r_596) (w64 (e_598 + ways_486))))))), (id_500, (some (.cells 1 23 [[(.sl (List.map int1 c_493))]]))), (id_501, (some (.cells 1 133 [[(.fn 83 [(.own id_494 0 0), (.own id_495 0 0), (.own id_497 0 0), (.own id_498 0 0), (.own id_500 0 0), (.own id_501 0 0)])]])))]) rfl hs_refl ?_))
        obtain rfl := Option.some.inj H0
        exact SatL.ret (fnQ_shut [(id_494, (some (.cells 1 3 [[(int c_487)]]))), (id_495, (some (.cells 1 23 [[(.ms id_496 0 len_489)]]))), (id_496, (some (.cells 1 3 (List.map int1 c_488)))), (id_497, (some (.cells 1 3 [[(int c_490)]]))), (id_498, (some (.cells 1 23 [[(.ms id_499 0 len_492)]]))), (id_499, (some (.cells 1 3 (List.map int1 (List.set c_491 (Int.toNat r_596) (w64 (e_598 + ways_486))))))), (id_500, (some (.cells 1 23 [[(.sl (List.map int1 c_493))]]))), (id_501, (some (.cells 1 133 [[(.fn 83 [(.own id_494 0 0), (.own id_495 0 0), (.own id_497 0 0), (.own id_498 0 0), (.own id_500 0 0), (.own id_501 0 0)])]])))] (.tp []) rfl (sh_cons (hl_self _ _ _) (by omega) (ono_s (OnC.cons (.free _ (.sc _)) OnC.nil)) (sh_cons (hl_ne (j := id_495) (i := id_494) hneid_494id_495.symm (hl_self _ _ _)) (by omega) (ono_s (OnC.cons (.ms _ _ _ (by simp <;> omega)) OnC.nil)) (sh_cons (hl_ne (j := id_496) (i := id_494) hneid_494id_496.symm (hl_ne (j := id_496) (i := id_495) hneid_495id_496.symm (hl_self _ _ _))) (by omega) (ono_typed fr_int1) (sh_cons (hl_ne (j := id_497) (i := id_494) hneid_494id_497.symm (hl_ne (j := id_497) (i := id_495) hneid_495id_497.symm (hl_ne (j := id_497) (i := id_496) hneid_496id_497.symm (hl_self _ _ _)))) (by omega) (ono_s (OnC.cons (.free _ (.sc _)) OnC.nil)) (sh_cons (hl_ne (j := id_498) (i := id_494) hneid_494id_498.symm (hl_ne (j := id_498) (i := id_495) hneid_495id_498.symm (hl_ne (j := id_498) (i := id_496) hneid_496id_498.symm (hl_ne (j := id_498) (i := id_497) hneid_497id_498.symm (hl_self _ _ _))))) (by omega) (ono_s (OnC.cons (.ms _ _ _ (by simp <;> omega)) OnC.nil)) (sh_cons (hl_ne (j := id_499) (i := id_494) hneid_494id_499.symm (hl_ne (j := id_499) (i := id_495) hneid_495id_499.symm (hl_ne (j := id_499) (i := id_496) hneid_496id_499.symm (hl_ne (j := id_499) (i := id_497) hneid_497id_499.symm (hl_ne (j := id_499) (i := id_498) hneid_498id_499.symm (hl_self _ _ _)))))) (by omega) (ono_typed fr_int1) (sh_cons (hl_ne (j := id_500) (i := id_494) hneid_494id_500.symm (hl_ne (j := id_500) (i := id_495) hneid_495id_500.symm (hl_ne (j := id_500) (i := id_496) hneid_496id_500.symm (hl_ne (j := id_500) (i := id_497) hneid_497id_500.symm (hl_ne (j := id_500) (i := id_498) hneid_498id_500.symm (hl_ne (j := id_500) (i := id_499) hneid_499id_500.symm (hl_self _ _ _))))))) (by omega) (ono_s (OnC.cons (.free _ (Free.slm fr_int1)) OnC.nil)) (sh_cons (hl_ne (j := id_501) (i := id_494) hneid_494id_501.symm (hl_ne (j := id_501) (i := id_495) hneid_495id_501.symm (hl_ne (j := id_501) (i := id_496) hneid_496id_501.symm (hl_ne (j := id_501) (i := id_497) hneid_497id_501.symm (hl_ne (j := id_501) (i := id_498) hneid_498id_501.symm (hl_ne (j := id_501) (i := id_499) hneid_499id_501.symm (hl_ne (j := id_501) (i := id_500) hneid_500id_501.symm (hl_self _ _ _)))))))) (by omega) (ono_s (OnC.cons (On.fnl (OnC.cons (.own _ _ _ (by simp <;> omega)) (OnC.cons (.own _ _ _ (by simp <;> omega)) (OnC.cons (.own _ _ _ (by simp <;> omega)) (OnC.cons (.own _ _ _ (by simp <;> omega)) (OnC.cons (.own _ _ _ (by simp <;> omega)) (OnC.cons (.own _ _ _ (by simp <;> omega)) OnC.nil))))))) OnC.nil)) sh_nil)))))))) (hl []) hn_nil (Snap.free _ (Free.tpl FreeL.nil)) ⟨hlenc_488, (List.length_set.trans hlenc_491)⟩)
    ·
      replace H0 := iteF H0 hc753
      refine SatL.skip ?_
      repeat refine SatL.seq ?_
      refine SatL.reg [0, 1, 3, 4, 7, 28, 29, 30] [some 28, some 29, some 30] rfl rfl fun K783 hK783 => ?_
      refine st (fun _ hk => s_load1 (c := (.sl (List.map int1 c_493))) agg_23 (d_own rfl (hl_ne (j := id_500) (i := id_494) hneid_494id_500.symm (hl_ne (j := id_500) (i := id_495) hneid_495id_500.symm (hl_ne (j := id_500) (i := id_496) hneid_496id_500.symm (hl_ne (j := id_500) (i := id_497) hneid_497id_500.symm (hl_ne (j := id_500) (i := id_498) hneid_498id_500.symm (hl_ne (j := id_500) (i := id_499) hneid_499id_500.symm (hl_self _ _ _))))))) rfl rfl) rfl hk) ?_
      refine aopsS_step fun _ hK => s_lenSl elem_23 rfl (fun hl785 => hK _ _ _ ?_)
      clear hK
      refine st (fun _ hk => s_mv (v := (int 0)) rfl hk) ?_
      refine aopsS_end (hK783 _ (SatL.norm (n := n_502) (h := hl [(id_494, (some (.cells 1 3 [[(int c_487)]]))), (id_495, (some (.cells 1 23 [[(.ms id_496 0 len_489)]]))), (id_496, (some (.cells 1 3 (List.map int1 c_488)))), (id_497, (some (.cells 1 3 [[(int c_490)]]))), (id_498, (some (.cells 1 23 [[(.ms id_499 0 len_492)]]))), (id_499, (some (.cells 1 3 (List.map int1 c_491)))), (id_500, (some (.cells 1 23 [[(.sl (List.map int1 c_493))]]))), (id_501, (some (.cells 1 133 [[(.fn 83 [(.own id_494 0 0), (.own id_495 0 0), (.own id_497 0 0), (.own id_498 0 0), (.own id_500 0 0), (.own id_501 0 0)])]])))]) (env' := [(0, (int i_485)), (1, (int ways_486)), (3, (.own id_495 0 0)), (4, (.own id_497 0 0)), (7, (.own id_501 0 0)), (28, (.sl (List.map int1 c_493))), (29, (int (List.length c_493 : Int))), (30, (int 0))]) (L' := [(id_494, (some (.cells 1 3 [[(int c_487)]]))), (id_495, (some (.cells 1 23 [[(.ms id_496 0 len_489)]]))), (id_496, (some (.cells 1 3 (List.map int1 c_488)))), (id_497, (some (.cells 1 3 [[(int c_490)]]))), (id_498, (some (.cells 1 23 [[(.ms id_499 0 len_492)]]))), (id_499, (some (.cells 1 3 (List.map int1 c_491)))), (id_500, (some (.cells 1 23 [[(.sl (List.map int1 c_493))]]))), (id_501, (some (.cells 1 133 [[(.fn 83 [(.own id_494 0 0), (.own id_495 0 0), (.own id_497 0 0), (.own id_498 0 0), (.own id_500 0 0), (.own id_501 0 0)])]])))]) rfl hs_refl ?_))
      repeat refine SatL.seq ?_
      obtain ⟨o_625, H1, H0⟩ := bindS H0
      repeat refine SatL.seq ?_
      refine SatL.block ?_
      repeat refine SatL.seq ?_
      refine SatL.loopK [0, 1, 3, 4, 7, 28, 29, 30] (fun k0 s_ => ∃ (x_633 : (List Int)) (x_634 : (List Int)) (x_635 : Int), StLe s_ [(0, (int i_485)), (1, (int ways_486)), (3, (.own id_495 0 0)), (4, (.own id_497 0 0)), (7, (.own id_501 0 0)), (28, (.sl (List.map int1 c_493))), (29, (int (List.length c_493 : Int))), (30, (int x_635))] [(id_495, (some (.cells 1 23 [[(.ms id_496 0 len_489)]]))), (id_496, (some (.cells 1 3 (List.map int1 x_633)))), (id_497, (some (.cells 1 3 [[(int c_490)]]))), (id_501, (some (.cells 1 133 [[(.fn 83 [(.own id_494 0 0), (.own id_495 0 0), (.own id_497 0 0), (.own id_498 0 0), (.own id_500 0 0), (.own id_501 0 0)])]]))), (id_494, (some (.cells 1 3 [[(int c_487)]]))), (id_498, (some (.cells 1 23 [[(.ms id_499 0 len_492)]]))), (id_499, (some (.cells 1 3 (List.map int1 x_634)))), (id_500, (some (.cells 1 23 [[(.sl (List.map int1 c_493))]])))] n_502 ∧ id_495 < n_502 ∧ id_496 < n_502 ∧ id_497 < n_502 ∧ id_501 < n_502 ∧ id_494 < n_502 ∧ id_498 < n_502 ∧ id_499 < n_502 ∧ id_500 < n_502 ∧ List.length x_633 = len_489 ∧ List.length x_634 = len_492 ∧ 0 ≤ x_635 ∧ k0 = Int.toNat ((List.length c_493 : Int) - x_635) ∧ sort_chances_c1_m_L0 (sort_chances_c1_m fuel) i_485 ways_486 c_487 len_489 c_490 len_492 c_493 k0 x_633 x_634 x_635 = some o_625) (Int.toNat ((List.length c_493 : Int) - 0)) ?_ ?_
      · exact ⟨c_488, c_491, 0, (StLe.of [(id_494, (some (.cells 1 3 [[(int c_487)]]))), (id_495, (some (.cells 1 23 [[(.ms id_496 0 len_489)]]))), (id_496, (some (.cells 1 3 (List.map int1 c_488)))), (id_497, (some (.cells 1 3 [[(int c_490)]]))), (id_498, (some (.cells 1 23 [[(.ms id_499 0 len_492)]]))), (id_499, (some (.cells 1 3 (List.map int1 c_491)))), (id_500, (some (.cells 1 23 [[(.sl (List.map int1 c_493))]]))), (id_501, (some (.cells 1 133 [[(.fn 83 [(.own id_494 0 0), (.own id_495 0 0), (.own id_497 0 0), (.own id_498 0 0), (.own id_500 0 0), (.own id_501 0 0)])]])))] n_502 rfl (hs_cons (hl_ne (j := id_495) (i := id_494) hneid_494id_495.symm (hl_self _ _ _)) (hs_cons (hl_ne (j := id_496) (i := id_494) hneid_494id_496.symm (hl_ne (j := id_496) (i := id_495) hneid_495id_496.symm (hl_self _ _ _))) (hs_cons (hl_ne (j := id_497) (i := id_494) hneid_494id_497.symm (hl_ne (j := id_497) (i := id_495) hneid_495id_497.symm (hl_ne (j := id_497) (i := id_496) hneid_496id_497.symm (hl_self _ _ _)))) (hs_cons (hl_ne (j := id_501) (i := id_494) hneid_494id_501.symm (hl_ne (j := id_501) (i := id_495) hneid_495id_501.symm (hl_ne (j := id_501) (i := id_496) hneid_496id_501.symm (hl_ne (j := id_501) (i := id_497) hneid_497id_501.symm (hl_ne (j := id_501) (i := id_498) hneid_498id_501.symm (hl_ne (j := id_501) (i := id_499) hneid_499id_501.symm (hl_ne (j := id_501) (i := id_500) hneid_500id_501.symm (hl_self _ _ _)))))))) (hs_cons (hl_self _ _ _) (hs_cons (hl_ne (j := id_498) (i := id_494) hneid_494id_498.symm (hl_ne (j := id_498) (i := id_495) hneid_495id_498.symm (hl_ne (j := id_498) (i := id_496) hneid_496id_498.symm (hl_ne (j := id_498) (i := id_497) hneid_497id_498.symm (hl_self _ _ _))))) (hs_cons (hl_ne (j := id_499) (i := id_494) hneid_494id_499.symm (hl_ne (j := id_499) (i := id_495) hneid_495id_499.symm (hl_ne (j := id_499) (i := id_496) hneid_496id_499.symm (hl_ne (j := id_499) (i := id_497) hneid_497id_499.symm (hl_ne (j := id_499) (i := id_498) hneid_498id_499.symm (hl_self _ _ _)))))) (hs_cons (hl_ne (j := id_500) (i := id_494) hneid_494id_500.symm (hl_ne (j := id_500) (i := id_495) hneid_495id_500.symm (hl_ne (j := id_500) (i := id_496) hneid_496id_500.symm (hl_ne (j := id_500) (i := id_497) hneid_497id_500.symm (hl_ne (j := id_500) (i := id_498) hneid_498id_500.symm (hl_ne (j := id_500) (i := id_499) hneid_499id_500.symm (hl_self _ _ _))))))) hs_nil)))))))) (Nat.le_refl _)), (by omega), (by omega), (by omega), (by omega), (by omega), (by omega), (by omega), (by omega), (by first | exact hlenc_488 | simp), (by first | exact hlenc_491 | simp), (by omega), rfl, H1⟩
      rintro k0 s_ ⟨x_633, x_634, x_635, hs_, _, _, _, _, _, _, _, _, hlenx_633, hlenx_634, _, hk_, H1⟩
      refine SatL.le hs_ ?_
      clear hs_
      rcases k0 with _ | k0
      ·
        rw [sort_chances_c1_m_L0.eq_1] at H1
        repeat refine SatL.seq ?_
        refine SatL.reg [0, 1, 3, 4, 7, 28, 29, 30, 31] [some 31] rfl rfl fun K1067 hK1067 => ?_
        refine st (fun _ hk => s_bin rfl rfl (b_lss hk)) ?_
        refine aopsS_end (hK1067 _ (SatL.norm (n := n_502) (h := hl [(id_495, (some (.cells 1 23 [[(.ms id_496 0 len_489)]]))), (id_496, (some (.cells 1 3 (List.map int1 x_633)))), (id_497, (some (.cells 1 3 [[(int c_490)]]))), (id_501, (some (.cells 1 133 [[(.fn 83 [(.own id_494 0 0), (.own id_495 0 0), (.own id_497 0 0), (.own id_498 0 0), (.own id_500 0 0), (.own id_501 0 0)])]]))), (id_494, (some (.cells 1 3 [[(int c_487)]]))), (id_498, (some (.cells 1 23 [[(.ms id_499 0 len_492)]]))), (id_499, (some (.cells 1 3 (List.map int1 x_634)))), (id_500, (some (.cells 1 23 [[(.sl (List.map int1 c_493))]])))]) (env' := [(0, (int i_485)), (1, (int ways_486)), (3, (.own id_495 0 0)), (4, (.own id_497 0 0)), (7, (.own id_501 0 0)), (28, (.sl (List.map int1 c_493))), (29, (int (List.length c_493 : Int))), (30, (int x_635)), (31, (bool (decide (x_635 < (List.length c_493 : Int)))))]) (L' := [(id_494, (some (.cells 1 3 [[(int c_487)]]))), (id_495, (some (.cells 1 23 [[(.ms id_496 0 len_489)]]))), (id_496, (some (.cells 1 3 (List.map int1 x_633)))), (id_497, (some (.cells 1 3 [[(int c_490)]]))), (id_498, (some (.cells 1 23 [[(.ms id_499 0 len_492)]]))), (id_499, (some (.cells 1 3 (List.map int1 x_634)))), (id_500, (some (.cells 1 23 [[(.sl (List.map int1 c_493))]]))), (id_501, (some (.cells 1 133 [[(.fn 83 [(.own id_494 0 0), (.own id_495 0 0), (.own id_497 0 0), (.own id_498 0 0), (.own id_500 0 0), (.own id_501 0 0)])]])))]) rfl (hs_cons (hl_ne (j := id_494) (i := id_495) hneid_494id_495 (hl_ne (j := id_494) (i := id_496) hneid_494id_496 (hl_ne (j := id_494) (i := id_497) hneid_494id_497 (hl_ne (j := id_494) (i := id_501) hneid_494id_501 (hl_self _ _ _))))) (hs_cons (hl_self _ _ _) (hs_cons (hl_ne (j := id_496) (i := id_495) hneid_495id_496.symm (hl_self _ _ _)) (hs_cons (hl_ne (j := id_497) (i := id_495) hneid_495id_497.symm (hl_ne (j := id_497) (i := id_496) hneid_496id_497.symm (hl_self _ _ _))) (hs_cons (hl_ne (j := id_498) (i := id_495) hneid_495id_498.symm (hl_ne (j := id_498) (i := id_496) hneid_496id_498.symm (hl_ne (j := id_498) (i := id_497) hneid_497id_498.symm (hl_ne (j := id_498) (i := id_501) hneid_498id_501 (hl_ne (j := id_498) (i := id_494) hneid_494id_498.symm (hl_self _ _ _)))))) (hs_cons (hl_ne (j := id_499) (i := id_495) hneid_495id_499.symm (hl_ne (j := id_499) (i := id_496) hneid_496id_499.symm (hl_ne (j := id_499) (i := id_497) hneid_497id_499.symm (hl_ne (j := id_499) (i := id_501) hneid_499id_501 (hl_ne (j := id_499) (i := id_494) hneid_494id_499.symm (hl_ne (j := id_499) (i := id_498) hneid_498id_499.symm (hl_self _ _ _))))))) (hs_cons (hl_ne (j := id_500) (i := id_495) hneid_495id_500.symm (hl_ne (j := id_500) (i := id_496) hneid_496id_500.symm (hl_ne (j := id_500) (i := id_497) hneid_497id_500.symm (hl_ne (j := id_500) (i := id_501) hneid_500id_501 (hl_ne (j := id_500) (i := id_494) hneid_494id_500.symm (hl_ne (j := id_500) (i := id_498) hneid_498id_500.symm (hl_ne (j := id_500) (i := id_499) hneid_499id_500.symm (hl_self _ _ _)))))))) (hs_cons (hl_ne (j := id_501) (i := id_495) hneid_495id_501.symm (hl_ne (j := id_501) (i := id_496) hneid_496id_501.symm (hl_ne (j := id_501) (i := id_497) hneid_497id_501.symm (hl_self _ _ _)))) hs_nil)))))))) ?_))
        repeat refine SatL.seq ?_
        refine SatL.condF rfl (decide_eq_false (by omega)) ?_
        refine SatL.exit ?_
        simp only [thenQ, blockQ, if_true, reduceIte, Nat.reduceEqDiff]
        obtain rfl := Option.some.inj H1
        replace H0 := un2S H0
        obtain rfl := Option.some.inj H0
        exact SatL.nil (fnQ_shutN [(id_494, (some (.cells 1 3 [[(int c_487)]]))), (id_495, (some (.cells 1 23 [[(.ms id_496 0 len_489)]]))), (id_496, (some (.cells 1 3 (List.map int1 x_633)))), (id_497, (some (.cells 1 3 [[(int c_490)]]))), (id_498, (some (.cells 1 23 [[(.ms id_499 0 len_492)]]))), (id_499, (some (.cells 1 3 (List.map int1 x_634)))), (id_500, (some (.cells 1 23 [[(.sl (List.map int1 c_493))]]))), (id_501, (some (.cells 1 133 [[(.fn 83 [(.own id_494 0 0), (.own id_495 0 0), (.own id_497 0 0), (.own id_498 0 0), (.own id_500 0 0), (.own id_501 0 0)])]])))] (.tp []) rfl (sh_cons (hl_self _ _ _) (by omega) (ono_s (OnC.cons (.free _ (.sc _)) OnC.nil)) (sh_cons (hl_ne (j := id_495) (i := id_494) hneid_494id_495.symm (hl_self _ _ _)) (by omega) (ono_s (OnC.cons (.ms _ _ _ (by simp <;> omega)) OnC.nil)) (sh_cons (hl_ne (j := id_496) (i := id_494) hneid_494id_496.symm (hl_ne (j := id_496) (i := id_495) hneid_495id_496.symm (hl_self _ _ _))) (by omega) (ono_typed fr_int1) (sh_cons (hl_ne (j := id_497) (i := id_494) hneid_494id_497.symm (hl_ne (j := id_497) (i := id_495) hneid_495id_497.symm (hl_ne (j := id_497) (i := id_496) hneid_496id_497.symm (hl_self _ _ _)))) (by omega) (ono_s (OnC.cons (.free _ (.sc _)) OnC.nil)) (sh_cons (hl_ne (j := id_498) (i := id_494) hneid_494id_498.symm (hl_ne (j := id_498) (i := id_495) hneid_495id_498.symm (hl_ne (j := id_498) (i := id_496) hneid_496id_498.symm (hl_ne (j := id_498) (i := id_497) hneid_497id_498.symm (hl_self _ _ _))))) (by omega) (ono_s (OnC.cons (.ms _ _ _ (by simp <;> omega)) OnC.nil)) (sh_cons (hl_ne (j := id_499) (i := id_494) hneid_494id_499.symm (hl_ne (j := id_499) (i := id_495) hneid_495id_499.symm (hl_ne (j := id_499) (i := id_496) hneid_496id_499.symm (hl_ne (j := id_499) (i := id_497) hneid_497id_499.symm (hl_ne (j := id_499) (i := id_498) hneid_498id_499.symm (hl_self _ _ _)))))) (by omega) (ono_typed fr_int1) (sh_cons (hl_ne (j := id_500) (i := id_494) hneid_494id_500.symm (hl_ne (j := id_500) (i := id_495) hneid_495id_500.symm (hl_ne (j := id_500) (i := id_496) hneid_496id_500.symm (hl_ne (j := id_500) (i := id_497) hneid_497id_500.symm (hl_ne (j := id_500) (i := id_498) hneid_498id_500.symm (hl_ne (j := id_500) (i := id_499) hneid_499id_500.symm (hl_self _ _ _))))))) (by omega) (ono_s (OnC.cons (.free _ (Free.slm fr_int1)) OnC.nil)) (sh_cons (hl_ne (j := id_501) (i := id_494) hneid_494id_501.symm (hl_ne (j := id_501) (i := id_495) hneid_495id_501.symm (hl_ne (j := id_501) (i := id_496) hneid_496id_501.symm (hl_ne (j := id_501) (i := id_497) hneid_497id_501.symm (hl_ne (j := id_501) (i := id_498) hneid_498id_501.symm (hl_ne (j := id_501) (i := id_499) hneid_499id_501.symm (hl_ne (j := id_501) (i := id_500) hneid_500id_501.symm (hl_self _ _ _)))))))) (by omega) (ono_s (OnC.cons (On.fnl (OnC.cons (.own _ _ _ (by simp <;> omega)) (OnC.cons (.own _ _ _ (by simp <;> omega)) (OnC.cons (.own _ _ _ (by simp <;> omega)) (OnC.cons (.own _ _ _ (by simp <;> omega)) (OnC.cons (.own _ _ _ (by simp <;> omega)) (OnC.cons (.own _ _ _ (by simp <;> omega)) OnC.nil))))))) OnC.nil)) sh_nil)))))))) (hl []) hn_nil (Snap.free _ (Free.tpl FreeL.nil)) ⟨hlenx_633, hlenx_634⟩)
      ·
        rw [sort_chances_c1_m_L0.eq_2] at H1
        repeat refine SatL.seq ?_
        refine SatL.reg [0, 1, 3, 4, 7, 28, 29, 30, 31] [some 31] rfl rfl fun K1069 hK1069 => ?_
        refine st (fun _ hk => s_bin rfl rfl (b_lss hk)) ?_
        refine aopsS_end (hK1069 _ (SatL.norm (n := n_502) (h := hl [(id_495, (some (.cells 1 23 [[(.ms id_496 0 len_489)]]))), (id_496, (some (.cells 1 3 (List.map int1 x_633)))), (id_497, (some (.cells 1 3 [[(int c_490)]]))), (id_501, (some (.cells 1 133 [[(.fn 83 [(.own id_494 0 0), (.own id_495 0 0), (.own id_497 0 0), (.own id_498 0 0), (.own id_500 0 0), (.own id_501 0 0)])]]))), (id_494, (some (.cells 1 3 [[(int c_487)]]))), (id_498, (some (.cells 1 23 [[(.ms id_499 0 len_492)]]))), (id_499, (some (.cells 1 3 (List.map int1 x_634)))), (id_500, (some (.cells 1 23 [[(.sl (List.map int1 c_493))]])))]) (env' := [(0, (int i_485)), (1, (int ways_486)), (3, (.own id_495 0 0)), (4, (.own id_497 0 0)), (7, (.own id_501 0 0)), (28, (.sl (List.map int1 c_493))), (29, (int (List.length c_493 : Int))), (30, (int x_635)), (31, (bool (decide (x_635 < (List.length c_493 : Int)))))]) (L' := [(id_494, (some (.cells 1 3 [[(int c_487)]]))), (id_495, (some (.cells 1 23 [[(.ms id_496 0 len_489)]]))), (id_496, (some (.cells 1 3 (List.map int1 x_633)))), (id_497, (some (.cells 1 3 [[(int c_490)]]))), (id_498, (some (.cells 1 23 [[(.ms id_499 0 len_492)]]))), (id_499, (some (.cells 1 3 (List.map int1 x_634)))), (id_500, (some (.cells 1 23 [[(.sl (List.map int1 c_493))]]))), (id_501, (some (.cells 1 133 [[(.fn 83 [(.own id_494 0 0), (.own id_495 0 0), (.own id_497 0 0), (.own id_498 0 0), (.own id_500 0 0), (.own id_501 0 0)])]])))]) rfl (hs_cons (hl_ne (j := id_494) (i := id_495) hneid_494id_495 (hl_ne (j := id_494) (i := id_496) hneid_494id_496 (hl_ne (j := id_494) (i := id_497) hneid_494id_497 (hl_ne (j := id_494) (i := id_501) hneid_494id_501 (hl_self _ _ _))))) (hs_cons (hl_self _ _ _) (hs_cons (hl_ne (j := id_496) (i := id_495) hneid_495id_496.symm (hl_self _ _ _)) (hs_cons (hl_ne (j := id_497) (i := id_495) hneid_495id_497.symm (hl_ne (j := id_497) (i := id_496) hneid_496id_497.symm (hl_self _ _ _))) (hs_cons (hl_ne (j := id_498) (i := id_495) hneid_495id_498.symm (hl_ne (j := id_498) (i := id_496) hneid_496id_498.symm (hl_ne (j := id_498) (i := id_497) hneid_497id_498.symm (hl_ne (j := id_498) (i := id_501) hneid_498id_501 (hl_ne (j := id_498) (i := id_494) hneid_494id_498.symm (hl_self _ _ _)))))) (hs_cons (hl_ne (j := id_499) (i := id_495) hneid_495id_499.symm (hl_ne (j := id_499) (i := id_496) hneid_496id_499.symm (hl_ne (j := id_499) (i := id_497) hneid_497id_499.symm (hl_ne (j := id_499) (i := id_501) hneid_499id_501 (hl_ne (j := id_499) (i := id_494) hneid_494id_499.symm (hl_ne (j := id_499) (i := id_498) hneid_498id_499.symm (hl_self _ _ _))))))) (hs_cons (hl_ne (j := id_500) (i := id_495) hneid_495id_500.symm (hl_ne (j := id_500) (i := id_496) hneid_496id_500.symm (hl_ne (j := id_500) (i := id_497) hneid_497id_500.symm (hl_ne (j := id_500) (i := id_501) hneid_500id_501 (hl_ne (j := id_500) (i := id_494) hneid_494id_500.symm (hl_ne (j := id_500) (i := id_498) hneid_498id_500.symm (hl_ne (j := id_500) (i := id_499) hneid_499id_500.symm (hl_self _ _ _)))))))) (hs_cons (hl_ne (j := id_501) (i := id_495) hneid_495id_501.symm (hl_ne (j := id_501) (i := id_496) hneid_496id_501.symm (hl_ne (j := id_501) (i := id_497) hneid_497id_501.symm (hl_self _ _ _)))) hs_nil)))))))) ?_))
        repeat refine SatL.seq ?_
        refine SatL.condT rfl (decide_eq_true (by omega)) ?_
        have hlt1071 : (x_635 < (List.length c_493 : Int)) := by omega
        refine SatL.skip ?_
        repeat refine SatL.seq ?_
        refine SatL.block ?_
        repeat refine SatL.seq ?_
        refine SatL.reg [0, 1, 3, 4, 7, 11, 12, 28, 29, 30] [some 32, some 33, some 34, some 11, some 12] rfl rfl fun K1072 hK1072 => ?_
        refine st (fun _ hk => s_mv (v := (int x_635)) rfl hk) ?_
        obtain ⟨e_643, he_643, H1⟩ := bindS H1
        refine st (fun _ hk => s_ixSl elem_23 rfl rfl he_643 cells_3 rfl (by decide) hk) ?_
        refine st (fun _ hk => s_load1 (c := (int e_643)) agg_3 (d_fp rfl) rfl hk) ?_
        refine st (fun _ hk => s_as (v := (int x_635)) rfl hk) ?_
        refine st (fun _ hk => s_as (v := (int e_643)) rfl hk) ?_
        refine aopsS_end (hK1072 _ (SatL.norm (n := n_502) (h := hl [(id_494, (some (.cells 1 3 [[(int c_487)]]))), (id_495, (some (.cells 1 23 [[(.ms id_496 0 len_489)]]))), (id_496, (some (.cells 1 3 (List.map int1 x_633)))), (id_497, (some (.cells 1 3 [[(int c_490)]]))), (id_498, (some (.cells 1 23 [[(.ms id_499 0 len_492)]]))), (id_499, (some (.cells 1 3 (List.map int1 x_634)))), (id_500, (some (.cells 1 23 [[(.sl (List.map int1 c_493))]]))), (id_501, (some (.cells 1 133 [[(.fn 83 [(.own id_494 0 0), (.own id_495 0 0), (.own id_497 0 0), (.own id_498 0 0), (.own id_500 0 0), (.own id_501 0 0)])]])))]) (env' := [(0, (int i_485)), (1, (int ways_486)), (3, (.own id_495 0 0)), (4, (.own id_497 0 0)), (7, (.own id_501 0 0)), (11, (int x_635)), (12, (int e_643)), (28, (.sl (List.map int1 c_493))), (29, (int (List.length c_493 : Int))), (30, (int x_635))]) (L' := [(id_494, (some (.cells 1 3 [[(int c_487)]]))), (id_495, (some (.cells 1 23 [[(.ms id_496 0 len_489)]]))), (id_496, (some (.cells 1 3 (List.map int1 x_633)))), (id_497, (some (.cells 1 3 [[(int c_490)]]))), (id_498, (some (.cells 1 23 [[(.ms id_499 0 len_492)]]))), (id_499, (some (.cells 1 3 (List.map int1 x_634)))), (id_500, (some (.cells 1 23 [[(.sl (List.map int1 c_493))]]))), (id_501, (some (.cells 1 133 [[(.fn 83 [(.own id_494 0 0), (.own id_495 0 0), (.own id_497 0 0), (.own id_498 0 0), (.own id_500 0 0), (.own id_501 0 0)])]])))]) rfl hs_refl ?_))
        repeat refine SatL.seq ?_
        refine SatL.reg [0, 1, 3, 4, 7, 11, 12, 28, 29, 30, 36] [some 35, some 36] rfl rfl fun K1078 hK1078 => ?_
        refine st (fun _ hk => s_mv (v := (int e_643)) rfl hk) ?_
        refine st (fun _ hk => s_bin rfl rfl (b_eql hk)) ?_
        refine aopsS_end (hK1078 _ (SatL.norm (n := n_502) (h := hl [(id_494, (some (.cells 1 3 [[(int c_487)]]))), (id_495, (some (.cells 1 23 [[(.ms id_496 0 len_489)]]))), (id_496, (some (.cells 1 3 (List.map int1 x_633)))), (id_497, (some (.cells 1 3 [[(int c_490)]]))), (id_498, (some (.cells 1 23 [[(.ms id_499 0 len_492)]]))), (id_499, (some (.cells 1 3 (List.map int1 x_634)))), (id_500, (some (.cells 1 23 [[(.sl (List.map int1 c_493))]]))), (id_501, (some (.cells 1 133 [[(.fn 83 [(.own id_494 0 0), (.own id_495 0 0), (.own id_497 0 0), (.own id_498 0 0), (.own id_500 0 0), (.own id_501 0 0)])]])))]) (env' := [(0, (int i_485)), (1, (int ways_486)), (3, (.own id_495 0 0)), (4, (.own id_497 0 0)), (7, (.own id_501 0 0)), (11, (int x_635)), (12, (int e_643)), (28, (.sl (List.map int1 c_493))), (29, (int (List.length c_493 : Int))), (30, (int x_635)), (36, (bool (e_643 == 0)))]) (L' := [(id_494, (some (.cells 1 3 [[(int c_487)]]))), (id_495, (some (.cells 1 23 [[(.ms id_496 0 len_489)]]))), (id_496, (some (.cells 1 3 (List.map int1 x_633)))), (id_497, (some (.cells 1 3 [[(int c_490)]]))), (id_498, (some (.cells 1 23 [[(.ms id_499 0 len_492)]]))), (id_499, (some (.cells 1 3 (List.map int1 x_634)))), (id_500, (some (.cells 1 23 [[(.sl (List.map int1 c_493))]]))), (id_501, (some (.cells 1 133 [[(.fn 83 [(.own id_494 0 0), (.own id_495 0 0), (.own id_497 0 0), (.own id_498 0 0), (.own id_500 0 0), (.own id_501 0 0)])]])))]) rfl hs_refl ?_))
        repeat refine SatL.seq ?_
        refine SatL.condX rfl (fun hc1081 => ?_) (fun hc1081 => ?_)
        ·
          replace H1 := iteT H1 hc1081
          refine SatL.exit ?_
          simp only [thenQ, blockQ, if_true, reduceIte, Nat.reduceEqDiff]
          repeat refine SatL.seq ?_
          refine SatL.rege [some 54, some 30] rfl rfl fun K1082 hK1082 => ?_
          refine st (fun _ hk => s_bin rfl rfl (b_add64 hk)) ?_
          refine st (fun _ hk => s_mv (v := (int (w64 (x_635 + 1)))) rfl hk) ?_
          refine aopsS_end (hK1082 _ ?_)
          have hw1085 : w64 (x_635 + 1) = x_635 + 1 := w64_id (by omega) (by omega)
          exact (thenN ⟨k0, ⟨x_633, x_634, (w64 (x_635 + 1)), (StLe.of [(id_494, (some (.cells 1 3 [[(int c_487)]]))), (id_495, (some (.cells 1 23 [[(.ms id_496 0 len_489)]]))), (id_496, (some (.cells 1 3 (List.map int1 x_633)))), (id_497, (some (.cells 1 3 [[(int c_490)]]))), (id_498, (some (.cells 1 23 [[(.ms id_499 0 len_492)]]))), (id_499, (some (.cells 1 3 (List.map int1 x_634)))), (id_500, (some (.cells 1 23 [[(.sl (List.map int1 c_493))]]))), (id_501, (some (.cells 1 133 [[(.fn 83 [(.own id_494 0 0), (.own id_495 0 0), (.own id_497 0 0), (.own id_498 0 0), (.own id_500 0 0), (.own id_501 0 0)])]])))] n_502 rfl (hs_cons (hl_ne (j := id_495) (i := id_494) hneid_494id_495.symm (hl_self _ _ _)) (hs_cons (hl_ne (j := id_496) (i := id_494) hneid_494id_496.symm (hl_ne (j := id_496) (i := id_495) hneid_495id_496.symm (hl_self _ _ _))) (hs_cons (hl_ne (j := id_497) (i := id_494) hneid_494id_497.symm (hl_ne (j := id_497) (i := id_495) hneid_495id_497.symm (hl_ne (j := id_497) (i := id_496) hneid_496id_497.symm (hl_self _ _ _)))) (hs_cons (hl_ne (j := id_501) (i := id_494) hneid_494id_501.symm (hl_ne (j := id_501) (i := id_495) hneid_495id_501.symm (hl_ne (j := id_501) (i := id_496) hneid_496id_501.symm (hl_ne (j := id_501) (i := id_497) hneid_497id_501.symm (hl_ne (j := id_501) (i := id_498) hneid_498id_501.symm (hl_ne (j := id_501) (i := id_499) hneid_499id_501.symm (hl_ne (j := id_501) (i := id_500) hneid_500id_501.symm (hl_self _ _ _)))))))) (hs_cons (hl_self _ _ _) (hs_cons (hl_ne (j := id_498) (i := id_494) hneid_494id_498.symm (hl_ne (j := id_498) (i := id_495) hneid_495id_498.symm (hl_ne (j := id_498) (i := id_496) hneid_496id_498.symm (hl_ne (j := id_498) (i := id_497) hneid_497id_498.symm (hl_self _ _ _))))) (hs_cons (hl_ne (j := id_499) (i := id_494) hneid_494id_499.symm (hl_ne (j := id_499) (i := id_495) hneid_495id_499.symm (hl_ne (j := id_499) (i := id_496) hneid_496id_499.symm (hl_ne (j := id_499) (i := id_497) hneid_497id_499.symm (hl_ne (j := id_499) (i := id_498) hneid_498id_499.symm (hl_self _ _ _)))))) (hs_cons (hl_ne (j := id_500) (i := id_494) hneid_494id_500.symm (hl_ne (j := id_500) (i := id_495) hneid_495id_500.symm (hl_ne (j := id_500) (i := id_496) hneid_496id_500.symm (hl_ne (j := id_500) (i := id_497) hneid_497id_500.symm (hl_ne (j := id_500) (i := id_498) hneid_498id_500.symm (hl_ne (j := id_500) (i := id_499) hneid_499id_500.symm (hl_self _ _ _))))))) hs_nil)))))))) (Nat.le_refl _)), (by omega), (by omega), (by omega), (by omega), (by omega), (by omega), (by omega), (by omega), (by first | exact hlenx_633 | simp), (by first | exact hlenx_634 | simp), (by omega), (by rw [hw1085]; omega), (Eq.mpr (congrArg (fun q_ => sort_chances_c1_m_L0 (sort_chances_c1_m fuel) i_485 ways_486 c_487 len_489 c_490 len_492 c_493 k0 x_633 x_634 q_ = some o_625) hw1085) H1)⟩, by omega⟩)
        ·
          replace H1 := iteF H1 hc1081
          refine SatL.skip ?_
          repeat refine SatL.seq ?_
          refine SatL.reg [0, 1, 3, 4, 7, 11, 12, 28, 29, 30] [some 37, some 38, some 39, some 40, none] rfl rfl fun K1086 hK1086 => ?_
          refine st (fun _ hk => s_load1 (c := (.ms id_496 0 len_489)) agg_23 (d_own rfl (hl_ne (j := id_495) (i := id_494) hneid_494id_495.symm (hl_self _ _ _)) rfl rfl) rfl hk) ?_
          refine st (fun _ hk => s_mv (v := (int i_485)) rfl hk) ?_
          refine st (fun _ hk => s_mv (v := (int x_635)) rfl hk) ?_
          obtain ⟨e_644, he_644, H1⟩ := bindS H1
          refine st (fun _ hk => s_ixM0 elem_23 rfl rfl (hl_ne (j := id_496) (i := id_494) hneid_494id_496.symm (hl_ne (j := id_496) (i := id_495) hneid_495id_496.symm (hl_self _ _ _))) (gi_lt he_644).1 (ltl he_644 hlenx_633) cells_3 (by decide) hk) ?_
          refine s0 (fun _ hk => s_store rfl (hl_ne (j := id_496) (i := id_494) hneid_494id_496.symm (hl_ne (j := id_496) (i := id_495) hneid_495id_496.symm (hl_self _ _ _))) (mapget he_644) rfl cells_3 rfl (by decide) (Nat.le_of_ble_eq_true rfl) (set_map (f := int1) (y := x_635) rfl) (hu_ne (j := id_496) (i := id_494) hneid_494id_496.symm (hu_ne (j := id_496) (i := id_495) hneid_495id_496.symm (hu_self _ _ _ _))) hk) ?_
          refine aopsS_end (hK1086 _ (SatL.norm (n := n_502) (h := hl [(id_494, (some (.cells 1 3 [[(int c_487)]]))), (id_495, (some (.cells 1 23 [[(.ms id_496 0 len_489)]]))), (id_496, (some (.cells 1 3 (List.map int1 (List.set x_633 (Int.toNat i_485) x_635))))), (id_497, (some (.cells 1 3 [[(int c_490)]]))), (id_498, (some (.cells 1 23 [[(.ms id_499 0 len_492)]]))), (id_499, (some (.cells 1 3 (List.map int1 x_634)))), (id_500, (some (.cells 1 23 [[(.sl (List.map int1 c_493))]]))), (id_501, (some (.cells 1 133 [[(.fn 83 [(.own id_494 0 0), (.own id_495 0 0), (.own id_497 0 0), (.own id_498 0 0), (.own id_500 0 0), (.own id_501 0 0)])]])))]) (env' := [(0, (int i_485)), (1, (int ways_486)), (3, (.own id_495 0 0)), (4, (.own id_497 0 0)), (7, (.own id_501 0 0)), (11, (int x_635)), (12, (int e_643)), (28, (.sl (List.map int1 c_493))), (29, (int (List.length c_493 : Int))), (30, (int x_635))]) (L' := [(id_494, (some (.cells 1 3 [[(int c_487)]]))), (id_495, (some (.cells 1 23 [[(.ms id_496 0 len_489)]]))), (id_496, (some (.cells 1 3 (List.map int1 (List.set x_633 (Int.toNat i_485) x_635))))), (id_497, (some (.cells 1 3 [[(int c_490)]]))), (id_498, (some (.cells 1 23 [[(.ms id_499 0 len_492)]]))), (id_499, (some (.cells 1 3 (List.map int1 x_634)))), (id_500, (some (.cells 1 23 [[(.sl (List.map int1 c_493))]]))), (id_501, (some (.cells 1 133 [[(.fn 83 [(.own id_494 0 0), (.own id_495 0 0), (.own id_497 0 0), (.own id_498 0 0), (.own id_500 0 0), (.own id_501 0 0)])]])))]) rfl hs_refl ?_))
          repeat refine SatL.seq ?_
          refine SatL.reg [0, 1, 3, 4, 7, 12, 28, 29, 30, 43] [some 41, some 42, some 43] rfl rfl fun K1092 hK1092 => ?_
          refine st (fun _ hk => s_mv (v := (int x_635)) rfl hk) ?_
          refine st (fun _ hk => s_load1 (c := (int c_490)) agg_3 (d_own rfl (hl_ne (j := id_497) (i := id_494) hneid_494id_497.symm (hl_ne (j := id_497) (i := id_495) hneid_495id_497.symm (hl_ne (j := id_497) (i := id_496) hneid_496id_497.symm (hl_self _ _ _)))) rfl rfl) rfl hk) ?_
          refine st (fun _ hk => s_bin rfl rfl (b_eql hk)) ?_
          refine aopsS_end (hK1092 _ (SatL.norm (n := n_502) (h := hl [(id_494, (some (.cells 1 3 [[(int c_487)]]))), (id_495, (some (.cells 1 23 [[(.ms id_496 0 len_489)]]))), (id_496, (some (.cells 1 3 (List.map int1 (List.set x_633 (Int.toNat i_485) x_635))))), (id_497, (some (.cells 1 3 [[(int c_490)]]))), (id_498, (some (.cells 1 23 [[(.ms id_499 0 len_492)]]))), (id_499, (some (.cells 1 3 (List.map int1 x_634)))), (id_500, (some (.cells 1 23 [[(.sl (List.map int1 c_493))]]))), (id_501, (some (.cells 1 133 [[(.fn 83 [(.own id_494 0 0), (.own id_495 0 0), (.own id_497 0 0), (.own id_498 0 0), (.own id_500 0 0), (.own id_501 0 0)])]])))]) (env' := [(0, (int i_485)), (1, (int ways_486)), (3, (.own id_495 0 0)), (4, (.own id_497 0 0)), (7, (.own id_501 0 0)), (12, (int e_643)), (28, (.sl (List.map int1 c_493))), (29, (int (List.length c_493 : Int))), (30, (int x_635)), (43, (bool (x_635 == c_490)))]) (L' := [(id_494, (some (.cells 1 3 [[(int c_487)]]))), (id_495, (some (.cells 1 23 [[(.ms id_496 0 len_489)]]))), (id_496, (some (.cells 1 3 (List.map int1 (List.set x_633 (Int.toNat i_485) x_635))))), (id_497, (some (.cells 1 3 [[(int c_490)]]))), (id_498, (some (.cells 1 23 [[(.ms id_499 0 len_492)]]))), (id_499, (some (.cells 1 3 (List.map int1 x_634)))), (id_500, (some (.cells 1 23 [[(.sl (List.map int1 c_493))]]))), (id_501, (some (.cells 1 133 [[(.fn 83 [(.own id_494 0 0), (.own id_495 0 0), (.own id_497 0 0), (.own id_498 0 0), (.own id_500 0 0), (.own id_501 0 0)])]])))]) rfl hs_refl ?_))
          repeat refine SatL.seq ?_
          refine SatL.condX rfl (fun hc1096 => ?_) (fun hc1096 => ?_)
          ·
            replace H1 := iteT H1 hc1096
            repeat refine SatL.seq ?_
            refine SatL.reg [0, 1, 3, 4, 7, 12, 28, 29, 30] [some 44, some 45, some 46, none] rfl rfl fun K1097 hK1097 => ?_
            refine st (fun _ hk => s_load1 (c := (.ms id_496 0 len_489)) agg_23 (d_own rfl (hl_ne (j := id_495) (i := id_494) hneid_494id_495.symm (hl_self _ _ _)) rfl rfl) rfl hk) ?_
            refine st (fun _ hk => s_mv (v := (int i_485)) rfl hk) ?_
            obtain ⟨e_645, he_645, H1⟩ := bindS H1
            refine st (fun _ hk => s_ixM0 elem_23 rfl rfl (hl_ne (j := id_496) (i := id_494) hneid_494id_496.symm (hl_ne (j := id_496) (i := id_495) hneid_495id_496.symm (hl_self _ _ _))) (gi_lt he_645).1 (ltl he_645 (List.length_set.trans hlenx_633)) cells_3 (by decide) hk) ?_
            refine s0 (fun _ hk => s_store rfl (hl_ne (j := id_496) (i := id_494) hneid_494id_496.symm (hl_ne (j := id_496) (i := id_495) hneid_495id_496.symm (hl_self _ _ _))) (mapget he_645) rfl cells_3 rfl (by decide) (Nat.le_of_ble_eq_true rfl) (set_map (f := int1) (y := (-1)) rfl) (hu_ne (j := id_496) (i := id_494) hneid_494id_496.symm (hu_ne (j := id_496) (i := id_495) hneid_495id_496.symm (hu_self _ _ _ _))) hk) ?_
            refine aopsS_end (hK1097 _ (SatL.norm (n := n_502) (h := hl [(id_494, (some (.cells 1 3 [[(int c_487)]]))), (id_495, (some (.cells 1 23 [[(.ms id_496 0 len_489)]]))), (id_496, (some (.cells 1 3 (List.map int1 (List.set (List.set x_633 (Int.toNat i_485) x_635) (Int.toNat i_485) (-1)))))), (id_497, (some (.cells 1 3 [[(int c_490)]]))), (id_498, (some (.cells 1 23 [[(.ms id_499 0 len_492)]]))), (id_499, (some (.cells 1 3 (List.map int1 x_634)))), (id_500, (some (.cells 1 23 [[(.sl (List.map int1 c_493))]]))), (id_501, (some (.cells 1 133 [[(.fn 83 [(.own id_494 0 0), (.own id_495 0 0), (.own id_497 0 0), (.own id_498 0 0), (.own id_500 0 0), (.own id_501 0 0)])]])))]) (env' := [(0, (int i_485)), (1, (int ways_486)), (3, (.own id_495 0 0)), (4, (.own id_497 0 0)), (7, (.own id_501 0 0)), (12, (int e_643)), (28, (.sl (List.map int1 c_493))), (29, (int (List.length c_493 : Int))), (30, (int x_635))]) (L' := [(id_494, (some (.cells 1 3 [[(int c_487)]]))), (id_495, (some (.cells 1 23 [[(.ms id_496 0 len_489)]]))), (id_496, (some (.cells 1 3 (List.map int1 (List.set (List.set x_633 (Int.toNat i_485) x_635) (Int.toNat i_485) (-1)))))), (id_497, (some (.cells 1 3 [[(int c_490)]]))), (id_498, (some (.cells 1 23 [[(.ms id_499 0 len_492)]]))), (id_499, (some (.cells 1 3 (List.map int1 x_634)))), (id_500, (some (.cells 1 23 [[(.sl (List.map int1 c_493))]]))), (id_501, (some (.cells 1 133 [[(.fn 83 [(.own id_494 0 0), (.own id_495 0 0), (.own id_497 0 0), (.own id_498 0 0), (.own id_500 0 0), (.own id_501 0 0)])]])))]) rfl hs_refl ?_))
            repeat refine SatL.seq ?_
            refine SatL.rege [some 47, some 48, some 49, some 50, some 51, some 52, some 53] rfl rfl fun K1102 hK1102 => ?_
            refine st (fun _ hk => s_load1 (c := (.fn 83 [(.own id_494 0 0), (.own id_495 0 0), (.own id_497 0 0), (.own id_498 0 0), (.own id_500 0 0), (.own id_501 0 0)])) agg_133 (d_own rfl (hl_ne (j := id_501) (i := id_494) hneid_494id_501.symm (hl_ne (j := id_501) (i := id_495) hneid_495id_501.symm (hl_ne (j := id_501) (i := id_496) hneid_496id_501.symm (hl_ne (j := id_501) (i := id_497) hneid_497id_501.symm (hl_ne (j := id_501) (i := id_498) hneid_498id_501.symm (hl_ne (j := id_501) (i := id_499) hneid_499id_501.symm (hl_ne (j := id_501) (i := id_500) hneid_500id_501.symm (hl_self _ _ _)))))))) rfl rfl) rfl hk) ?_
            refine st (fun _ hk => s_mv (v := (int i_485)) rfl hk) ?_
            refine st (fun _ hk => s_bin rfl rfl (b_add64 hk)) ?_
            refine st (fun _ hk => s_mv (v := (int ways_486)) rfl hk) ?_
            refine st (fun _ hk => s_mv (v := (int e_643)) rfl hk) ?_
            refine st (fun _ hk => s_bin rfl rfl (b_mul64 hk)) ?_
            obtain ⟨⟨c_646, c_647⟩, hc_646, H1⟩ := bindS H1
            replace H1 := un2S H1
            refine aopsS_step fun _ hK => s_call (avs := [(int (w64 (i_485 + 1))), (int (w64 (ways_486 * e_643))), (.own id_494 0 0), (.own id_495 0 0), (.own id_497 0 0), (.own id_498 0 0), (.own id_500 0 0), (.own id_501 0 0)]) rfl rfl rfl (HC.mut (LE := [(id_494, (some (.cells 1 3 [[(int c_487)]]))), (id_495, (some (.cells 1 23 [[(.ms id_496 0 len_489)]]))), (id_496, (some (.cells 1 3 (List.map int1 (List.set (List.set x_633 (Int.toNat i_485) x_635) (Int.toNat i_485) (-1)))))), (id_497, (some (.cells 1 3 [[(int c_490)]]))), (id_498, (some (.cells 1 23 [[(.ms id_499 0 len_492)]]))), (id_499, (some (.cells 1 3 (List.map int1 x_634)))), (id_500, (some (.cells 1 23 [[(.sl (List.map int1 c_493))]]))), (id_501, (some (.cells 1 133 [[(.fn 83 [(.own id_494 0 0), (.own id_495 0 0), (.own id_497 0 0), (.own id_498 0 0), (.own id_500 0 0), (.own id_501 0 0)])]])))]) (L' := [(id_494, (some (.cells 1 3 [[(int c_487)]]))), (id_495, (some (.cells 1 23 [[(.ms id_496 0 len_489)]]))), (id_496, (some (.cells 1 3 (List.map int1 c_646)))), (id_497, (some (.cells 1 3 [[(int c_490)]]))), (id_498, (some (.cells 1 23 [[(.ms id_499 0 len_492)]]))), (id_499, (some (.cells 1 3 (List.map int1 c_647)))), (id_500, (some (.cells 1 23 [[(.sl (List.map int1 c_493))]]))), (id_501, (some (.cells 1 133 [[(.fn 83 [(.own id_494 0 0), (.own id_495 0 0), (.own id_497 0 0), (.own id_498 0 0), (.own id_500 0 0), (.own id_501 0 0)])]])))]) (L2 := [(id_494, (some (.cells 1 3 [[(int c_487)]]))), (id_495, (some (.cells 1 23 [[(.ms id_496 0 len_489)]]))), (id_496, (some (.cells 1 3 (List.map int1 c_646)))), (id_497, (some (.cells 1 3 [[(int c_490)]]))), (id_498, (some (.cells 1 23 [[(.ms id_499 0 len_492)]]))), (id_499, (some (.cells 1 3 (List.map int1 c_647)))), (id_500, (some (.cells 1 23 [[(.sl (List.map int1 c_493))]]))), (id_501, (some (.cells 1 133 [[(.fn 83 [(.own id_494 0 0), (.own id_495 0 0), (.own id_497 0 0), (.own id_498 0 0), (.own id_500 0 0), (.own id_501 0 0)])]])))]) (v := (.tp [])) [id_494, id_495, id_496, id_497, id_498, id_499, id_500, id_501] (hi_cons (by simp) (hl_self _ _ _) (hi_cons (by simp) (hl_ne (j := id_495) (i := id_494) hneid_494id_495.symm (hl_self _ _ _)) (hi_cons (by simp) (hl_ne (j := id_496) (i := id_494) hneid_494id_496.symm (hl_ne (j := id_496) (i := id_495) hneid_495id_496.symm (hl_self _ _ _))) (hi_cons (by simp) (hl_ne (j := id_497) (i := id_494) hneid_494id_497.symm (hl_ne (j := id_497) (i := id_495) hneid_495id_497.symm (hl_ne (j := id_497) (i := id_496) hneid_496id_497.symm (hl_self _ _ _)))) (hi_cons (by simp) (hl_ne (j := id_498) (i := id_494) hneid_494id_498.symm (hl_ne (j := id_498) (i := id_495) hneid_495id_498.symm (hl_ne (j := id_498) (i := id_496) hneid_496id_498.symm (hl_ne (j := id_498) (i := id_497) hneid_497id_498.symm (hl_self _ _ _))))) (hi_cons (by simp) (hl_ne (j := id_499) (i := id_494) hneid_494id_499.symm (hl_ne (j := id_499) (i := id_495) hneid_495id_499.symm (hl_ne (j := id_499) (i := id_496) hneid_496id_499.symm (hl_ne (j := id_499) (i := id_497) hneid_497id_499.symm (hl_ne (j := id_499) (i := id_498) hneid_498id_499.symm (hl_self _ _ _)))))) (hi_cons (by simp) (hl_ne (j := id_500) (i := id_494) hneid_494id_500.symm (hl_ne (j := id_500) (i := id_495) hneid_495id_500.symm (hl_ne (j := id_500) (i := id_496) hneid_496id_500.symm (hl_ne (j := id_500) (i := id_497) hneid_497id_500.symm (hl_ne (j := id_500) (i := id_498) hneid_498id_500.symm (hl_ne (j := id_500) (i := id_499) hneid_499id_500.symm (hl_self _ _ _))))))) (hi_cons (by simp) (hl_ne (j := id_501) (i := id_494) hneid_494id_501.symm (hl_ne (j := id_501) (i := id_495) hneid_495id_501.symm (hl_ne (j := id_501) (i := id_496) hneid_496id_501.symm (hl_ne (j := id_501) (i := id_497) hneid_497id_501.symm (hl_ne (j := id_501) (i := id_498) hneid_498id_501.symm (hl_ne (j := id_501) (i := id_499) hneid_499id_501.symm (hl_ne (j := id_501) (i := id_500) hneid_500id_501.symm (hl_self _ _ _)))))))) hi_nil)))))))) (by simp <;> omega) (.free _ (Free.tpl FreeL.nil)) (OnL.cons (by simp) (ono_s (OnC.cons (.free _ (.sc _)) OnC.nil)) (OnL.cons (by simp) (ono_s (OnC.cons (.ms _ _ _ (by simp <;> omega)) OnC.nil)) (OnL.cons (by simp) (ono_typed fr_int1) (OnL.cons (by simp) (ono_s (OnC.cons (.free _ (.sc _)) OnC.nil)) (OnL.cons (by simp) (ono_s (OnC.cons (.ms _ _ _ (by simp <;> omega)) OnC.nil)) (OnL.cons (by simp) (ono_typed fr_int1) (OnL.cons (by simp) (ono_s (OnC.cons (.free _ (Free.slm fr_int1)) OnC.nil)) (OnL.cons (by simp) (ono_s (OnC.cons (On.fnl (OnC.cons (.own _ _ _ (by simp <;> omega)) (OnC.cons (.own _ _ _ (by simp <;> omega)) (OnC.cons (.own _ _ _ (by simp <;> omega)) (OnC.cons (.own _ _ _ (by simp <;> omega)) (OnC.cons (.own _ _ _ (by simp <;> omega)) (OnC.cons (.own _ _ _ (by simp <;> omega)) OnC.nil))))))) OnC.nil)) OnL.nil)))))))) (@ih_sort_chances_c1_m (w64 (i_485 + 1)) (w64 (ways_486 * e_643)) c_487 (List.set (List.set x_633 (Int.toNat i_485) x_635) (Int.toNat i_485) (-1)) len_489 c_490 x_634 len_492 c_493 id_494 id_495 id_496 id_497 id_498 id_499 id_500 id_501 n_502 (List.length_set.trans (List.length_set.trans hlenx_633)) hlenx_634 ⟨(by omega), (by omega), (by omega), (by omega), (by omega), (by omega), (by omega), (by omega), hneid_494id_495, hneid_494id_496, hneid_494id_497, hneid_494id_498, hneid_494id_499, hneid_494id_500, hneid_494id_501, hneid_495id_496, hneid_495id_497, hneid_495id_498, hneid_495id_499, hneid_495id_500, hneid_495id_501, hneid_496id_497, hneid_496id_498, hneid_496id_499, hneid_496id_500, hneid_496id_501, hneid_497id_498, hneid_497id_499, hneid_497id_500, hneid_497id_501, hneid_498id_499, hneid_498id_500, hneid_498id_501, hneid_499id_500, hneid_499id_501, hneid_500id_501⟩ _ hc_646) (Rest.drop (by simp) (Rest.drop (by simp) (Rest.drop (by simp) (Rest.drop (by simp) (Rest.drop (by simp) (Rest.drop (by simp) (Rest.drop (by simp) (Rest.drop (by simp) Rest.nil)))))))) rfl (fun hF1109 => (hK _ _ _ ?_)))
            clear hK
            refine aopsS_end (hK1102 _ ?_)
            refine (blockN (thenN ?_))
            refine SatL.forget [0, 1, 3, 4, 7, 28, 29, 30] (SatL.norm (n := n_502) (h := hl [(id_494, (some (.cells 1 3 [[(int c_487)]]))), (id_495, (some (.cells 1 23 [[(.ms id_496 0 len_489)]]))), (id_496, (some (.cells 1 3 (List.map int1 c_646)))), (id_497, (some (.cells 1 3 [[(int c_490)]]))), (id_498, (some (.cells 1 23 [[(.ms id_499 0 len_492)]]))), (id_499, (some (.cells 1 3 (List.map int1 c_647)))), (id_500, (some (.cells 1 23 [[(.sl (List.map int1 c_493))]]))), (id_501, (some (.cells 1 133 [[(.fn 83 [(.own id_494 0 0), (.own id_495 0 0), (.own id_497 0 0), (.own id_498 0 0), (.own id_500 0 0), (.own id_501 0 0)])]])))]) (env' := [(0, (int i_485)), (1, (int ways_486)), (3, (.own id_495 0 0)), (4, (.own id_497 0 0)), (7, (.own id_501 0 0)), (28, (.sl (List.map int1 c_493))), (29, (int (List.length c_493 : Int))), (30, (int x_635))]) (L' := [(id_494, (some (.cells 1 3 [[(int c_487)]]))), (id_495, (some (.cells 1 23 [[(.ms id_496 0 len_489)]]))), (id_496, (some (.cells 1 3 (List.map int1 c_646)))), (id_497, (some (.cells 1 3 [[(int c_490)]]))), (id_498, (some (.cells 1 23 [[(.ms id_499 0 len_492)]]))), (id_499, (some (.cells 1 3 (List.map int1 c_647)))), (id_500, (some (.cells 1 23 [[(.sl (List.map int1 c_493))]]))), (id_501, (some (.cells 1 133 [[(.fn 83 [(.own id_494 0 0), (.own id_495 0 0), (.own id_497 0 0), (.own id_498 0 0), (.own id_500 0 0), (.own id_501 0 0)])]])))]) rfl hs_refl ?_)
            repeat refine SatL.seq ?_
            refine SatL.rege [some 54, some 30] rfl rfl fun K1111 hK1111 => ?_
            refine st (fun _ hk => s_bin rfl rfl (b_add64 hk)) ?_
            refine st (fun _ hk => s_mv (v := (int (w64 (x_635 + 1)))) rfl hk) ?_
            refine aopsS_end (hK1111 _ ?_)
            have hw1114 : w64 (x_635 + 1) = x_635 + 1 := w64_id (by omega) (by omega)
            exact (thenN ⟨k0, ⟨c_646, c_647, (w64 (x_635 + 1)), (StLe.of [(id_494, (some (.cells 1 3 [[(int c_487)]]))), (id_495, (some (.cells 1 23 [[(.ms id_496 0 len_489)]]))), (id_496, (some (.cells 1 3 (List.map int1 c_646)))), (id_497, (some (.cells 1 3 [[(int c_490)]]))), (id_498, (some (.cells 1 23 [[(.ms id_499 0 len_492)]]))), (id_499, (some (.cells 1 3 (List.map int1 c_647)))), (id_500, (some (.cells 1 23 [[(.sl (List.map int1 c_493))]]))), (id_501, (some (.cells 1 133 [[(.fn 83 [(.own id_494 0 0), (.own id_495 0 0), (.own id_497 0 0), (.own id_498 0 0), (.own id_500 0 0), (.own id_501 0 0)])]])))] n_502 rfl (hs_cons (hl_ne (j := id_495) (i := id_494) hneid_494id_495.symm (hl_self _ _ _)) (hs_cons (hl_ne (j := id_496) (i := id_494) hneid_494id_496.symm (hl_ne (j := id_496) (i := id_495) hneid_495id_496.symm (hl_self _ _ _))) (hs_cons (hl_ne (j := id_497) (i := id_494) hneid_494id_497.symm (hl_ne (j := id_497) (i := id_495) hneid_495id_497.symm (hl_ne (j := id_497) (i := id_496) hneid_496id_497.symm (hl_self _ _ _)))) (hs_cons (hl_ne (j := id_501) (i := id_494) hneid_494id_501.symm (hl_ne (j := id_501) (i := id_495) hneid_495id_501.symm (hl_ne (j := id_501) (i := id_496) hneid_496id_501.symm (hl_ne (j := id_501) (i := id_497) hneid_497id_501.symm (hl_ne (j := id_501) (i := id_498) hneid_498id_501.symm (hl_ne (j := id_501) (i := id_499) hneid_499id_501.symm (hl_ne (j := id_501) (i := id_500) hneid_500id_501.symm (hl_self _ _ _)))))))) (hs_cons (hl_self _ _ _) (hs_cons (hl_ne (j := id_498) (i := id_494) hneid_494id_498.symm (hl_ne (j := id_498) (i := id_495) hneid_495id_498.symm (hl_ne (j := id_498) (i := id_496) hneid_496id_498.symm (hl_ne (j := id_498) (i := id_497) hneid_497id_498.symm (hl_self _ _ _))))) (hs_cons (hl_ne (j := id_499) (i := id_494) hneid_494id_499.symm (hl_ne (j := id_499) (i := id_495) hneid_495id_499.symm (hl_ne (j := id_499) (i := id_496) hneid_496id_499.symm (hl_ne (j := id_499) (i := id_497) hneid_497id_499.symm (hl_ne (j := id_499) (i := id_498) hneid_498id_499.symm (hl_self _ _ _)))))) (hs_cons (hl_ne (j := id_500) (i := id_494) hneid_494id_500.symm (hl_ne (j := id_500) (i := id_495) hneid_495id_500.symm (hl_ne (j := id_500) (i := id_496) hneid_496id_500.symm (hl_ne (j := id_500) (i := id_497) hneid_497id_500.symm (hl_ne (j := id_500) (i := id_498) hneid_498id_500.symm (hl_ne (j := id_500) (i := id_499) hneid_499id_500.symm (hl_self _ _ _))))))) hs_nil)))))))) (Nat.le_refl _)), (by omega), (by omega), (by omega), (by omega), (by omega), (by omega), (by omega), (by omega), (by first | exact hF1109.1 | simp), (by first | exact hF1109.2 | simp), (by omega), (by rw [hw1114]; omega), (Eq.mpr (congrArg (fun q_ => sort_chances_c1_m_L0 (sort_chances_c1_m fuel) i_485 ways_486 c_487 len_489 c_490 len_492 c_493 k0 c_646 c_647 q_ = some o_625) hw1114) H1)⟩, by omega⟩)
          ·
            replace H1 := iteF H1 hc1096
            refine SatL.skip ?_
            repeat refine SatL.seq ?_
            refine SatL.rege [some 47, some 48, some 49, some 50, some 51, some 52, some 53] rfl rfl fun K1115 hK1115 => ?_
            refine st (fun _ hk => s_load1 (c := (.fn 83 [(.own id_494 0 0), (.own id_495 0 0), (.own id_497 0 0), (.own id_498 0 0), (.own id_500 0 0), (.own id_501 0 0)])) agg_133 (d_own rfl (hl_ne (j := id_501) (i := id_494) hneid_494id_501.symm (hl_ne (j := id_501) (i := id_495) hneid_495id_501.symm (hl_ne (j := id_501) (i := id_496) hneid_496id_501.symm (hl_ne (j := id_501) (i := id_497) hneid_497id_501.symm (hl_ne (j := id_501) (i := id_498) hneid_498id_501.symm (hl_ne (j := id_501) (i := id_499) hneid_499id_501.symm (hl_ne (j := id_501) (i := id_500) hneid_500id_501.symm (hl_self _ _ _)))))))) rfl rfl) rfl hk) ?_
            refine st (fun _ hk => s_mv (v := (int i_485)) rfl hk) ?_
            refine st (fun _ hk => s_bin rfl rfl (b_add64 hk)) ?_
            refine st (fun _ hk => s_mv (v := (int ways_486)) rfl hk) ?_
            refine st (fun _ hk => s_mv (v := (int e_643)) rfl hk) ?_
            refine st (fun _ hk => s_bin rfl rfl (b_mul64 hk)) ?_
            obtain ⟨⟨c_648, c_649⟩, hc_648, H1⟩ := bindS H1
            replace H1 := un2S H1
            refine aopsS_step fun _ hK => s_call (avs := [(int (w64 (i_485 + 1))), (int (w64 (ways_486 * e_643))), (.own id_494 0 0), (.own id_495 0 0), (.own id_497 0 0), (.own id_498 0 0), (.own id_500 0 0), (.own id_501 0 0)]) rfl rfl rfl (HC.mut (LE := [(id_494, (some (.cells 1 3 [[(int c_487)]]))), (id_495, (some (.cells 1 23 [[(.ms id_496 0 len_489)]]))), (id_496, (some (.cells 1 3 (List.map int1 (List.set x_633 (Int.toNat i_485) x_635))))), (id_497, (some (.cells 1 3 [[(int c_490)]]))), (id_498, (some (.cells 1 23 [[(.ms id_499 0 len_492)]]))), (id_499, (some (.cells 1 3 (List.map int1 x_634)))), (id_500, (some (.cells 1 23 [[(.sl (List.map int1 c_493))]]))), (id_501, (some (.cells 1 133 [[(.fn 83 [(.own id_494 0 0), (.own id_495 0 0), (.own id_497 0 0), (.own id_498 0 0), (.own id_500 0 0), (.own id_501 0 0)])]])))]) (L' := [(id_494, (some (.cells 1 3 [[(int c_487)]]))), (id_495, (some (.cells 1 23 [[(.ms id_496 0 len_489)]]))), (id_496, (some (.cells 1 3 (List.map int1 c_648)))), (id_497, (some (.cells 1 3 [[(int c_490)]]))), (id_498, (some (.cells 1 23 [[(.ms id_499 0 len_492)]]))), (id_499, (some (.cells 1 3 (List.map int1 c_649)))), (id_500, (some (.cells 1 23 [[(.sl (List.map int1 c_493))]]))), (id_501, (some (.cells 1 133 [[(.fn 83 [(.own id_494 0 0), (.own id_495 0 0), (.own id_497 0 0), (.own id_498 0 0), (.own id_500 0 0), (.own id_501 0 0)])]])))]) (L2 := [(id_494, (some (.cells 1 3 [[(int c_487)]]))), (id_495, (some (.cells 1 23 [[(.ms id_496 0 len_489)]]))), (id_496, (some (.cells 1 3 (List.map int1 c_648)))), (id_497, (some (.cells 1 3 [[(int c_490)]]))), (id_498, (some (.cells 1 23 [[(.ms id_499 0 len_492)]]))), (id_499, (some (.cells 1 3 (List.map int1 c_649)))), (id_500, (some (.cells 1 23 [[(.sl (List.map int1 c_493))]]))), (id_501, (some (.cells 1 133 [[(.fn 83 [(.own id_494 0 0), (.own id_495 0 0), (.own id_497 0 0), (.own id_498 0 0), (.own id_500 0 0), (.own id_501 0 0)])]])))]) (v := (.tp [])) [id_494, id_495, id_496, id_497, id_498, id_499, id_500, id_501] (hi_cons (by simp) (hl_self _ _ _) (hi_cons (by simp) (hl_ne (j := id_495) (i := id_494) hneid_494id_495.symm (hl_self _ _ _)) (hi_cons (by simp) (hl_ne (j := id_496) (i := id_494) hneid_494id_496.symm (hl_ne (j := id_496) (i := id_495) hneid_495id_496.symm (hl_self _ _ _))) (hi_cons (by simp) (hl_ne (j := id_497) (i := id_494) hneid_494id_497.symm (hl_ne (j := id_497) (i := id_495) hneid_495id_497.symm (hl_ne (j := id_497) (i := id_496) hneid_496id_497.symm (hl_self _ _ _)))) (hi_cons (by simp) (hl_ne (j := id_498) (i := id_494) hneid_494id_498.symm (hl_ne (j := id_498) (i := id_495) hneid_495id_498.symm (hl_ne (j := id_498) (i := id_496) hneid_496id_498.symm (hl_ne (j := id_498) (i := id_497) hneid_497id_498.symm (hl_self _ _ _))))) (hi_cons (by simp) (hl_ne (j := id_499) (i := id_494) hneid_494id_499.symm (hl_ne (j := id_499) (i := id_495) hneid_495id_499.symm (hl_ne (j := id_499) (i := id_496) hneid_496id_499.symm (hl_ne (j := id_499) (i := id_497) hneid_497id_499.symm (hl_ne (j := id_499) (i := id_498) hneid_498id_499.symm (hl_self _ _ _)))))) (hi_cons (by simp) (hl_ne (j := id_500) (i := id_494) hneid_494id_500.symm (hl_ne (j := id_500) (i := id_495) hneid_495id_500.symm (hl_ne (j := id_500) (i := id_496) hneid_496id_500.symm (hl_ne (j := id_500) (i := id_497) hneid_497id_500.symm (hl_ne (j := id_500) (i := id_498) hneid_498id_500.symm (hl_ne (j := id_500) (i := id_499) hneid_499id_500.symm (hl_self _ _ _))))))) (hi_cons (by simp) (hl_ne (j := id_501) (i := id_494) hneid_494id_501.symm (hl_ne (j := id_501) (i := id_495) hneid_495id_501.symm (hl_ne (j := id_501) (i := id_496) hneid_496id_501.symm (hl_ne (j := id_501) (i := id_497) hneid_497id_501.symm (hl_ne (j := id_501) (i := id_498) hneid_498id_501.symm (hl_ne (j := id_501) (i := id_499) hneid_499id_501.symm (hl_ne (j := id_501) (i := id_500) hneid_500id_501.symm (hl_self _ _ _)))))))) hi_nil)))))))) (by simp <;> omega) (.free _ (Free.tpl FreeL.nil)) (OnL.cons (by simp) (ono_s (OnC.cons (.free _ (.sc _)) OnC.nil)) (OnL.cons (by simp) (ono_s (OnC.cons (.ms _ _ _ (by simp <;> omega)) OnC.nil)) (OnL.cons (by simp) (ono_typed fr_int1) (OnL.cons (by simp) (ono_s (OnC.cons (.free _ (.sc _)) OnC.nil)) (OnL.cons (by simp) (ono_s (OnC.cons (.ms _ _ _ (by simp <;> omega)) OnC.nil)) (OnL.cons (by simp) (ono_typed fr_int1) (OnL.cons (by simp) (ono_s (OnC.cons (.free _ (Free.slm fr_int1)) OnC.nil)) (OnL.cons (by simp) (ono_s (OnC.cons (On.fnl (OnC.cons (.own _ _ _ (by simp <;> omega)) (OnC.cons (.own _ _ _ (by simp <;> omega)) (OnC.cons (.own _ _ _ (by simp <;> omega)) (OnC.cons (.own _ _ _ (by simp <;> omega)) (OnC.cons (.own _ _ _ (by simp <;> omega)) (OnC.cons (.own _ _ _ (by simp <;> omega)) OnC.nil))))))) OnC.nil)) OnL.nil)))))))) (@ih_sort_chances_c1_m (w64 (i_485 + 1)) (w64 (ways_486 * e_643)) c_487 (List.set x_633 (Int.toNat i_485) x_635) len_489 c_490 x_634 len_492 c_493 id_494 id_495 id_496 id_497 id_498 id_499 id_500 id_501 n_502 (List.length_set.trans hlenx_633) hlenx_634 ⟨(by omega), (by omega), (by omega), (by omega), (by omega), (by omega), (by omega), (by omega), hneid_494id_495, hneid_494id_496, hneid_494id_497, hneid_494id_498, hneid_494id_499, hneid_494id_500, hneid_494id_501, hneid_495id_496, hneid_495id_497, hneid_495id_498, hneid_495id_499, hneid_495id_500, hneid_495id_501, hneid_496id_497, hneid_496id_498, hneid_496id_499, hneid_496id_500, hneid_496id_501, hneid_497id_498, hneid_497id_499, hneid_497id_500, hneid_497id_501, hneid_498id_499, hneid_498id_500, hneid_498id_501, hneid_499id_500, hneid_499id_501, hneid_500id_501⟩ _ hc_648) (Rest.drop (by simp) (Rest.drop (by simp) (Rest.drop (by simp) (Rest.drop (by simp) (Rest.drop (by simp) (Rest.drop (by simp) (Rest.drop (by simp) (Rest.drop (by simp) Rest.nil)))))))) rfl (fun hF1122 => (hK _ _ _ ?_)))
            clear hK
            refine aopsS_end (hK1115 _ ?_)
            refine (blockN (thenN ?_))
            refine SatL.forget [0, 1, 3, 4, 7, 28, 29, 30] (SatL.norm (n := n_502) (h := hl [(id_494, (some (.cells 1 3 [[(int c_487)]]))), (id_495, (some (.cells 1 23 [[(.ms id_496 0 len_489)]]))), (id_496, (some (.cells 1 3 (List.map int1 c_648)))), (id_497, (some (.cells 1 3 [[(int c_490)]]))), (id_498, (some (.cells 1 23 [[(.ms id_499 0 len_492)]]))), (id_499, (some (.cells 1 3 (List.map int1 c_649)))), (id_500, (some (.cells 1 23 [[(.sl (List.map int1 c_493))]]))), (id_501, (some (.cells 1 133 [[(.fn 83 [(.own id_494 0 0), (.own id_495 0 0), (.own id_497 0 0), (.own id_498 0 0), (.own id_500 0 0), (.own id_501 0 0)])]])))]) (env' := [(0, (int i_485)), (1, (int ways_486)), (3, (.own id_495 0 0)), (4, (.own id_497 0 0)), (7, (.own id_501 0 0)), (28, (.sl (List.map int1 c_493))), (29, (int (List.length c_493 : Int))), (30, (int x_635))]) (L' := [(id_494, (some (.cells 1 3 [[(int c_487)]]))), (id_495, (some (.cells 1 23 [[(.ms id_496 0 len_489)]]))), (id_496, (some (.cells 1 3 (List.map int1 c_648)))), (id_497, (some (.cells 1 3 [[(int c_490)]]))), (id_498, (some (.cells 1 23 [[(.ms id_499 0 len_492)]]))), (id_499, (some (.cells 1 3 (List.map int1 c_649)))), (id_500, (some (.cells 1 23 [[(.sl (List.map int1 c_493))]]))), (id_501, (some (.cells 1 133 [[(.fn 83 [(.own id_494 0 0), (.own id_495 0 0), (.own id_497 0 0), (.own id_498 0 0), (.own id_500 0 0), (.own id_501 0 0)])]])))]) rfl hs_refl ?_)
            repeat refine SatL.seq ?_
            refine SatL.rege [some 54, some 30] rfl rfl fun K1124 hK1124 => ?_
            refine st (fun _ hk => s_bin rfl rfl (b_add64 hk)) ?_
            refine st (fun _ hk => s_mv (v := (int (w64 (x_635 + 1)))) rfl hk) ?_
            refine aopsS_end (hK1124 _ ?_)
            have hw1127 : w64 (x_635 + 1) = x_635 + 1 := w64_id (by omega) (by omega)
            exact (thenN ⟨k0, ⟨c_648, c_649, (w64 (x_635 + 1)), (StLe.of [(id_494, (some (.cells 1 3 [[(int c_487)]]))), (id_495, (some (.cells 1 23 [[(.ms id_496 0 len_489)]]))), (id_496, (some (.cells 1 3 (List.map int1 c_648)))), (id_497, (some (.cells 1 3 [[(int c_490)]]))), (id_498, (some (.cells 1 23 [[(.ms id_499 0 len_492)]]))), (id_499, (some (.cells 1 3 (List.map int1 c_649)))), (id_500, (some (.cells 1 23 [[(.sl (List.map int1 c_493))]]))), (id_501, (some (.cells 1 133 [[(.fn 83 [(.own id_494 0 0), (.own id_495 0 0), (.own id_497 0 0), (.own id_498 0 0), (.own id_500 0 0), (.own id_501 0 0)])]])))] n_502 rfl (hs_cons (hl_ne (j := id_495) (i := id_494) hneid_494id_495.symm (hl_self _ _ _)) (hs_cons (hl_ne (j := id_496) (i := id_494) hneid_494id_496.symm (hl_ne (j := id_496) (i := id_495) hneid_495id_496.symm (hl_self _ _ _))) (hs_cons (hl_ne (j := id_497) (i := id_494) hneid_494id_497.symm (hl_ne (j := id_497) (i := id_495) hneid_495id_497.symm (hl_ne (j := id_497) (i := id_496) hneid_496id_497.symm (hl_self _ _ _)))) (hs_cons (hl_ne (j := id_501) (i := id_494) hneid_494id_501.symm (hl_ne (j := id_501) (i := id_495) hneid_495id_501.symm (hl_ne (j := id_501) (i := id_496) hneid_496id_501.symm (hl_ne (j := id_501) (i := id_497) hneid_497id_501.symm (hl_ne (j := id_501) (i := id_498) hneid_498id_501.symm (hl_ne (j := id_501) (i := id_499) hneid_499id_501.symm (hl_ne (j := id_501) (i := id_500) hneid_500id_501.symm (hl_self _ _ _)))))))) (hs_cons (hl_self _ _ _) (hs_cons (hl_ne (j := id_498) (i := id_494) hneid_494id_498.symm (hl_ne (j := id_498) (i := id_495) hneid_495id_498.symm (hl_ne (j := id_498) (i := id_496) hneid_496id_498.symm (hl_ne (j := id_498) (i := id_497) hneid_497id_498.symm (hl_self _ _ _))))) (hs_cons (hl_ne (j := id_499) (i := id_494) hneid_494id_499.symm (hl_ne (j := id_499) (i := id_495) hneid_495id_499.symm (hl_ne (j := id_499) (i := id_496) hneid_496id_499.symm (hl_ne (j := id_499) (i := id_497) hneid_497id_499.symm (hl_ne (j := id_499) (i := id_498) hneid_498id_499.symm (hl_self _ _ _)))))) (hs_cons (hl_ne (j := id_500) (i := id_494) hneid_494id_500.symm (hl_ne (j := id_500) (i := id_495) hneid_495id_500.symm (hl_ne (j := id_500) (i := id_496) hneid_496id_500.symm (hl_ne (j := id_500) (i := id_497) hneid_497id_500.symm (hl_ne (j := id_500) (i := id_498) hneid_498id_500.symm (hl_ne (j := id_500) (i := id_499) hneid_499id_500.symm (hl_self _ _ _))))))) hs_nil)))))))) (Nat.le_refl _)), (by omega), (by omega), (by omega), (by omega), (by omega), (by omega), (by omega), (by omega), (by first | exact hF1122.1 | simp), (by first | exact hF1122.2 | simp), (by omega), (by rw [hw1127]; omega), (Eq.mpr (congrArg (fun q_ => sort_chances_c1_m_L0 (sort_chances_c1_m fuel) i_485 ways_486 c_487 len_489 c_490 len_492 c_493 k0 c_648 c_649 q_ = some o_625) hw1127) H1)⟩, by omega⟩)

theorem sort_chances_c1_m_HC {i_485 : Int} {ways_486 : Int} {c_487 : Int} {c_488 : (List Int)} {len_489 : Nat} {c_490 : Int} {c_491 : (List Int)} {len_492 : Nat} {c_493 : (List Int)} {id_494 : Nat} {id_495 : Nat} {id_496 : Nat} {id_497 : Nat} {id_498 : Nat} {id_499 : Nat} {id_500 : Nat} {id_501 : Nat} {n_502 : Nat} (hlenc_488 : List.length c_488 = len_489) (hlenc_491 : List.length c_491 = len_492) (hids : id_494 < n_502 ∧ id_495 < n_502 ∧ id_496 < n_502 ∧ id_497 < n_502 ∧ id_498 < n_502 ∧ id_499 < n_502 ∧ id_500 < n_502 ∧ id_501 < n_502 ∧ id_494 ≠ id_495 ∧ id_494 ≠ id_496 ∧ id_494 ≠ id_497 ∧ id_494 ≠ id_498 ∧ id_494 ≠ id_499 ∧ id_494 ≠ id_500 ∧ id_494 ≠ id_501 ∧ id_495 ≠ id_496 ∧ id_495 ≠ id_497 ∧ id_495 ≠ id_498 ∧ id_495 ≠ id_499 ∧ id_495 ≠ id_500 ∧ id_495 ≠ id_501 ∧ id_496 ≠ id_497 ∧ id_496 ≠ id_498 ∧ id_496 ≠ id_499 ∧ id_496 ≠ id_500 ∧ id_496 ≠ id_501 ∧ id_497 ≠ id_498 ∧ id_497 ≠ id_499 ∧ id_497 ≠ id_500 ∧ id_497 ≠ id_501 ∧ id_498 ≠ id_499 ∧ id_498 ≠ id_500 ∧ id_498 ≠ id_501 ∧ id_499 ≠ id_500 ∧ id_499 ≠ id_501 ∧ id_500 ≠ id_501) {r : ((List Int) × (List Int))} (H0 : sort_chances_c1_m 100000 i_485 ways_486 c_487 c_488 len_489 c_490 c_491 len_492 c_493 = some r) : HC Try.prog 83 [(int i_485), (int ways_486), (.own id_494 0 0), (.own id_495 0 0), (.own id_497 0 0), (.own id_498 0 0), (.own id_500 0 0), (.own id_501 0 0)] (hl [(id_494, (some (.cells 1 3 [[(int c_487)]]))), (id_495, (some (.cells 1 23 [[(.ms id_496 0 len_489)]]))), (id_496, (some (.cells 1 3 (List.map int1 c_488)))), (id_497, (some (.cells 1 3 [[(int c_490)]]))), (id_498, (some (.cells 1 23 [[(.ms id_499 0 len_492)]]))), (id_499, (some (.cells 1 3 (List.map int1 c_491)))), (id_500, (some (.cells 1 23 [[(.sl (List.map int1 c_493))]]))), (id_501, (some (.cells 1 133 [[(.fn 83 [(.own id_494 0 0), (.own id_495 0 0), (.own id_497 0 0), (.own id_498 0 0), (.own id_500 0 0), (.own id_501 0 0)])]])))]) n_502 (fun v_ h_ n_ => (v_ = (.tp []) ∧ h_ = hl [(id_494, (some (.cells 1 3 [[(int c_487)]]))), (id_495, (some (.cells 1 23 [[(.ms id_496 0 len_489)]]))), (id_496, (some (.cells 1 3 (List.map int1 r.1)))), (id_497, (some (.cells 1 3 [[(int c_490)]]))), (id_498, (some (.cells 1 23 [[(.ms id_499 0 len_492)]]))), (id_499, (some (.cells 1 3 (List.map int1 r.2)))), (id_500, (some (.cells 1 23 [[(.sl (List.map int1 c_493))]]))), (id_501, (some (.cells 1 133 [[(.fn 83 [(.own id_494 0 0), (.own id_495 0 0), (.own id_497 0 0), (.own id_498 0 0), (.own id_500 0 0), (.own id_501 0 0)])]])))] ∧ n_ = n_502) ∧ (List.length r.1 = len_489 ∧ List.length r.2 = len_492)) := sort_chances_c1_m_ind 100000 i_485 ways_486 c_487 c_488 len_489 c_490 c_491 len_492 c_493 id_494 id_495 id_496 id_497 id_498 id_499 id_500 id_501 n_502 hlenc_488 hlenc_491 hids H0

theorem sort_chances_PC {row_450 : (List Int)} {n_451 : Int} {r : (List Int)} (H0 : sort_chances row_450 n_451 = some r) : PC Try.prog 55 [(.sl (List.map int1 row_450)), (int n_451)] (· = (.sl (List.map int1 r))) := by
  unfold sort_chances at H0
  refine PC.of_bodyL [(0, (.sl (List.map int1 row_450))), (1, (int n_451))] Try.func55 rfl rfl (Nat.le_of_ble_eq_true rfl) rfl fun O => ?_
  repeat refine SatL.seq ?_
  refine SatL.reg [2, 3] [some 2, some 3, some 4] rfl rfl fun K1 hK1 => ?_
  refine st (fun _ hk => s_box (cs := [(.sl (List.map int1 row_450))]) (m := 1) (n' := 1) rfl rfl rfl hk) ?_
  refine st (fun _ hk => s_box (cs := [(int n_451)]) (m := 1) (n' := 2) rfl rfl rfl hk) ?_
  refine st (fun _ hk => s_as (v := nilS) rfl hk) ?_
  refine aopsS_end (hK1 _ (SatL.norm (n := 2) (h := hl [(1, (some (.cells 1 3 [[(int n_451)]]))), (0, (some (.cells 1 23 [[(.sl (List.map int1 row_450))]])))]) (env' := [(2, (.own 0 0 0)), (3, (.own 1 0 0))]) (L' := [(0, (some (.cells 1 23 [[(.sl (List.map int1 row_450))]]))), (1, (some (.cells 1 3 [[(int n_451)]])))]) rfl (hs_cons (hl_ne (j := 0) (i := 1) (by decide) (hl_self _ _ _)) (hs_cons (hl_self _ _ _) hs_nil)) ?_))
  repeat refine SatL.seq ?_
  refine SatL.reg [2, 3, 5] [some 9, some 10, some 11, some 5, none] rfl rfl fun K5 hK5 => ?_
  refine st (fun _ hk => s_load1 (c := (.sl (List.map int1 row_450))) agg_23 (d_own rfl (hl_self _ _ _) rfl rfl) rfl hk) ?_
  refine aopsS_step fun _ hK => s_lenSl elem_23 rfl (fun hl7 => hK _ _ _ ?_)
  clear hK
  refine st (fun _ hk => s_bin rfl rfl (b_sub64 hk)) ?_
  refine st (fun _ hk => s_alloc (m := 1) (n' := 3) zero_3 rfl rfl hk) ?_
  refine s0 (fun _ hk => s_store (E := [[(int (w64 ((List.length row_450 : Int) - 1)))]]) rfl (hl_self _ _ _) rfl rfl cells_3 rfl (by decide) (Nat.le_of_ble_eq_true rfl) rfl (hu_self _ _ _ _) hk) ?_
  refine aopsS_end (hK5 _ (SatL.norm (n := 3) (h := hl [(2, (some (.cells 1 3 [[(int (w64 ((List.length row_450 : Int) - 1)))]]))), (0, (some (.cells 1 23 [[(.sl (List.map int1 row_450))]]))), (1, (some (.cells 1 3 [[(int n_451)]])))]) (env' := [(2, (.own 0 0 0)), (3, (.own 1 0 0)), (5, (.own 2 0 0))]) (L' := [(0, (some (.cells 1 23 [[(.sl (List.map int1 row_450))]]))), (1, (some (.cells 1 3 [[(int n_451)]]))), (2, (some (.cells 1 3 [[(int (w64 ((List.length row_450 : Int) - 1)))]])))]) rfl (hs_cons (hl_ne (j := 0) (i := 2) (by decide) (hl_self _ _ _)) (hs_cons (hl_ne (j := 1) (i := 2) (by decide) (hl_ne (j := 1) (i := 0) (by decide) (hl_self _ _ _))) (hs_cons (hl_self _ _ _) hs_nil))) ?_))
  repeat refine SatL.seq ?_
  refine SatL.reg [2, 3, 5, 6] [some 12, some 13, some 14, some 6, none] rfl rfl fun K11 hK11 => ?_
  refine st (fun _ hk => s_load1 (c := (.sl (List.map int1 row_450))) agg_23 (d_own rfl (hl_self _ _ _) rfl rfl) rfl hk) ?_
  refine aopsS_step fun _ hK => s_lenSl elem_23 rfl (fun hl13 => hK _ _ _ ?_)
  clear hK
  obtain ⟨x_452, hx_452, H0⟩ := bindS H0
  refine st (fun _ hk => s_mkT (n' := 4) (f := int1) elem_23 (zeroT zero_3 rfl) ⟨rfl, by decide⟩ rfl rfl hx_452 bytes1_3 rfl hk) ?_
  refine st (fun _ hk => s_alloc (m := 1) (n' := 5) zero_23 rfl rfl hk) ?_
  refine s0 (fun _ hk => s_store (E := [[(.ms 3 0 (List.length x_452))]]) rfl (hl_self _ _ _) rfl rfl cells_23 rfl (by decide) (Nat.le_of_ble_eq_true rfl) rfl (hu_self _ _ _ _) hk) ?_
  refine aopsS_end (hK11 _ (SatL.norm (n := 5) (h := hl [(4, (some (.cells 1 23 [[(.ms 3 0 (List.length x_452))]]))), (3, (some (.cells 1 3 (List.map int1 x_452)))), (0, (some (.cells 1 23 [[(.sl (List.map int1 row_450))]]))), (1, (some (.cells 1 3 [[(int n_451)]]))), (2, (some (.cells 1 3 [[(int (w64 ((List.length row_450 : Int) - 1)))]])))]) (env' := [(2, (.own 0 0 0)), (3, (.own 1 0 0)), (5, (.own 2 0 0)), (6, (.own 4 0 0))]) (L' := [(0, (some (.cells 1 23 [[(.sl (List.map int1 row_450))]]))), (1, (some (.cells 1 3 [[(int n_451)]]))), (2, (some (.cells 1 3 [[(int (w64 ((List.length row_450 : Int) - 1)))]]))), (4, (some (.cells 1 23 [[(.ms 3 0 (List.length x_452))]]))), (3, (some (.cells 1 3 (List.map int1 x_452))))]) rfl (hs_cons (hl_ne (j := 0) (i := 4) (by decide) (hl_ne (j := 0) (i := 3) (by decide) (hl_self _ _ _))) (hs_cons (hl_ne (j := 1) (i := 4) (by decide) (hl_ne (j := 1) (i := 3) (by decide) (hl_ne (j := 1) (i := 0) (by decide) (hl_self _ _ _)))) (hs_cons (hl_ne (j := 2) (i := 4) (by decide) (hl_ne (j := 2) (i := 3) (by decide) (hl_ne (j := 2) (i := 0) (by decide) (hl_ne (j := 2) (i := 1) (by decide) (hl_self _ _ _))))) (hs_cons (hl_self _ _ _) (hs_cons (hl_ne (j := 3) (i := 4) (by decide) (hl_self _ _ _)) hs_nil))))) ?_))
  repeat refine SatL.seq ?_
  refine SatL.reg [2, 3, 5, 6, 7] [some 15, some 16, some 7, none] rfl rfl fun K17 hK17 => ?_
  refine st (fun _ hk => s_load1 (c := (int n_451)) agg_3 (d_own rfl (hl_ne (j := 1) (i := 0) (by decide) (hl_self _ _ _)) rfl rfl) rfl hk) ?_
  obtain ⟨x_453, hx_453, H0⟩ := bindS H0
  refine st (fun _ hk => s_mkT (n' := 6) (f := int1) elem_23 (zeroT zero_3 rfl) ⟨rfl, by decide⟩ rfl rfl hx_453 bytes1_3 rfl hk) ?_
  refine st (fun _ hk => s_alloc (m := 1) (n' := 7) zero_23 rfl rfl hk) ?_
  refine s0 (fun _ hk => s_store (E := [[(.ms 5 0 (List.length x_453))]]) rfl (hl_self _ _ _) rfl rfl cells_23 rfl (by decide) (Nat.le_of_ble_eq_true rfl) rfl (hu_self _ _ _ _) hk) ?_
  refine aopsS_end (hK17 _ (SatL.norm (n := 7) (h := hl [(6, (some (.cells 1 23 [[(.ms 5 0 (List.length x_453))]]))), (5, (some (.cells 1 3 (List.map int1 x_453)))), (0, (some (.cells 1 23 [[(.sl (List.map int1 row_450))]]))), (1, (some (.cells 1 3 [[(int n_451)]]))), (2, (some (.cells 1 3 [[(int (w64 ((List.length row_450 : Int) - 1)))]]))), (4, (some (.cells 1 23 [[(.ms 3 0 (List.length x_452))]]))), (3, (some (.cells 1 3 (List.map int1 x_452))))]) (env' := [(2, (.own 0 0 0)), (3, (.own 1 0 0)), (5, (.own 2 0 0)), (6, (.own 4 0 0)), (7, (.own 6 0 0))]) (L' := [(0, (some (.cells 1 23 [[(.sl (List.map int1 row_450))]]))), (1, (some (.cells 1 3 [[(int n_451)]]))), (2, (some (.cells 1 3 [[(int (w64 ((List.length row_450 : Int) - 1)))]]))), (4, (some (.cells 1 23 [[(.ms 3 0 (List.length x_452))]]))), (6, (some (.cells 1 23 [[(.ms 5 0 (List.length x_453))]]))), (3, (some (.cells 1 3 (List.map int1 x_452)))), (5, (some (.cells 1 3 (List.map int1 x_453))))]) rfl (hs_cons (hl_ne (j := 0) (i := 6) (by decide) (hl_ne (j := 0) (i := 5) (by decide) (hl_self _ _ _))) (hs_cons (hl_ne (j := 1) (i := 6) (by decide) (hl_ne (j := 1) (i := 5) (by decide) (hl_ne (j := 1) (i := 0) (by decide) (hl_self _ _ _)))) (hs_cons (hl_ne (j := 2) (i := 6) (by decide) (hl_ne (j := 2) (i := 5) (by decide) (hl_ne (j := 2) (i := 0) (by decide) (hl_ne (j := 2) (i := 1) (by decide) (hl_self _ _ _))))) (hs_cons (hl_ne (j := 4) (i := 6) (by decide) (hl_ne (j := 4) (i := 5) (by decide) (hl_ne (j := 4) (i := 0) (by decide) (hl_ne (j := 4) (i := 1) (by decide) (hl_ne (j := 4) (i := 2) (by decide) (hl_self _ _ _)))))) (hs_cons (hl_self _ _ _) (hs_cons (hl_ne (j := 3) (i := 6) (by decide) (hl_ne (j := 3) (i := 5) (by decide) (hl_ne (j := 3) (i := 0) (by decide) (hl_ne (j := 3) (i := 1) (by decide) (hl_ne (j := 3) (i := 2) (by decide) (hl_ne (j := 3) (i := 4) (by decide) (hl_self _ _ _))))))) (hs_cons (hl_ne (j := 5) (i := 6) (by decide) (hl_self _ _ _)) hs_nil))))))) ?_))
  repeat refine SatL.seq ?_
  refine SatL.reg [2, 3, 5, 6, 7, 8] [some 8] rfl rfl fun K22 hK22 => ?_
  refine st (fun _ hk => s_alloc (m := 1) (n' := 8) zero_133 rfl rfl hk) ?_
  refine aopsS_end (hK22 _ (SatL.norm (n := 8) (h := hl [(7, (some (.cells 1 133 [[(.sc .nilFunc)]]))), (0, (some (.cells 1 23 [[(.sl (List.map int1 row_450))]]))), (1, (some (.cells 1 3 [[(int n_451)]]))), (2, (some (.cells 1 3 [[(int (w64 ((List.length row_450 : Int) - 1)))]]))), (4, (some (.cells 1 23 [[(.ms 3 0 (List.length x_452))]]))), (6, (some (.cells 1 23 [[(.ms 5 0 (List.length x_453))]]))), (3, (some (.cells 1 3 (List.map int1 x_452)))), (5, (some (.cells 1 3 (List.map int1 x_453))))]) (env' := [(2, (.own 0 0 0)), (3, (.own 1 0 0)), (5, (.own 2 0 0)), (6, (.own 4 0 0)), (7, (.own 6 0 0)), (8, (.own 7 0 0))]) (L' := [(0, (some (.cells 1 23 [[(.sl (List.map int1 row_450))]]))), (1, (some (.cells 1 3 [[(int n_451)]]))), (2, (some (.cells 1 3 [[(int (w64 ((List.length row_450 : Int) - 1)))]]))), (4, (some (.cells 1 23 [[(.ms 3 0 (List.length x_452))]]))), (6, (some (.cells 1 23 [[(.ms 5 0 (List.length x_453))]]))), (7, (some (.cells 1 133 [[(.sc .nilFunc)]]))), (3, (some (.cells 1 3 (List.map int1 x_452)))), (5, (some (.cells 1 3 (List.map int1 x_453))))]) rfl (hs_cons (hl_ne (j := 0) (i := 7) (by decide) (hl_self _ _ _)) (hs_cons (hl_ne (j := 1) (i := 7) (by decide) (hl_ne (j := 1) (i := 0) (by decide) (hl_self _ _ _))) (hs_cons (hl_ne (j := 2) (i := 7) (by decide) (hl_ne (j := 2) (i := 0) (by decide) (hl_ne (j := 2) (i := 1) (by decide) (hl_self _ _ _)))) (hs_cons (hl_ne (j := 4) (i := 7) (by decide) (hl_ne (j := 4) (i := 0) (by decide) (hl_ne (j := 4) (i := 1) (by decide) (hl_ne (j := 4) (i := 2) (by decide) (hl_self _ _ _))))) (hs_cons (hl_ne (j := 6) (i := 7) (by decide) (hl_ne (j := 6) (i := 0) (by decide) (hl_ne (j := 6) (i := 1) (by decide) (hl_ne (j := 6) (i := 2) (by decide) (hl_ne (j := 6) (i := 4) (by decide) (hl_self _ _ _)))))) (hs_cons (hl_self _ _ _) (hs_cons (hl_ne (j := 3) (i := 7) (by decide) (hl_ne (j := 3) (i := 0) (by decide) (hl_ne (j := 3) (i := 1) (by decide) (hl_ne (j := 3) (i := 2) (by decide) (hl_ne (j := 3) (i := 4) (by decide) (hl_ne (j := 3) (i := 6) (by decide) (hl_self _ _ _))))))) (hs_cons (hl_ne (j := 5) (i := 7) (by decide) (hl_ne (j := 5) (i := 0) (by decide) (hl_ne (j := 5) (i := 1) (by decide) (hl_ne (j := 5) (i := 2) (by decide) (hl_ne (j := 5) (i := 4) (by decide) (hl_ne (j := 5) (i := 6) (by decide) (hl_ne (j := 5) (i := 3) (by decide) (hl_self _ _ _)))))))) hs_nil)))))))) ?_))
  repeat refine SatL.seq ?_
  refine SatL.reg [6, 8] [some 17, none] rfl rfl fun K24 hK24 => ?_
  refine st (fun _ hk => s_fn (cs := [(.own 1 0 0), (.own 6 0 0), (.own 2 0 0), (.own 4 0 0), (.own 0 0 0), (.own 7 0 0)]) rfl hk) ?_
  refine s0 (fun _ hk => s_store (E := [[(.fn 83 [(.own 1 0 0), (.own 6 0 0), (.own 2 0 0), (.own 4 0 0), (.own 0 0 0), (.own 7 0 0)])]]) rfl (hl_ne (j := 7) (i := 0) (by decide) (hl_ne (j := 7) (i := 1) (by decide) (hl_ne (j := 7) (i := 2) (by decide) (hl_ne (j := 7) (i := 4) (by decide) (hl_ne (j := 7) (i := 6) (by decide) (hl_self _ _ _)))))) rfl rfl cells_133 rfl (by decide) (Nat.le_of_ble_eq_true rfl) rfl (hu_ne (j := 7) (i := 0) (by decide) (hu_ne (j := 7) (i := 1) (by decide) (hu_ne (j := 7) (i := 2) (by decide) (hu_ne (j := 7) (i := 4) (by decide) (hu_ne (j := 7) (i := 6) (by decide) (hu_self _ _ _ _)))))) hk) ?_
  refine aopsS_end (hK24 _ (SatL.norm (n := 8) (h := hl [(0, (some (.cells 1 23 [[(.sl (List.map int1 row_450))]]))), (1, (some (.cells 1 3 [[(int n_451)]]))), (2, (some (.cells 1 3 [[(int (w64 ((List.length row_450 : Int) - 1)))]]))), (4, (some (.cells 1 23 [[(.ms 3 0 (List.length x_452))]]))), (6, (some (.cells 1 23 [[(.ms 5 0 (List.length x_453))]]))), (7, (some (.cells 1 133 [[(.fn 83 [(.own 1 0 0), (.own 6 0 0), (.own 2 0 0), (.own 4 0 0), (.own 0 0 0), (.own 7 0 0)])]]))), (3, (some (.cells 1 3 (List.map int1 x_452)))), (5, (some (.cells 1 3 (List.map int1 x_453))))]) (env' := [(6, (.own 4 0 0)), (8, (.own 7 0 0))]) (L' := [(4, (some (.cells 1 23 [[(.ms 3 0 (List.length x_452))]]))), (7, (some (.cells 1 133 [[(.fn 83 [(.own 1 0 0), (.own 6 0 0), (.own 2 0 0), (.own 4 0 0), (.own 0 0 0), (.own 7 0 0)])]]))), (3, (some (.cells 1 3 (List.map int1 x_452)))), (1, (some (.cells 1 3 [[(int n_451)]]))), (6, (some (.cells 1 23 [[(.ms 5 0 (List.length x_453))]]))), (2, (some (.cells 1 3 [[(int (w64 ((List.length row_450 : Int) - 1)))]]))), (0, (some (.cells 1 23 [[(.sl (List.map int1 row_450))]]))), (5, (some (.cells 1 3 (List.map int1 x_453))))]) rfl (hs_cons (hl_ne (j := 4) (i := 0) (by decide) (hl_ne (j := 4) (i := 1) (by decide) (hl_ne (j := 4) (i := 2) (by decide) (hl_self _ _ _)))) (hs_cons (hl_ne (j := 7) (i := 0) (by decide) (hl_ne (j := 7) (i := 1) (by decide) (hl_ne (j := 7) (i := 2) (by decide) (hl_ne (j := 7) (i := 4) (by decide) (hl_ne (j := 7) (i := 6) (by decide) (hl_self _ _ _)))))) (hs_cons (hl_ne (j := 3) (i := 0) (by decide) (hl_ne (j := 3) (i := 1) (by decide) (hl_ne (j := 3) (i := 2) (by decide) (hl_ne (j := 3) (i := 4) (by decide) (hl_ne (j := 3) (i := 6) (by decide) (hl_ne (j := 3) (i := 7) (by decide) (hl_self _ _ _))))))) (hs_cons (hl_ne (j := 1) (i := 0) (by decide) (hl_self _ _ _)) (hs_cons (hl_ne (j := 6) (i := 0) (by decide) (hl_ne (j := 6) (i := 1) (by decide) (hl_ne (j := 6) (i := 2) (by decide) (hl_ne (j := 6) (i := 4) (by decide) (hl_self _ _ _))))) (hs_cons (hl_ne (j := 2) (i := 0) (by decide) (hl_ne (j := 2) (i := 1) (by decide) (hl_self _ _ _))) (hs_cons (hl_self _ _ _) (hs_cons (hl_ne (j := 5) (i := 0) (by decide) (hl_ne (j := 5) (i := 1) (by decide) (hl_ne (j := 5) (i := 2) (by decide) (hl_ne (j := 5) (i := 4) (by decide) (hl_ne (j := 5) (i := 6) (by decide) (hl_ne (j := 5) (i := 7) (by decide) (hl_ne (j := 5) (i := 3) (by decide) (hl_self _ _ _)))))))) hs_nil)))))))) ?_))
  repeat refine SatL.seq ?_
  refine SatL.reg [6] [some 18, some 19] rfl rfl fun K27 hK27 => ?_
  refine st (fun _ hk => s_load1 (c := (.fn 83 [(.own 1 0 0), (.own 6 0 0), (.own 2 0 0), (.own 4 0 0), (.own 0 0 0), (.own 7 0 0)])) agg_133 (d_own rfl (hl_ne (j := 7) (i := 4) (by decide) (hl_self _ _ _)) rfl rfl) rfl hk) ?_
  obtain ⟨⟨c_650, c_651⟩, hc_650, H0⟩ := bindS H0
  replace H0 := un2S H0
  refine aopsS_step fun _ hK => s_call (avs := [(int 0), (int 1), (.own 1 0 0), (.own 6 0 0), (.own 2 0 0), (.own 4 0 0), (.own 0 0 0), (.own 7 0 0)]) rfl rfl rfl (HC.mut (LE := [(1, (some (.cells 1 3 [[(int n_451)]]))), (6, (some (.cells 1 23 [[(.ms 5 0 (List.length x_453))]]))), (5, (some (.cells 1 3 (List.map int1 x_453)))), (2, (some (.cells 1 3 [[(int (w64 ((List.length row_450 : Int) - 1)))]]))), (4, (some (.cells 1 23 [[(.ms 3 0 (List.length x_452))]]))), (3, (some (.cells 1 3 (List.map int1 x_452)))), (0, (some (.cells 1 23 [[(.sl (List.map int1 row_450))]]))), (7, (some (.cells 1 133 [[(.fn 83 [(.own 1 0 0), (.own 6 0 0), (.own 2 0 0), (.own 4 0 0), (.own 0 0 0), (.own 7 0 0)])]])))]) (L' := [(1, (some (.cells 1 3 [[(int n_451)]]))), (6, (some (.cells 1 23 [[(.ms 5 0 (List.length x_453))]]))), (5, (some (.cells 1 3 (List.map int1 c_650)))), (2, (some (.cells 1 3 [[(int (w64 ((List.length row_450 : Int) - 1)))]]))), (4, (some (.cells 1 23 [[(.ms 3 0 (List.length x_452))]]))), (3, (some (.cells 1 3 (List.map int1 c_651)))), (0, (some (.cells 1 23 [[(.sl (List.map int1 row_450))]]))), (7, (some (.cells 1 133 [[(.fn 83 [(.own 1 0 0), (.own 6 0 0), (.own 2 0 0), (.own 4 0 0), (.own 0 0 0), (.own 7 0 0)])]])))]) (L2 := [(1, (some (.cells 1 3 [[(int n_451)]]))), (6, (some (.cells 1 23 [[(.ms 5 0 (List.length x_453))]]))), (5, (some (.cells 1 3 (List.map int1 c_650)))), (2, (some (.cells 1 3 [[(int (w64 ((List.length row_450 : Int) - 1)))]]))), (4, (some (.cells 1 23 [[(.ms 3 0 (List.length x_452))]]))), (3, (some (.cells 1 3 (List.map int1 c_651)))), (0, (some (.cells 1 23 [[(.sl (List.map int1 row_450))]]))), (7, (some (.cells 1 133 [[(.fn 83 [(.own 1 0 0), (.own 6 0 0), (.own 2 0 0), (.own 4 0 0), (.own 0 0 0), (.own 7 0 0)])]])))]) (v := (.tp [])) [1, 6, 5, 2, 4, 3, 0, 7] (hi_cons (by simp) (hl_ne (j := 1) (i := 4) (by decide) (hl_ne (j := 1) (i := 7) (by decide) (hl_ne (j := 1) (i := 3) (by decide) (hl_self _ _ _)))) (hi_cons (by simp) (hl_ne (j := 6) (i := 4) (by decide) (hl_ne (j := 6) (i := 7) (by decide) (hl_ne (j := 6) (i := 3) (by decide) (hl_ne (j := 6) (i := 1) (by decide) (hl_self _ _ _))))) (hi_cons (by simp) (hl_ne (j := 5) (i := 4) (by decide) (hl_ne (j := 5) (i := 7) (by decide) (hl_ne (j := 5) (i := 3) (by decide) (hl_ne (j := 5) (i := 1) (by decide) (hl_ne (j := 5) (i := 6) (by decide) (hl_ne (j := 5) (i := 2) (by decide) (hl_ne (j := 5) (i := 0) (by decide) (hl_self _ _ _)))))))) (hi_cons (by simp) (hl_ne (j := 2) (i := 4) (by decide) (hl_ne (j := 2) (i := 7) (by decide) (hl_ne (j := 2) (i := 3) (by decide) (hl_ne (j := 2) (i := 1) (by decide) (hl_ne (j := 2) (i := 6) (by decide) (hl_self _ _ _)))))) (hi_cons (by simp) (hl_self _ _ _) (hi_cons (by simp) (hl_ne (j := 3) (i := 4) (by decide) (hl_ne (j := 3) (i := 7) (by decide) (hl_self _ _ _))) (hi_cons (by simp) (hl_ne (j := 0) (i := 4) (by decide) (hl_ne (j := 0) (i := 7) (by decide) (hl_ne (j := 0) (i := 3) (by decide) (hl_ne (j := 0) (i := 1) (by decide) (hl_ne (j := 0) (i := 6) (by decide) (hl_ne (j := 0) (i := 2) (by decide) (hl_self _ _ _))))))) (hi_cons (by simp) (hl_ne (j := 7) (i := 4) (by decide) (hl_self _ _ _)) hi_nil)))))))) (by simp) (.free _ (Free.tpl FreeL.nil)) (OnL.cons (by simp) (ono_s (OnC.cons (.free _ (.sc _)) OnC.nil)) (OnL.cons (by simp) (ono_s (OnC.cons (.ms _ _ _ (by simp <;> omega)) OnC.nil)) (OnL.cons (by simp) (ono_typed fr_int1) (OnL.cons (by simp) (ono_s (OnC.cons (.free _ (.sc _)) OnC.nil)) (OnL.cons (by simp) (ono_s (OnC.cons (.ms _ _ _ (by simp <;> omega)) OnC.nil)) (OnL.cons (by simp) (ono_typed fr_int1) (OnL.cons (by simp) (ono_s (OnC.cons (.free _ (Free.slm fr_int1)) OnC.nil)) (OnL.cons (by simp) (ono_s (OnC.cons (On.fnl (OnC.cons (.own _ _ _ (by simp <;> omega)) (OnC.cons (.own _ _ _ (by simp <;> omega)) (OnC.cons (.own _ _ _ (by simp <;> omega)) (OnC.cons (.own _ _ _ (by simp <;> omega)) (OnC.cons (.own _ _ _ (by simp <;> omega)) (OnC.cons (.own _ _ _ (by simp <;> omega)) OnC.nil))))))) OnC.nil)) OnL.nil)))))))) (@sort_chances_c1_m_HC 0 1 n_451 x_453 (List.length x_453) (w64 ((List.length row_450 : Int) - 1)) x_452 (List.length x_452) row_450 1 6 5 2 4 3 0 7 8 rfl rfl ⟨(by decide), (by decide), (by decide), (by decide), (by decide), (by decide), (by decide), (by decide), (by decide), (by decide), (by decide), (by decide), (by decide), (by decide), (by decide), (by decide), (by decide), (by decide), (by decide), (by decide), (by decide), (by decide), (by decide), (by decide), (by decide), (by decide), (by decide), (by decide), (by decide), (by decide), (by decide), (by decide), (by decide), (by decide), (by decide), (by decide)⟩ _ hc_650) (Rest.drop (by simp) (Rest.drop (by simp) (Rest.drop (by simp) (Rest.drop (by simp) (Rest.drop (by simp) (Rest.drop (by simp) (Rest.drop (by simp) (Rest.drop (by simp) Rest.nil)))))))) rfl (fun hF29 => (hK _ _ _ ?_)))
  clear hK
  refine aopsS_end (hK27 _ (SatL.norm (n := 8) (h := hl [(1, (some (.cells 1 3 [[(int n_451)]]))), (6, (some (.cells 1 23 [[(.ms 5 0 (List.length x_453))]]))), (5, (some (.cells 1 3 (List.map int1 c_650)))), (2, (some (.cells 1 3 [[(int (w64 ((List.length row_450 : Int) - 1)))]]))), (4, (some (.cells 1 23 [[(.ms 3 0 (List.length x_452))]]))), (3, (some (.cells 1 3 (List.map int1 c_651)))), (0, (some (.cells 1 23 [[(.sl (List.map int1 row_450))]]))), (7, (some (.cells 1 133 [[(.fn 83 [(.own 1 0 0), (.own 6 0 0), (.own 2 0 0), (.own 4 0 0), (.own 0 0 0), (.own 7 0 0)])]])))]) (env' := [(6, (.own 4 0 0))]) (L' := [(4, (some (.cells 1 23 [[(.ms 3 0 (List.length x_452))]]))), (3, (some (.cells 1 3 (List.map int1 c_651))))]) rfl (hs_cons (hl_ne (j := 4) (i := 1) (by decide) (hl_ne (j := 4) (i := 6) (by decide) (hl_ne (j := 4) (i := 5) (by decide) (hl_ne (j := 4) (i := 2) (by decide) (hl_self _ _ _))))) (hs_cons (hl_ne (j := 3) (i := 1) (by decide) (hl_ne (j := 3) (i := 6) (by decide) (hl_ne (j := 3) (i := 5) (by decide) (hl_ne (j := 3) (i := 2) (by decide) (hl_ne (j := 3) (i := 4) (by decide) (hl_self _ _ _)))))) hs_nil)) ?_))
  repeat refine SatL.seq ?_
  refine SatL.reg [4] [some 20, some 4] rfl rfl fun K31 hK31 => ?_
  refine st (fun _ hk => s_load1 (c := (.ms 3 0 (List.length x_452))) agg_23 (d_own rfl (hl_self _ _ _) rfl rfl) rfl hk) ?_
  refine st (fun _ hk => s_as (v := (.ms 3 0 (List.length x_452))) rfl hk) ?_
  refine aopsS_end (hK31 _ (SatL.norm (n := 8) (h := hl [(4, (some (.cells 1 23 [[(.ms 3 0 (List.length x_452))]]))), (3, (some (.cells 1 3 (List.map int1 c_651))))]) (env' := [(4, (.ms 3 0 (List.length x_452)))]) (L' := [(3, (some (.cells 1 3 (List.map int1 c_651))))]) rfl (hs_cons (hl_ne (j := 3) (i := 4) (by decide) (hl_self _ _ _)) hs_nil) ?_))
  obtain rfl := Option.some.inj H0
  exact SatL.ret (fnQ_snap [(3, (some (.cells 1 3 (List.map int1 c_651))))] (.ms 3 0 (List.length x_452)) (.sl (List.map int1 c_651)) rfl (Snap.msW (hl_self _ _ _) hF29.2 fr_int1) rfl)

theorem sort_Chances_PC {table_362 : (List (List Int))} {kind_363 : Int} {n_364 : Int} {r : ((List Int) × Int)} (H0 : sort_Chances table_362 kind_363 n_364 = some r) : PC Try.prog 24 [(.sl (List.map (sl1 int1) table_362)), (int kind_363), (int n_364)] (· = (.tp [(.sl (List.map int1 r.1)), (int r.2)])) := by
  unfold sort_Chances at H0
  refine PC.of_bodyL [(0, (.sl (List.map (sl1 int1) table_362))), (1, (int kind_363)), (2, (int n_364))] Try.func24 rfl rfl (Nat.le_of_ble_eq_true rfl) rfl fun O => ?_
  repeat refine SatL.seq ?_
  refine SatL.reg [0, 1, 2] [some 6, some 7] rfl rfl fun K1 hK1 => ?_
  refine st (fun _ hk => s_as (v := nilS) rfl hk) ?_
  refine st (fun _ hk => s_as (v := (int 0)) rfl hk) ?_
  refine aopsS_end (hK1 _ (SatL.norm (n := 0) (h := hl []) (env' := [(0, (.sl (List.map (sl1 int1) table_362))), (1, (int kind_363)), (2, (int n_364))]) (L' := []) rfl hs_refl ?_))
  repeat refine SatL.seq ?_
  refine SatL.reg [0, 1, 2, 8] [some 9, some 10, some 8] rfl rfl fun K4 hK4 => ?_
  refine st (fun _ hk => s_mv (v := (.sl (List.map (sl1 int1) table_362))) rfl hk) ?_
  obtain ⟨r_446, hr_446, H0⟩ := bindS H0
  refine st (fun _ hk => s_call (avs := [(.sl (List.map (sl1 int1) table_362))]) rfl rfl rfl (PC.call1 (sort_CheckTable_PC hr_446) (FreeL.cons (Free.slm (fr_sl1 fr_int1)) FreeL.nil) hk)) ?_
  refine st (fun _ hk => s_as (v := (int r_446)) rfl hk) ?_
  refine aopsS_end (hK4 _ (SatL.norm (n := 0) (h := hl []) (env' := [(0, (.sl (List.map (sl1 int1) table_362))), (1, (int kind_363)), (2, (int n_364)), (8, (int r_446))]) (L' := []) rfl hs_refl ?_))
  repeat refine SatL.seq ?_
  refine SatL.reg [0, 1, 2, 8, 12] [some 11, some 12] rfl rfl fun K8 hK8 => ?_
  refine st (fun _ hk => s_mv (v := (int r_446)) rfl hk) ?_
  refine st (fun _ hk => s_bin rfl rfl (b_neq hk)) ?_
  refine aopsS_end (hK8 _ (SatL.norm (n := 0) (h := hl []) (env' := [(0, (.sl (List.map (sl1 int1) table_362))), (1, (int kind_363)), (2, (int n_364)), (8, (int r_446)), (12, (bool (r_446 != 0)))]) (L' := []) rfl hs_refl ?_))
  repeat refine SatL.seq ?_
  refine SatL.condX rfl (fun hc11 => ?_) (fun hc11 => ?_)
  ·
    replace H0 := iteT H0 hc11
    repeat refine SatL.seq ?_
    refine SatL.reg [6, 7] [some 13, some 6, some 7] rfl rfl fun K12 hK12 => ?_
    refine st (fun _ hk => s_mv (v := (int r_446)) rfl hk) ?_
    refine st (fun _ hk => s_as (v := nilS) rfl hk) ?_
    refine st (fun _ hk => s_as (v := (int r_446)) rfl hk) ?_
    refine aopsS_end (hK12 _ (SatL.norm (n := 0) (h := hl []) (env' := [(6, nilS), (7, (int r_446))]) (L' := []) rfl hs_refl ?_))
    obtain rfl := Option.some.inj H0
    exact SatL.ret (fnQ_snap [] (.tp [nilS, (int r_446)]) (.tp [(.sl []), (int r_446)]) rfl (Snap.tpL (SnapL.cons Snap.nilS (SnapL.cons (Snap.free _ (.sc _)) SnapL.nil))) rfl)
  ·
    replace H0 := iteF H0 hc11
    refine SatL.skip ?_
    repeat refine SatL.seq ?_
    refine SatL.reg [0, 1, 2, 26] [some 14, some 15, some 16, some 17, some 18, some 19, some 20, some 21, some 22, some 23, some 24, some 25, some 26] rfl rfl fun K16 hK16 => ?_
    refine st (fun _ hk => s_mv (v := (.sl (List.map (sl1 int1) table_362))) rfl hk) ?_
    refine aopsS_step fun _ hK => s_lenSl elem_38 rfl (fun hl18 => hK _ _ _ ?_)
    clear hK
    refine st (fun _ hk => s_bin rfl rfl (b_sub64 hk)) ?_
    refine st (fun _ hk => s_mv (v := (int kind_363)) rfl hk) ?_
    refine st (fun _ hk => s_bslF (es := [[(int kind_363)]]) (es' := List.map int1 [kind_363]) elem_23 zero_3 rfl (by decide) (by decide) rfl rfl hk) ?_
    obtain ⟨r_447, hr_447, H0⟩ := bindS H0
    refine st (fun _ hk => s_call (avs := [(int 0), (int (w64 ((List.length table_362 : Int) - 1))), (.sl (List.map int1 ([kind_363])))]) rfl rfl rfl (PC.call1 (sort_from_PC hr_447) (FreeL.cons (.sc _) (FreeL.cons (.sc _) (FreeL.cons (Free.slm fr_int1) FreeL.nil))) hk)) ?_
    refine st (fun _ hk => s_not rfl hk) ?_
    refine st (fun _ hk => s_mv (v := (bool (!r_447))) rfl hk) ?_
    refine aopsS_split rfl _ rfl (fun g25 => ?_) (fun g25 => ?_)
    ·
      replace H0 := iteF H0 (by simpa using g25)
      refine sx (fun _ hk => s_mv (v := (int n_364)) rfl hk) ?_
      refine sg rfl rfl (fun _ hk => s_bslF (es := [[(int n_364)]]) (es' := List.map int1 [n_364]) elem_23 zero_3 rfl (by decide) (by decide) rfl rfl hk) ?_
      obtain ⟨r_448, hr_448, H0⟩ := bindS H0
      refine sg rfl rfl (fun _ hk => s_call (avs := [(int 1), (int 5), (.sl (List.map int1 ([n_364])))]) rfl rfl rfl (PC.call1 (sort_from_PC hr_448) (FreeL.cons (.sc _) (FreeL.cons (.sc _) (FreeL.cons (Free.slm fr_int1) FreeL.nil))) hk)) ?_
      refine sg rfl rfl (fun _ hk => s_not rfl hk) ?_
      refine st (fun _ hk => s_pickF (v := (bool (!r_448))) rfl rfl hk) ?_
      refine aopsS_end (hK16 _ (SatL.norm (n := 0) (h := hl []) (env' := [(0, (.sl (List.map (sl1 int1) table_362))), (1, (int kind_363)), (2, (int n_364)), (26, (bool (!r_448)))]) (L' := []) rfl hs_refl ?_))
      repeat refine SatL.seq ?_
      refine SatL.condX rfl (fun hc31 => ?_) (fun hc31 => ?_)
      ·
        replace H0 := iteT H0 hc31
        repeat refine SatL.seq ?_
        refine SatL.reg [6, 7] [some 6, some 7] rfl rfl fun K32 hK32 => ?_
        refine st (fun _ hk => s_as (v := nilS) rfl hk) ?_
        refine st (fun _ hk => s_as (v := (int 2)) rfl hk) ?_
        refine aopsS_end (hK32 _ (SatL.norm (n := 0) (h := hl []) (env' := [(6, nilS), (7, (int 2))]) (L' := []) rfl hs_refl ?_))
        obtain rfl := Option.some.inj H0
        exact SatL.ret (fnQ_snap [] (.tp [nilS, (int 2)]) (.tp [(.sl []), (int 2)]) rfl (Snap.tpL (SnapL.cons Snap.nilS (SnapL.cons (Snap.free _ (.sc _)) SnapL.nil))) rfl)
      ·
        replace H0 := iteF H0 hc31
        refine SatL.skip ?_
        repeat refine SatL.seq ?_
        refine SatL.reg [6, 7] [some 27, some 28, some 29, some 30, some 31, some 32, some 6, some 7] rfl rfl fun K35 hK35 => ?_
        refine st (fun _ hk => s_mv (v := (.sl (List.map (sl1 int1) table_362))) rfl hk) ?_
        refine st (fun _ hk => s_mv (v := (int kind_363)) rfl hk) ?_
        obtain ⟨e_449, he_449, H0⟩ := bindS H0
        refine st (fun _ hk => s_ixSl elem_38 rfl rfl he_449 cells_23 rfl (by decide) hk) ?_
        refine st (fun _ hk => s_load1 (c := (.sl (List.map int1 e_449))) agg_23 (d_fp rfl) rfl hk) ?_
        refine st (fun _ hk => s_mv (v := (int n_364)) rfl hk) ?_
        obtain ⟨r_652, hr_652, H0⟩ := bindS H0
        refine st (fun _ hk => s_call (avs := [(.sl (List.map int1 e_449)), (int n_364)]) rfl rfl rfl (PC.call1 (sort_chances_PC hr_652) (FreeL.cons (Free.slm fr_int1) (FreeL.cons (.sc _) FreeL.nil)) hk)) ?_
        refine st (fun _ hk => s_as (v := (.sl (List.map int1 r_652))) rfl hk) ?_
        refine st (fun _ hk => s_as (v := (int 0)) rfl hk) ?_
        refine aopsS_end (hK35 _ (SatL.norm (n := 0) (h := hl []) (env' := [(6, (.sl (List.map int1 r_652))), (7, (int 0))]) (L' := []) rfl hs_refl ?_))
        obtain rfl := Option.some.inj H0
        exact SatL.ret (fnQ_snap [] (.tp [(.sl (List.map int1 r_652)), (int 0)]) (.tp [(.sl (List.map int1 r_652)), (int 0)]) rfl (Snap.tpL (SnapL.cons (Snap.free _ (Free.slm fr_int1)) (SnapL.cons (Snap.free _ (.sc _)) SnapL.nil))) rfl)
    ·
      replace H0 := iteT H0 (by simpa using g25)
      refine aopsS_off rfl rfl ?_
      refine aopsS_off rfl rfl ?_
      refine aopsS_off rfl rfl ?_
      refine st (fun _ hk => s_pickT (v := (bool true)) rfl rfl hk) ?_
      refine aopsS_end (hK16 _ (SatL.norm (n := 0) (h := hl []) (env' := [(0, (.sl (List.map (sl1 int1) table_362))), (1, (int kind_363)), (2, (int n_364)), (26, (bool true))]) (L' := []) rfl hs_refl ?_))
      repeat refine SatL.seq ?_
      refine SatL.condT rfl rfl ?_
      repeat refine SatL.seq ?_
      refine SatL.reg [6, 7] [some 6, some 7] rfl rfl fun K45 hK45 => ?_
      refine st (fun _ hk => s_as (v := nilS) rfl hk) ?_
      refine st (fun _ hk => s_as (v := (int 2)) rfl hk) ?_
      refine aopsS_end (hK45 _ (SatL.norm (n := 0) (h := hl []) (env' := [(6, nilS), (7, (int 2))]) (L' := []) rfl hs_refl ?_))
      obtain rfl := Option.some.inj H0
      exact SatL.ret (fnQ_snap [] (.tp [nilS, (int 2)]) (.tp [(.sl []), (int 2)]) rfl (Snap.tpL (SnapL.cons Snap.nilS (SnapL.cons (Snap.free _ (.sc _)) SnapL.nil))) rfl)

theorem ref09_Table_PC {l_658 : (List (List Int))} {r : Bool} (H0 : ref09_Table l_658 = some r) : PC Try.prog 56 [(.sl (List.map (sl1 int1) l_658))] (· = (bool r)) := by
  unfold ref09_Table at H0
  refine PC.of_bodyL [(0, (.sl (List.map (sl1 int1) l_658)))] Try.func56 rfl rfl (Nat.le_of_ble_eq_true rfl) rfl fun O => ?_
  repeat refine SatL.seq ?_
  refine SatL.reg [0] [some 2] rfl rfl fun K1 hK1 => ?_
  refine st (fun _ hk => s_as (v := (bool false)) rfl hk) ?_
  refine aopsS_end (hK1 _ (SatL.norm (n := 0) (h := hl []) (env' := [(0, (.sl (List.map (sl1 int1) l_658)))]) (L' := []) rfl hs_refl ?_))
  repeat refine SatL.seq ?_
  refine SatL.reg [0, 9] [some 6, some 7, some 8, some 9] rfl rfl fun K3 hK3 => ?_
  refine st (fun _ hk => s_mv (v := (.sl (List.map (sl1 int1) l_658))) rfl hk) ?_
  refine aopsS_step fun _ hK => s_lenSl elem_38 rfl (fun hl5 => hK _ _ _ ?_)
  clear hK
  obtain ⟨r_659, hr_659, H0⟩ := bindS H0
  refine st (fun _ hk => s_call (avs := [(int (List.length l_658 : Int)), (int 1), (int 8)]) rfl rfl rfl (PC.call1 (ref09_within_PC hr_659) (FreeL.cons (.sc _) (FreeL.cons (.sc _) (FreeL.cons (.sc _) FreeL.nil))) hk)) ?_
  refine st (fun _ hk => s_not rfl hk) ?_
  refine aopsS_end (hK3 _ (SatL.norm (n := 0) (h := hl []) (env' := [(0, (.sl (List.map (sl1 int1) l_658))), (9, (bool (!r_659)))]) (L' := []) rfl hs_refl ?_))
  repeat refine SatL.seq ?_
  refine SatL.condX rfl (fun hc8 => ?_) (fun hc8 => ?_)
  ·
    replace H0 := iteT H0 hc8
    repeat refine SatL.seq ?_
    refine SatL.reg [2] [some 2] rfl rfl fun K9 hK9 => ?_
    refine st (fun _ hk => s_as (v := (bool false)) rfl hk) ?_
    refine aopsS_end (hK9 _ (SatL.norm (n := 0) (h := hl []) (env' := [(2, (bool false))]) (L' := []) rfl hs_refl ?_))
    obtain rfl := Option.some.inj H0
    exact SatL.ret (fnQ_snap [] (bool false) (bool false) rfl (Snap.free _ (.sc _)) rfl)
  ·
    replace H0 := iteF H0 hc8
    refine SatL.skip ?_
    repeat refine SatL.seq ?_
    refine SatL.reg [0, 3] [some 3] rfl rfl fun K11 hK11 => ?_
    refine st (fun _ hk => s_as (v := (int 0)) rfl hk) ?_
    refine aopsS_end (hK11 _ (SatL.norm (n := 0) (h := hl []) (env' := [(0, (.sl (List.map (sl1 int1) l_658))), (3, (int 0))]) (L' := []) rfl hs_refl ?_))
    repeat refine SatL.seq ?_
    obtain ⟨o_714, H1, H0⟩ := bindS H0
    refine SatL.mid [] (fun s_ => (Sum.inr ()) = o_714 ∧ StLe s_ [] [] 0) ?_ ?_
    ·
      repeat refine SatL.seq ?_
      refine SatL.block ?_
      repeat refine SatL.seq ?_
      refine SatL.loopK [0, 3] (fun k0 s_ => ∃ (i_732 : Int), StLe s_ [(0, (.sl (List.map (sl1 int1) l_658))), (3, (int i_732))] [] 0 ∧ 0 ≤ i_732 ∧ k0 = Int.toNat ((List.length l_658 : Int) - i_732) ∧ ref09_Table_L0 l_658 k0 i_732 = some o_714) (Int.toNat ((List.length l_658 : Int) - 0)) ?_ ?_
      · exact ⟨0, (StLe.of [] 0 rfl hs_nil (Nat.le_refl _)), (by omega), rfl, H1⟩
      rintro k0 s_ ⟨i_732, hs_, _, hk_, H1⟩
      refine SatL.le hs_ ?_
      clear hs_
      rcases k0 with _ | k0
      ·
        rw [ref09_Table_L0.eq_1] at H1
        repeat refine SatL.seq ?_
        refine SatL.reg [0, 3, 13] [some 10, some 11, some 12, some 13] rfl rfl fun K1368 hK1368 => ?_
        refine st (fun _ hk => s_mv (v := (int i_732)) rfl hk) ?_
        refine st (fun _ hk => s_mv (v := (.sl (List.map (sl1 int1) l_658))) rfl hk) ?_
        refine aopsS_step fun _ hK => s_lenSl elem_38 rfl (fun hl1371 => hK _ _ _ ?_)
        clear hK
        refine st (fun _ hk => s_bin rfl rfl (b_lss hk)) ?_
        refine aopsS_end (hK1368 _ (SatL.norm (n := 0) (h := hl []) (env' := [(0, (.sl (List.map (sl1 int1) l_658))), (3, (int i_732)), (13, (bool (decide (i_732 < (List.length l_658 : Int)))))]) (L' := []) rfl hs_refl ?_))
        repeat refine SatL.seq ?_
        refine SatL.condF rfl (decide_eq_false (by omega)) ?_
        refine SatL.exit ?_
        simp only [thenQ, blockQ, if_true, reduceIte, Nat.reduceEqDiff]
        obtain rfl := Option.some.inj H1
        exact SatL.nil (thenN ⟨rfl, (StLe.of [] 0 rfl hs_nil (Nat.le_refl _))⟩)
      ·
        rw [ref09_Table_L0.eq_2] at H1
        repeat refine SatL.seq ?_
        refine SatL.reg [0, 3, 13] [some 10, some 11, some 12, some 13] rfl rfl fun K1373 hK1373 => ?_
        refine st (fun _ hk => s_mv (v := (int i_732)) rfl hk) ?_
        refine st (fun _ hk => s_mv (v := (.sl (List.map (sl1 int1) l_658))) rfl hk) ?_
        refine aopsS_step fun _ hK => s_lenSl elem_38 rfl (fun hl1376 => hK _ _ _ ?_)
        clear hK
        refine st (fun _ hk => s_bin rfl rfl (b_lss hk)) ?_
        refine aopsS_end (hK1373 _ (SatL.norm (n := 0) (h := hl []) (env' := [(0, (.sl (List.map (sl1 int1) l_658))), (3, (int i_732)), (13, (bool (decide (i_732 < (List.length l_658 : Int)))))]) (L' := []) rfl hs_refl ?_))
        repeat refine SatL.seq ?_
        refine SatL.condT rfl (decide_eq_true (by omega)) ?_
        have hlt1378 : (i_732 < (List.length l_658 : Int)) := by omega
        refine SatL.skip ?_
        repeat refine SatL.seq ?_
        refine SatL.block ?_
        repeat refine SatL.seq ?_
        refine SatL.reg [0, 3, 24] [some 16, some 17, some 18, some 19, some 20, some 21, some 22, some 23, some 24] rfl rfl fun K1379 hK1379 => ?_
        refine st (fun _ hk => s_mv (v := (.sl (List.map (sl1 int1) l_658))) rfl hk) ?_
        refine st (fun _ hk => s_mv (v := (int i_732)) rfl hk) ?_
        obtain ⟨e_750, he_750, H1⟩ := bindS H1
        refine st (fun _ hk => s_ixSl elem_38 rfl rfl he_750 cells_23 rfl (by decide) hk) ?_
        refine st (fun _ hk => s_load1 (c := (.sl (List.map int1 e_750))) agg_23 (d_fp rfl) rfl hk) ?_
        refine aopsS_step fun _ hK => s_lenSl elem_23 rfl (fun hl1384 => hK _ _ _ ?_)
        clear hK
        refine st (fun _ hk => s_mv (v := (.sl (List.map (sl1 int1) l_658))) rfl hk) ?_
        refine aopsS_step fun _ hK => s_lenSl elem_38 rfl (fun hl1386 => hK _ _ _ ?_)
        clear hK
        refine st (fun _ hk => s_bin rfl rfl (b_add64 hk)) ?_
        refine st (fun _ hk => s_bin rfl rfl (b_neq hk)) ?_
        refine aopsS_end (hK1379 _ (SatL.norm (n := 0) (h := hl []) (env' := [(0, (.sl (List.map (sl1 int1) l_658))), (3, (int i_732)), (24, (bool ((List.length e_750 : Int) != (w64 ((List.length l_658 : Int) + 1)))))]) (L' := []) rfl hs_refl ?_))
        repeat refine SatL.seq ?_
        refine SatL.condX rfl (fun hc1389 => ?_) (fun hc1389 => ?_)
        ·
          replace H1 := iteT H1 hc1389
          repeat refine SatL.seq ?_
          refine SatL.reg [2] [some 2] rfl rfl fun K1390 hK1390 => ?_
          refine st (fun _ hk => s_as (v := (bool false)) rfl hk) ?_
          refine aopsS_end (hK1390 _ (SatL.norm (n := 0) (h := hl []) (env' := [(2, (bool false))]) (L' := []) rfl hs_refl ?_))
          obtain rfl := Option.some.inj H1
          obtain rfl := Option.some.inj H0
          exact SatL.ret (fnQ_snap [] (bool false) (bool false) rfl (Snap.free _ (.sc _)) rfl)
        ·
          replace H1 := iteF H1 hc1389
          refine SatL.skip ?_
          repeat refine SatL.seq ?_
          refine SatL.reg [0, 3, 4] [some 4] rfl rfl fun K1392 hK1392 => ?_
          refine st (fun _ hk => s_as (v := (int 0)) rfl hk) ?_
          refine aopsS_end (hK1392 _ (SatL.norm (n := 0) (h := hl []) (env' := [(0, (.sl (List.map (sl1 int1) l_658))), (3, (int i_732)), (4, (int 0))]) (L' := []) rfl hs_refl ?_))
          repeat refine SatL.seq ?_
          refine SatL.reg [0, 3, 4, 5] [some 5] rfl rfl fun K1394 hK1394 => ?_
          refine st (fun _ hk => s_as (v := (int 0)) rfl hk) ?_
          refine aopsS_end (hK1394 _ (SatL.norm (n := 0) (h := hl []) (env' := [(0, (.sl (List.map (sl1 int1) l_658))), (3, (int i_732)), (4, (int 0)), (5, (int 0))]) (L' := []) rfl hs_refl ?_))
          repeat refine SatL.seq ?_
          obtain ⟨o_760, H2, H1⟩ := bindS H1
          refine SatL.mid [0, 3, 4] (fun s_ => ∃ (sum_759 : Int), (Sum.inr sum_759) = o_760 ∧ StLe s_ [(0, (.sl (List.map (sl1 int1) l_658))), (3, (int i_732)), (4, (int sum_759))] [] 0) ?_ ?_
          ·
            repeat refine SatL.seq ?_
            refine SatL.block ?_
            repeat refine SatL.seq ?_
            refine SatL.loopK [0, 3, 4, 5] (fun k1 s_ => ∃ (sum_763 : Int) (k_764 : Int), StLe s_ [(0, (.sl (List.map (sl1 int1) l_658))), (3, (int i_732)), (4, (int sum_763)), (5, (int k_764))] [] 0 ∧ 0 ≤ k_764 ∧ k1 = Int.toNat ((List.length e_750 : Int) - k_764) ∧ ref09_Table_L1 e_750 k1 sum_763 k_764 = some o_760) (Int.toNat ((List.length e_750 : Int) - 0)) ?_ ?_
            · exact ⟨0, 0, (StLe.of [] 0 rfl hs_nil (Nat.le_refl _)), (by omega), rfl, H2⟩
            rintro k1 s_ ⟨sum_763, k_764, hs_, _, hk_, H2⟩
            refine SatL.le hs_ ?_
            clear hs_
            rcases k1 with _ | k1
            ·
              rw [ref09_Table_L1.eq_1] at H2
              repeat refine SatL.seq ?_
              refine SatL.reg [0, 3, 4, 5, 31] [some 25, some 26, some 27, some 28, some 29, some 30, some 31] rfl rfl fun K1581 hK1581 => ?_
              refine st (fun _ hk => s_mv (v := (int k_764)) rfl hk) ?_
              refine st (fun _ hk => s_mv (v := (.sl (List.map (sl1 int1) l_658))) rfl hk) ?_
              refine st (fun _ hk => s_mv (v := (int i_732)) rfl hk) ?_
              refine st (fun _ hk => s_ixSl elem_38 rfl rfl he_750 cells_23 rfl (by decide) hk) ?_
              refine st (fun _ hk => s_load1 (c := (.sl (List.map int1 e_750))) agg_23 (d_fp rfl) rfl hk) ?_
              refine aopsS_step fun _ hK => s_lenSl elem_23 rfl (fun hl1587 => hK _ _ _ ?_)
              clear hK
              refine st (fun _ hk => s_bin rfl rfl (b_lss hk)) ?_
              refine aopsS_end (hK1581 _ (SatL.norm (n := 0) (h := hl []) (env' := [(0, (.sl (List.map (sl1 int1) l_658))), (3, (int i_732)), (4, (int sum_763)), (5, (int k_764)), (31, (bool (decide (k_764 < (List.length e_750 : Int)))))]) (L' := []) rfl hs_refl ?_))
              repeat refine SatL.seq ?_
              refine SatL.condF rfl (decide_eq_false (by omega)) ?_
              refine SatL.exit ?_
              simp only [thenQ, blockQ, if_true, reduceIte, Nat.reduceEqDiff]
              obtain rfl := Option.some.inj H2
              exact SatL.nil (thenN ⟨sum_763, rfl, (StLe.of [] 0 rfl hs_nil (Nat.le_refl _))⟩)
            ·
              rw [ref09_Table_L1.eq_2] at H2
              repeat refine SatL.seq ?_
              refine SatL.reg [0, 3, 4, 5, 31] [some 25, some 26, some 27, some 28, some 29, some 30, some 31] rfl rfl fun K1589 hK1589 => ?_
              refine st (fun _ hk => s_mv (v := (int k_764)) rfl hk) ?_
              refine st (fun _ hk => s_mv (v := (.sl (List.map (sl1 int1) l_658))) rfl hk) ?_
              refine st (fun _ hk => s_mv (v := (int i_732)) rfl hk) ?_
              refine st (fun _ hk => s_ixSl elem_38 rfl rfl he_750 cells_23 rfl (by decide) hk) ?_
              refine st (fun _ hk => s_load1 (c := (.sl (List.map int1 e_750))) agg_23 (d_fp rfl) rfl hk) ?_
              refine aopsS_step fun _ hK => s_lenSl elem_23 rfl (fun hl1595 => hK _ _ _ ?_)
              clear hK
              refine st (fun _ hk => s_bin rfl rfl (b_lss hk)) ?_
              refine aopsS_end (hK1589 _ (SatL.norm (n := 0) (h := hl []) (env' := [(0, (.sl (List.map (sl1 int1) l_658))), (3, (int i_732)), (4, (int sum_763)), (5, (int k_764)), (31, (bool (decide (k_764 < (List.length e_750 : Int)))))]) (L' := []) rfl hs_refl ?_))
              repeat refine SatL.seq ?_
              refine SatL.condT rfl (decide_eq_true (by omega)) ?_
              have hlt1597 : (k_764 < (List.length e_750 : Int)) := by omega
              refine SatL.skip ?_
              repeat refine SatL.seq ?_
              refine SatL.block ?_
              repeat refine SatL.seq ?_
              refine SatL.reg [0, 3, 4, 5, 42] [some 34, some 35, some 36, some 37, some 38, some 39, some 40, some 41, some 42] rfl rfl fun K1598 hK1598 => ?_
              refine st (fun _ hk => s_mv (v := (.sl (List.map (sl1 int1) l_658))) rfl hk) ?_
              refine st (fun _ hk => s_mv (v := (int i_732)) rfl hk) ?_
              refine st (fun _ hk => s_ixSl elem_38 rfl rfl he_750 cells_23 rfl (by decide) hk) ?_
              refine st (fun _ hk => s_load1 (c := (.sl (List.map int1 e_750))) agg_23 (d_fp rfl) rfl hk) ?_
              refine st (fun _ hk => s_mv (v := (int k_764)) rfl hk) ?_
              obtain ⟨e_767, he_767, H2⟩ := bindS H2
              refine st (fun _ hk => s_ixSl elem_23 rfl rfl he_767 cells_3 rfl (by decide) hk) ?_
              refine st (fun _ hk => s_load1 (c := (int e_767)) agg_3 (d_fp rfl) rfl hk) ?_
              obtain ⟨r_768, hr_768, H2⟩ := bindS H2
              refine st (fun _ hk => s_call (avs := [(int e_767), (int 0), (int 1000)]) rfl rfl rfl (PC.call1 (ref09_within_PC hr_768) (FreeL.cons (.sc _) (FreeL.cons (.sc _) (FreeL.cons (.sc _) FreeL.nil))) hk)) ?_
              refine st (fun _ hk => s_not rfl hk) ?_
              refine aopsS_end (hK1598 _ (SatL.norm (n := 0) (h := hl []) (env' := [(0, (.sl (List.map (sl1 int1) l_658))), (3, (int i_732)), (4, (int sum_763)), (5, (int k_764)), (42, (bool (!r_768)))]) (L' := []) rfl hs_refl ?_))
              repeat refine SatL.seq ?_
              refine SatL.condX rfl (fun hc1608 => ?_) (fun hc1608 => ?_)
              ·
                replace H2 := iteT H2 hc1608
                repeat refine SatL.seq ?_
                refine SatL.reg [2] [some 2] rfl rfl fun K1609 hK1609 => ?_
                refine st (fun _ hk => s_as (v := (bool false)) rfl hk) ?_
                refine aopsS_end (hK1609 _ (SatL.norm (n := 0) (h := hl []) (env' := [(2, (bool false))]) (L' := []) rfl hs_refl ?_))
                obtain rfl := Option.some.inj H2
                obtain rfl := Option.some.inj H1
                obtain rfl := Option.some.inj H0
                exact SatL.ret (fnQ_snap [] (bool false) (bool false) rfl (Snap.free _ (.sc _)) rfl)
              ·
                replace H2 := iteF H2 hc1608
                refine SatL.skip ?_
                repeat refine SatL.seq ?_
                refine SatL.rege [some 43, some 44, some 45, some 46, some 47, some 48, some 49, some 50, some 51, some 4] rfl rfl fun K1611 hK1611 => ?_
                refine st (fun _ hk => s_mv (v := (int sum_763)) rfl hk) ?_
                refine st (fun _ hk => s_mv (v := (.sl (List.map (sl1 int1) l_658))) rfl hk) ?_
                refine st (fun _ hk => s_mv (v := (int i_732)) rfl hk) ?_
                refine st (fun _ hk => s_ixSl elem_38 rfl rfl he_750 cells_23 rfl (by decide) hk) ?_
                refine st (fun _ hk => s_load1 (c := (.sl (List.map int1 e_750))) agg_23 (d_fp rfl) rfl hk) ?_
                refine st (fun _ hk => s_mv (v := (int k_764)) rfl hk) ?_
                refine st (fun _ hk => s_ixSl elem_23 rfl rfl he_767 cells_3 rfl (by decide) hk) ?_
                refine st (fun _ hk => s_load1 (c := (int e_767)) agg_3 (d_fp rfl) rfl hk) ?_
                refine st (fun _ hk => s_bin rfl rfl (b_add64 hk)) ?_
                refine st (fun _ hk => s_as (v := (int (w64 (sum_763 + e_767)))) rfl hk) ?_
                refine aopsS_end (hK1611 _ ?_)
                refine (blockN (thenN ?_))
                refine SatL.forget [0, 3, 4, 5] (SatL.norm (n := 0) (h := hl []) (env' := [(0, (.sl (List.map (sl1 int1) l_658))), (3, (int i_732)), (4, (int (w64 (sum_763 + e_767)))), (5, (int k_764))]) (L' := []) rfl hs_refl ?_)
                repeat refine SatL.seq ?_
                refine SatL.rege [some 32, some 33, some 5] rfl rfl fun K1622 hK1622 => ?_
                refine st (fun _ hk => s_mv (v := (int k_764)) rfl hk) ?_
                refine st (fun _ hk => s_bin rfl rfl (b_add64 hk)) ?_
                refine st (fun _ hk => s_as (v := (int (w64 (k_764 + 1)))) rfl hk) ?_
                refine aopsS_end (hK1622 _ ?_)
                have hw1626 : w64 (k_764 + 1) = k_764 + 1 := w64_id (by omega) (by omega)
                exact (thenN ⟨k1, ⟨(w64 (sum_763 + e_767)), (w64 (k_764 + 1)), (StLe.of [] 0 rfl hs_nil (Nat.le_refl _)), (by omega), (by rw [hw1626]; omega), (Eq.mpr (congrArg (fun q_ => ref09_Table_L1 e_750 k1 ((w64 (sum_763 + e_767))) q_ = some o_760) hw1626) H2)⟩, by omega⟩)
          ·
            rintro s_ ⟨sum_759, rfl, hs_⟩
            refine SatL.le hs_ ?_
            clear hs_
            replace H1 := sumun1S H1
            repeat refine SatL.seq ?_
            refine SatL.reg [0, 3, 53] [some 52, some 53] rfl rfl fun K1627 hK1627 => ?_
            refine st (fun _ hk => s_mv (v := (int sum_759)) rfl hk) ?_
            refine st (fun _ hk => s_bin rfl rfl (b_neq hk)) ?_
            refine aopsS_end (hK1627 _ (SatL.norm (n := 0) (h := hl []) (env' := [(0, (.sl (List.map (sl1 int1) l_658))), (3, (int i_732)), (53, (bool (sum_759 != 1000)))]) (L' := []) rfl hs_refl ?_))
            repeat refine SatL.seq ?_
            refine SatL.condX rfl (fun hc1630 => ?_) (fun hc1630 => ?_)
            ·
              replace H1 := iteT H1 hc1630
              repeat refine SatL.seq ?_
              refine SatL.reg [2] [some 2] rfl rfl fun K1631 hK1631 => ?_
              refine st (fun _ hk => s_as (v := (bool false)) rfl hk) ?_
              refine aopsS_end (hK1631 _ (SatL.norm (n := 0) (h := hl []) (env' := [(2, (bool false))]) (L' := []) rfl hs_refl ?_))
              obtain rfl := Option.some.inj H1
              obtain rfl := Option.some.inj H0
              exact SatL.ret (fnQ_snap [] (bool false) (bool false) rfl (Snap.free _ (.sc _)) rfl)
            ·
              replace H1 := iteF H1 hc1630
              refine SatL.skip ?_
              refine SatL.nil (blockN (thenN ?_))
              repeat refine SatL.seq ?_
              refine SatL.rege [some 14, some 15, some 3] rfl rfl fun K1633 hK1633 => ?_
              refine st (fun _ hk => s_mv (v := (int i_732)) rfl hk) ?_
              refine st (fun _ hk => s_bin rfl rfl (b_add64 hk)) ?_
              refine st (fun _ hk => s_as (v := (int (w64 (i_732 + 1)))) rfl hk) ?_
              refine aopsS_end (hK1633 _ ?_)
              have hw1637 : w64 (i_732 + 1) = i_732 + 1 := w64_id (by omega) (by omega)
              exact (thenN ⟨k0, ⟨(w64 (i_732 + 1)), (StLe.of [] 0 rfl hs_nil (Nat.le_refl _)), (by omega), (by rw [hw1637]; omega), (Eq.mpr (congrArg (fun q_ => ref09_Table_L0 l_658 k0 q_ = some o_714) hw1637) H1)⟩, by omega⟩)
    ·
      rintro s_ ⟨rfl, hs_⟩
      refine SatL.le hs_ ?_
      clear hs_
      replace H0 := sumun0S H0
      repeat refine SatL.seq ?_
      refine SatL.reg [2] [some 2] rfl rfl fun K1638 hK1638 => ?_
      refine st (fun _ hk => s_as (v := (bool true)) rfl hk) ?_
      refine aopsS_end (hK1638 _ (SatL.norm (n := 0) (h := hl []) (env' := [(2, (bool true))]) (L' := []) rfl hs_refl ?_))
      obtain rfl := Option.some.inj H0
      exact SatL.ret (fnQ_snap [] (bool true) (bool true) rfl (Snap.free _ (.sc _)) rfl)

theorem ref09_counted_m1_ind (fuel : Nat) : ∀ (row_817 : (List Int)) (begin_818 : (List Int)) (len_819 : Nat) (n_820 : Int) (way_821 : Int) (out_822 : (List Int)) (len_823 : Nat) (id_824 : Nat) (id_825 : Nat) (n_826 : Nat) (hlenbegin_818 : List.length begin_818 = len_819) (hlenout_822 : List.length out_822 = len_823) (hids : id_824 < n_826 ∧ id_825 < n_826 ∧ id_824 ≠ id_825) {r : (List Int)}, ref09_counted_m1 fuel row_817 begin_818 len_819 n_820 way_821 out_822 len_823 = some r → HC Try.prog 84 [(.sl (List.map int1 row_817)), (.ms id_824 0 len_819), (int n_820), (int way_821), (.ms id_825 0 len_823)] (hl [(id_824, (some (.cells 1 3 (List.map int1 begin_818)))), (id_825, (some (.cells 1 3 (List.map int1 out_822))))]) n_826 (fun v_ h_ n_ => (v_ = (.tp []) ∧ h_ = hl [(id_824, (some (.cells 1 3 (List.map int1 begin_818)))), (id_825, (some (.cells 1 3 (List.map int1 r))))] ∧ n_ = n_826) ∧ (List.length r = len_823)) := by
  induction fuel with
  | zero => intro row_817 begin_818 len_819 n_820 way_821 out_822 len_823 id_824 id_825 n_826 hlenbegin_818 hlenout_822 hids r H0; cases H0
  | succ fuel ih_ref09_counted_m1 =>
    intro row_817 begin_818 len_819 n_820 way_821 out_822 len_823 id_824 id_825 n_826 hlenbegin_818 hlenout_822 hids r H0
    rw [ref09_counted_m1.eq_2] at H0
    obtain ⟨hltid_824, hltid_825, hneid_824id_825⟩ := hids
    refine HC.of_bodyM [(0, (.sl (List.map int1 row_817))), (1, (.ms id_824 0 len_819)), (2, (int n_820)), (3, (int way_821)), (4, (.ms id_825 0 len_823))] Try.func84 rfl rfl (Nat.le_of_ble_eq_true rfl) rfl fun O => ?_
    repeat refine SatL.seq ?_
    refine SatL.reg [0, 1, 2, 3, 4, 16] [some 13, some 14, some 15, some 16] rfl rfl fun K1351 hK1351 => ?_
    refine st (fun _ hk => s_mv (v := (.ms id_824 0 len_819)) rfl hk) ?_
    refine aopsS_step fun _ hK => s_lenMs elem_23 rfl (isC (hl_self _ _ _)) (fun hl1353 => hK _ _ _ ?_)
    clear hK
    refine st (fun _ hk => s_mv (v := (int n_820)) rfl hk) ?_
    refine st (fun _ hk => s_bin rfl rfl (b_eql hk)) ?_
    refine aopsS_end (hK1351 _ (SatL.norm (n := n_826) (h := hl [(id_824, (some (.cells 1 3 (List.map int1 begin_818)))), (id_825, (some (.cells 1 3 (List.map int1 out_822))))]) (env' := [(0, (.sl (List.map int1 row_817))), (1, (.ms id_824 0 len_819)), (2, (int n_820)), (3, (int way_821)), (4, (.ms id_825 0 len_823)), (16, (bool (((len_819 : Nat) : Int) == n_820)))]) (L' := [(id_824, (some (.cells 1 3 (List.map int1 begin_818)))), (id_825, (some (.cells 1 3 (List.map int1 out_822))))]) rfl hs_refl ?_))
    repeat refine SatL.seq ?_
    refine SatL.condX rfl (fun hc1356 => ?_) (fun hc1356 => ?_)
    ·
      replace H0 := iteT H0 hc1356
      repeat refine SatL.seq ?_
      refine SatL.reg [0, 3, 4, 10] [some 17, some 18, some 10] rfl rfl fun K1357 hK1357 => ?_
      refine st (fun _ hk => s_mv (v := (.ms id_824 0 len_819)) rfl hk) ?_
      obtain ⟨r_986, hr_986, H0⟩ := bindS H0
      refine st (fun _ hk => s_call (avs := [(.ms id_824 0 len_819)]) rfl rfl rfl (PC.lend1 (args' := [(.sl (List.map int1 begin_818))]) (SnapL.cons (Snap.msW (hl_self _ _ _) hlenbegin_818 fr_int1) SnapL.nil) (ref09_Seen_PC hr_986) (.sc _) hk)) ?_
      refine st (fun _ hk => s_as (v := (int r_986)) rfl hk) ?_
      refine aopsS_end (hK1357 _ (SatL.norm (n := n_826) (h := hl [(id_824, (some (.cells 1 3 (List.map int1 begin_818)))), (id_825, (some (.cells 1 3 (List.map int1 out_822))))]) (env' := [(0, (.sl (List.map int1 row_817))), (3, (int way_821)), (4, (.ms id_825 0 len_823)), (10, (int r_986))]) (L' := [(id_824, (some (.cells 1 3 (List.map int1 begin_818)))), (id_825, (some (.cells 1 3 (List.map int1 out_822))))]) rfl hs_refl ?_))
      repeat refine SatL.seq ?_
      refine SatL.reg [0, 3, 4, 10, 20] [some 19, some 20] rfl rfl fun K1361 hK1361 => ?_
      refine st (fun _ hk => s_mv (v := (int r_986)) rfl hk) ?_
      refine st (fun _ hk => s_bin rfl rfl (b_lss hk)) ?_
      refine aopsS_end (hK1361 _ (SatL.norm (n := n_826) (h := hl [(id_824, (some (.cells 1 3 (List.map int1 begin_818)))), (id_825, (some (.cells 1 3 (List.map int1 out_822))))]) (env' := [(0, (.sl (List.map int1 row_817))), (3, (int way_821)), (4, (.ms id_825 0 len_823)), (10, (int r_986)), (20, (bool (decide (r_986 < 0))))]) (L' := [(id_824, (some (.cells 1 3 (List.map int1 begin_818)))), (id_825, (some (.cells 1 3 (List.map int1 out_822))))]) rfl hs_refl ?_))
      repeat refine SatL.seq ?_
      refine SatL.condX rfl (fun hc1364 => ?_) (fun hc1364 => ?_)
      ·
        replace H0 := iteT H0 hc1364
        repeat refine SatL.seq ?_
        refine SatL.reg [3, 4, 10] [some 21, some 22, some 23, some 10] rfl rfl fun K1365 hK1365 => ?_
        refine st (fun _ hk => s_mv (v := (.sl (List.map int1 row_817))) rfl hk) ?_
        refine aopsS_step fun _ hK => s_lenSl elem_23 rfl (fun hl1367 => hK _ _ _ ?_)
        clear hK
        refine st (fun _ hk => s_bin rfl rfl (b_sub64 hk)) ?_
        refine st (fun _ hk => s_as (v := (int (w64 ((List.length row_817 : Int) - 1)))) rfl hk) ?_
        refine aopsS_end (hK1365 _ (SatL.norm (n := n_826) (h := hl [(id_824, (some (.cells 1 3 (List.map int1 begin_818)))), (id_825, (some (.cells 1 3 (List.map int1 out_822))))]) (env' := [(3, (int way_821)), (4, (.ms id_825 0 len_823)), (10, (int (w64 ((List.length row_817 : Int) - 1))))]) (L' := [(id_824, (some (.cells 1 3 (List.map int1 begin_818)))), (id_825, (some (.cells 1 3 (List.map int1 out_822))))]) rfl hs_refl ?_))
        repeat refine SatL.seq ?_
        refine SatL.reg [] [some 24, some 25, some 26, some 27, some 28, some 29, some 30, none] rfl rfl fun K1370 hK1370 => ?_
        refine st (fun _ hk => s_mv (v := (.ms id_825 0 len_823)) rfl hk) ?_
        refine st (fun _ hk => s_mv (v := (int (w64 ((List.length row_817 : Int) - 1)))) rfl hk) ?_
        obtain ⟨e_987, he_987, H0⟩ := bindS H0
        refine st (fun _ hk => s_ixM0 elem_23 rfl rfl (hl_ne (j := id_825) (i := id_824) hneid_824id_825.symm (hl_self _ _ _)) (gi_lt he_987).1 (ltl he_987 hlenout_822) cells_3 (by decide) hk) ?_
        refine st (fun _ hk => s_load1 (c := (int e_987)) agg_3 (d_own rfl (hl_ne (j := id_825) (i := id_824) hneid_824id_825.symm (hl_self _ _ _)) (mapget he_987) rfl) rfl hk) ?_
        refine st (fun _ hk => s_mv (v := (int way_821)) rfl hk) ?_
        refine st (fun _ hk => s_bin rfl rfl (b_add64 hk)) ?_
        refine st (fun _ hk => s_ixM0 elem_23 rfl rfl (hl_ne (j := id_825) (i := id_824) hneid_824id_825.symm (hl_self _ _ _)) (gi_lt he_987).1 (ltl he_987 hlenout_822) cells_3 (by decide) hk) ?_
        refine s0 (fun _ hk => s_store rfl (hl_ne (j := id_825) (i := id_824) hneid_824id_825.symm (hl_self _ _ _)) (mapget he_987) rfl cells_3 rfl (by decide) (Nat.le_of_ble_eq_true rfl) (set_map (f := int1) (y := (w64 (e_987 + way_821))) rfl) (hu_ne (j := id_825) (i := id_824) hneid_824id_825.symm (hu_self _ _ _ _)) hk) ?_
        refine aopsS_end (hK1370 _ (SatL.norm (n := n_826) (h := hl [(id_824, (some (.cells 1 3 (List.map int1 begin_818)))), (id_825, (some (.cells 1 3 (List.map int1 (List.set out_822 (Int.toNat (w64 ((List.length row_817 : Int) - 1))) (w64 (e_987 + way_821)))))))]) (env' := []) (L' := [(id_824, (some (.cells 1 3 (List.map int1 begin_818)))), (id_825, (some (.cells 1 3 (List.map int1 (List.set out_822 (Int.toNat (w64 ((List.length row_817 : Int) - 1))) (w64 (e_987 + way_821)))))))]) rfl hs_refl ?_))
        obtain rfl := Option.some.inj H0
        exact SatL.ret (fnQ_shut [(id_824, (some (.cells 1 3 (List.map int1 begin_818)))), (id_825, (some (.cells 1 3 (List.map int1 (List.set out_822 (Int.toNat (w64 ((List.length row_817 : Int) - 1))) (w64 (e_987 + way_821)))))))] (.tp []) rfl (sh_cons (hl_self _ _ _) (by omega) (ono_typed fr_int1) (sh_cons (hl_ne (j := id_825) (i := id_824) hneid_824id_825.symm (hl_self _ _ _)) (by omega) (ono_typed fr_int1) sh_nil)) (hl []) hn_nil (Snap.free _ (Free.tpl FreeL.nil)) (List.length_set.trans hlenout_822))
      ·
        replace H0 := iteF H0 hc1364
        refine SatL.skip ?_
        repeat refine SatL.seq ?_
        refine SatL.reg [] [some 24, some 25, some 26, some 27, some 28, some 29, some 30, none] rfl rfl fun K1379 hK1379 => ?_
        refine st (fun _ hk => s_mv (v := (.ms id_825 0 len_823)) rfl hk) ?_
        refine st (fun _ hk => s_mv (v := (int r_986)) rfl hk) ?_
        obtain ⟨e_988, he_988, H0⟩ := bindS H0
        refine st (fun _ hk => s_ixM0 elem_23 rfl rfl (hl_ne (j := id_825) (i := id_824) hneid_824id_825.symm (hl_self _ _ _)) (gi_lt he_988).1 (ltl he_988 hlenout_822) cells_3 (by decide) hk) ?_
        refine st (fun _ hk => s_load1 (c := (int e_988)) agg_3 (d_own rfl (hl_ne (j := id_825) (i := id_824) hneid_824id_825.symm (hl_self _ _ _)) (mapget he_988) rfl) rfl hk) ?_
        refine st (fun _ hk => s_mv (v := (int way_821)) rfl hk) ?_
        refine st (fun _ hk => s_bin rfl rfl (b_add64 hk)) ?_
        refine st (fun _ hk => s_ixM0 elem_23 rfl rfl (hl_ne (j := id_825) (i := id_824) hneid_824id_825.symm (hl_self _ _ _)) (gi_lt he_988).1 (ltl he_988 hlenout_822) cells_3 (by decide) hk) ?_
        refine s0 (fun _ hk => s_store rfl (hl_ne (j := id_825) (i := id_824) hneid_824id_825.symm (hl_self _ _ _)) (mapget he_988) rfl cells_3 rfl (by decide) (Nat.le_of_ble_eq_true rfl) (set_map (f := int1) (y := (w64 (e_988 + way_821))) rfl) (hu_ne (j := id_825) (i := id_824) hneid_824id_825.symm (hu_self _ _ _ _)) hk) ?_
        refine aopsS_end (hK1379 _ (SatL.norm (n := n_826) (h := hl [(id_824, (some (.cells 1 3 (List.map int1 begin_818)))), (id_825, (some (.cells 1 3 (List.map int1 (List.set out_822 (Int.toNat r_986) (w64 (e_988 + way_821)))))))]) (env' := []) (L' := [(id_824, (some (.cells 1 3 (List.map int1 begin_818)))), (id_825, (some (.cells 1 3 (List.map int1 (List.set out_822 (Int.toNat r_986) (w64 (e_988 + way_821)))))))]) rfl hs_refl ?_))
        obtain rfl := Option.some.inj H0
        exact SatL.ret (fnQ_shut [(id_824, (some (.cells 1 3 (List.map int1 begin_818)))), (id_825, (some (.cells 1 3 (List.map int1 (List.set out_822 (Int.toNat r_986) (w64 (e_988 + way_821)))))))] (.tp []) rfl (sh_cons (hl_self _ _ _) (by omega) (ono_typed fr_int1) (sh_cons (hl_ne (j := id_825) (i := id_824) hneid_824id_825.symm (hl_self _ _ _)) (by omega) (ono_typed fr_int1) sh_nil)) (hl []) hn_nil (Snap.free _ (Free.tpl FreeL.nil)) (List.length_set.trans hlenout_822))
    ·
      replace H0 := iteF H0 hc1356
      refine SatL.skip ?_
      repeat refine SatL.seq ?_
      refine SatL.reg [0, 1, 2, 3, 4, 11] [some 11] rfl rfl fun K1388 hK1388 => ?_
      refine st (fun _ hk => s_as (v := (int 0)) rfl hk) ?_
      refine aopsS_end (hK1388 _ (SatL.norm (n := n_826) (h := hl [(id_824, (some (.cells 1 3 (List.map int1 begin_818)))), (id_825, (some (.cells 1 3 (List.map int1 out_822))))]) (env' := [(0, (.sl (List.map int1 row_817))), (1, (.ms id_824 0 len_819)), (2, (int n_820)), (3, (int way_821)), (4, (.ms id_825 0 len_823)), (11, (int 0))]) (L' := [(id_824, (some (.cells 1 3 (List.map int1 begin_818)))), (id_825, (some (.cells 1 3 (List.map int1 out_822))))]) rfl hs_refl ?_))
      repeat refine SatL.seq ?_
      obtain ⟨o_1031, H1, H0⟩ := bindS H0
      repeat refine SatL.seq ?_
      refine SatL.block ?_
      repeat refine SatL.seq ?_
      refine SatL.loopK [0, 1, 2, 3, 4, 11] (fun k0 s_ => ∃ (out_1046 : (List Int)) (j_1047 : Int) (n_1048 : Nat), StLe s_ [(0, (.sl (List.map int1 row_817))), (1, (.ms id_824 0 len_819)), (2, (int n_820)), (3, (int way_821)), (4, (.ms id_825 0 len_823)), (11, (int j_1047))] [(id_824, (some (.cells 1 3 (List.map int1 begin_818)))), (id_825, (some (.cells 1 3 (List.map int1 out_1046))))] n_1048 ∧ id_824 < n_1048 ∧ id_825 < n_1048 ∧ List.length out_1046 = len_823 ∧ 0 ≤ j_1047 ∧ k0 = Int.toNat ((List.length row_817 : Int) - j_1047) ∧ ref09_counted_m1_L0 (ref09_counted_m1 fuel) row_817 begin_818 n_820 way_821 len_823 k0 out_1046 j_1047 = some o_1031) (Int.toNat ((List.length row_817 : Int) - 0)) ?_ ?_
      · exact ⟨out_822, 0, n_826, (StLe.of [(id_824, (some (.cells 1 3 (List.map int1 begin_818)))), (id_825, (some (.cells 1 3 (List.map int1 out_822))))] n_826 rfl (hs_cons (hl_self _ _ _) (hs_cons (hl_ne (j := id_825) (i := id_824) hneid_824id_825.symm (hl_self _ _ _)) hs_nil)) (Nat.le_refl _)), (by omega), (by omega), (by first | exact hlenout_822 | simp), (by omega), rfl, H1⟩
      rintro k0 s_ ⟨out_1046, j_1047, n_1048, hs_, _, _, hlenout_1046, _, hk_, H1⟩
      refine SatL.le hs_ ?_
      clear hs_
      rcases k0 with _ | k0
      ·
        rw [ref09_counted_m1_L0.eq_1] at H1
        repeat refine SatL.seq ?_
        refine SatL.reg [0, 1, 2, 3, 4, 11, 34] [some 31, some 32, some 33, some 34] rfl rfl fun K1954 hK1954 => ?_
        refine st (fun _ hk => s_mv (v := (int j_1047)) rfl hk) ?_
        refine st (fun _ hk => s_mv (v := (.sl (List.map int1 row_817))) rfl hk) ?_
        refine aopsS_step fun _ hK => s_lenSl elem_23 rfl (fun hl1957 => hK _ _ _ ?_)
        clear hK
        refine st (fun _ hk => s_bin rfl rfl (b_lss hk)) ?_
        refine aopsS_end (hK1954 _ (SatL.norm (n := n_1048) (h := hl [(id_824, (some (.cells 1 3 (List.map int1 begin_818)))), (id_825, (some (.cells 1 3 (List.map int1 out_1046))))]) (env' := [(0, (.sl (List.map int1 row_817))), (1, (.ms id_824 0 len_819)), (2, (int n_820)), (3, (int way_821)), (4, (.ms id_825 0 len_823)), (11, (int j_1047)), (34, (bool (decide (j_1047 < (List.length row_817 : Int)))))]) (L' := [(id_824, (some (.cells 1 3 (List.map int1 begin_818)))), (id_825, (some (.cells 1 3 (List.map int1 out_1046))))]) rfl hs_refl ?_))
        repeat refine SatL.seq ?_
        refine SatL.condF rfl (decide_eq_false (by omega)) ?_
        refine SatL.exit ?_
        simp only [thenQ, blockQ, if_true, reduceIte, Nat.reduceEqDiff]
        obtain rfl := Option.some.inj H1
        replace H0 := un1S H0
        obtain rfl := Option.some.inj H0
        exact SatL.nil (fnQ_shutN [(id_824, (some (.cells 1 3 (List.map int1 begin_818)))), (id_825, (some (.cells 1 3 (List.map int1 out_1046))))] (.tp []) rfl (sh_cons (hl_self _ _ _) (by omega) (ono_typed fr_int1) (sh_cons (hl_ne (j := id_825) (i := id_824) hneid_824id_825.symm (hl_self _ _ _)) (by omega) (ono_typed fr_int1) sh_nil)) (hl []) hn_nil (Snap.free _ (Free.tpl FreeL.nil)) hlenout_1046)
      ·
        rw [ref09_counted_m1_L0.eq_2] at H1
        repeat refine SatL.seq ?_
        refine SatL.reg [0, 1, 2, 3, 4, 11, 34] [some 31, some 32, some 33, some 34] rfl rfl fun K1959 hK1959 => ?_
        refine st (fun _ hk => s_mv (v := (int j_1047)) rfl hk) ?_
        refine st (fun _ hk => s_mv (v := (.sl (List.map int1 row_817))) rfl hk) ?_
        refine aopsS_step fun _ hK => s_lenSl elem_23 rfl (fun hl1962 => hK _ _ _ ?_)
        clear hK
        refine st (fun _ hk => s_bin rfl rfl (b_lss hk)) ?_
        refine aopsS_end (hK1959 _ (SatL.norm (n := n_1048) (h := hl [(id_824, (some (.cells 1 3 (List.map int1 begin_818)))), (id_825, (some (.cells 1 3 (List.map int1 out_1046))))]) (env' := [(0, (.sl (List.map int1 row_817))), (1, (.ms id_824 0 len_819)), (2, (int n_820)), (3, (int way_821)), (4, (.ms id_825 0 len_823)), (11, (int j_1047)), (34, (bool (decide (j_1047 < (List.length row_817 : Int)))))]) (L' := [(id_824, (some (.cells 1 3 (List.map int1 begin_818)))), (id_825, (some (.cells 1 3 (List.map int1 out_1046))))]) rfl hs_refl ?_))
        repeat refine SatL.seq ?_
        refine SatL.condT rfl (decide_eq_true (by omega)) ?_
        have hlt1964 : (j_1047 < (List.length row_817 : Int)) := by omega
        refine SatL.skip ?_
        repeat refine SatL.seq ?_
        refine SatL.block ?_
        repeat refine SatL.seq ?_
        refine SatL.reg [0, 1, 2, 3, 4, 11, 12] [some 37, some 12] rfl rfl fun K1965 hK1965 => ?_
        refine st (fun _ hk => s_mv (v := (int j_1047)) rfl hk) ?_
        refine st (fun _ hk => s_as (v := (int j_1047)) rfl hk) ?_
        refine aopsS_end (hK1965 _ (SatL.norm (n := n_1048) (h := hl [(id_824, (some (.cells 1 3 (List.map int1 begin_818)))), (id_825, (some (.cells 1 3 (List.map int1 out_1046))))]) (env' := [(0, (.sl (List.map int1 row_817))), (1, (.ms id_824 0 len_819)), (2, (int n_820)), (3, (int way_821)), (4, (.ms id_825 0 len_823)), (11, (int j_1047)), (12, (int j_1047))]) (L' := [(id_824, (some (.cells 1 3 (List.map int1 begin_818)))), (id_825, (some (.cells 1 3 (List.map int1 out_1046))))]) rfl hs_refl ?_))
        repeat refine SatL.seq ?_
        refine SatL.reg [0, 1, 2, 3, 4, 11, 12, 42] [some 38, some 39, some 40, some 41, some 42] rfl rfl fun K1968 hK1968 => ?_
        refine st (fun _ hk => s_mv (v := (int j_1047)) rfl hk) ?_
        refine st (fun _ hk => s_mv (v := (.sl (List.map int1 row_817))) rfl hk) ?_
        refine aopsS_step fun _ hK => s_lenSl elem_23 rfl (fun hl1971 => hK _ _ _ ?_)
        clear hK
        refine st (fun _ hk => s_bin rfl rfl (b_sub64 hk)) ?_
        refine st (fun _ hk => s_bin rfl rfl (b_eql hk)) ?_
        refine aopsS_end (hK1968 _ (SatL.norm (n := n_1048) (h := hl [(id_824, (some (.cells 1 3 (List.map int1 begin_818)))), (id_825, (some (.cells 1 3 (List.map int1 out_1046))))]) (env' := [(0, (.sl (List.map int1 row_817))), (1, (.ms id_824 0 len_819)), (2, (int n_820)), (3, (int way_821)), (4, (.ms id_825 0 len_823)), (11, (int j_1047)), (12, (int j_1047)), (42, (bool (j_1047 == (w64 ((List.length row_817 : Int) - 1)))))]) (L' := [(id_824, (some (.cells 1 3 (List.map int1 begin_818)))), (id_825, (some (.cells 1 3 (List.map int1 out_1046))))]) rfl hs_refl ?_))
        repeat refine SatL.seq ?_
        obtain ⟨o_1064, H2, H1⟩ := bindS H1
        refine SatL.mid [0, 1, 2, 3, 4, 11, 12] (fun s_ => ∃ (says_1063 : Int), says_1063 = o_1064 ∧ StLe s_ [(0, (.sl (List.map int1 row_817))), (1, (.ms id_824 0 len_819)), (2, (int n_820)), (3, (int way_821)), (4, (.ms id_825 0 len_823)), (11, (int j_1047)), (12, (int says_1063))] [(id_824, (some (.cells 1 3 (List.map int1 begin_818)))), (id_825, (some (.cells 1 3 (List.map int1 out_1046))))] n_1048 ∧ id_824 < n_1048 ∧ id_825 < n_1048) ?_ ?_
        ·
          repeat refine SatL.seq ?_
          refine SatL.condX rfl (fun hc1977 => ?_) (fun hc1977 => ?_)
          ·
            replace H2 := iteT H2 hc1977
            repeat refine SatL.seq ?_
            refine SatL.rege [some 12] rfl rfl fun K1978 hK1978 => ?_
            refine st (fun _ hk => s_as (v := (int (-1))) rfl hk) ?_
            refine aopsS_end (hK1978 _ ?_)
            obtain rfl := Option.some.inj H2
            exact (thenN ⟨(-1), rfl, (StLe.of [(id_824, (some (.cells 1 3 (List.map int1 begin_818)))), (id_825, (some (.cells 1 3 (List.map int1 out_1046))))] n_1048 rfl (hs_cons (hl_self _ _ _) (hs_cons (hl_ne (j := id_825) (i := id_824) hneid_824id_825.symm (hl_self _ _ _)) hs_nil)) (Nat.le_refl _)), (by omega), (by omega)⟩)
          ·
            replace H2 := iteF H2 hc1977
            refine SatL.skip ?_
            obtain rfl := Option.some.inj H2
            exact SatL.nil (thenN ⟨j_1047, rfl, (StLe.of [(id_824, (some (.cells 1 3 (List.map int1 begin_818)))), (id_825, (some (.cells 1 3 (List.map int1 out_1046))))] n_1048 rfl (hs_cons (hl_self _ _ _) (hs_cons (hl_ne (j := id_825) (i := id_824) hneid_824id_825.symm (hl_self _ _ _)) hs_nil)) (Nat.le_refl _)), (by omega), (by omega)⟩)
        ·
          rintro s_ ⟨says_1063, rfl, hs_, _, _⟩
          refine SatL.le hs_ ?_
          clear hs_
          replace H1 := un1S H1
          repeat refine SatL.seq ?_
          refine SatL.reg [0, 1, 2, 3, 4, 11, 12, 47] [some 43, some 44, some 45, some 46, some 47] rfl rfl fun K1980 hK1980 => ?_
          refine st (fun _ hk => s_mv (v := (.sl (List.map int1 row_817))) rfl hk) ?_
          refine st (fun _ hk => s_mv (v := (int j_1047)) rfl hk) ?_
          obtain ⟨e_1065, he_1065, H1⟩ := bindS H1
          refine st (fun _ hk => s_ixSl elem_23 rfl rfl he_1065 cells_3 rfl (by decide) hk) ?_
          refine st (fun _ hk => s_load1 (c := (int e_1065)) agg_3 (d_fp rfl) rfl hk) ?_
          refine st (fun _ hk => s_bin rfl rfl (b_gtr hk)) ?_
          refine aopsS_end (hK1980 _ (SatL.norm (n := n_1048) (h := hl [(id_824, (some (.cells 1 3 (List.map int1 begin_818)))), (id_825, (some (.cells 1 3 (List.map int1 out_1046))))]) (env' := [(0, (.sl (List.map int1 row_817))), (1, (.ms id_824 0 len_819)), (2, (int n_820)), (3, (int way_821)), (4, (.ms id_825 0 len_823)), (11, (int j_1047)), (12, (int says_1063)), (47, (bool (decide (0 < e_1065))))]) (L' := [(id_824, (some (.cells 1 3 (List.map int1 begin_818)))), (id_825, (some (.cells 1 3 (List.map int1 out_1046))))]) rfl hs_refl ?_))
          repeat refine SatL.seq ?_
          refine SatL.condX rfl (fun hc1986 => ?_) (fun hc1986 => ?_)
          ·
            replace H1 := iteT H1 hc1986
            repeat refine SatL.seq ?_
            refine SatL.drawe [1, 15] [(0, 1), (2, 1), (4, 1), (5, 1), (7, 1), (8, 1), (9, 1), (10, 1), (11, 1), (12, 1), (13, 1), (14, 1), (0, 3), (4, 3), (5, 3), (7, 3), (8, 3), (9, 3), (10, 3), (11, 3), (12, 3), (13, 3), (14, 3), (0, 6), (7, 6), (8, 6), (9, 6), (10, 6), (11, 6), (12, 6), (13, 6), (14, 6)] [some 48, some 49, some 50, some 51, some 52, some 53, some 54, some 55, some 56, some 57, some 58, some 59, some 60, some 61, some 62, some 63] rfl (by kernel_rfl) (by kernel_rfl) rfl rfl fun K2005 hK2005 => ?_
            refine dd_step (ds_r1 _ rfl rfl (fun _ hK => s_mv (v := (.sl (List.map int1 row_817))) rfl hK) ?_)
            refine dd_step (ds_w1 _ _ _ rfl rfl (fun _ hK => s_bsl (n' := (n_1048 + 1)) (es := []) elem_23 zero_3 rfl (by decide) (by decide) rfl rfl hK) ?_)
            refine dd_step (ds_r1 _ rfl rfl (fun _ hK => s_mv (v := (.ms id_824 0 len_819)) rfl hK) ?_)
            obtain ⟨l_1068, hl_1068, H1⟩ := bindS H1
            refine dd_step (ds_w1 _ _ _ rfl rfl (fun _ hK => s_appTM (n' := (n_1048 + 2)) (ys := begin_818) (f := int1) (l := []) plain_23 elem_23 zero_3 rfl (by decide) bytes1_3 rfl (hl_self _ _ _) rfl (src_ms rfl (hl_ne (j := id_824) (i := n_1048) (by omega) (hl_self _ _ _)) (srcle hlenbegin_818) (srctk hlenbegin_818)) rfl hl_1068 (hd_self _ _ _) rfl hK) ?_)
            refine dd_step (ds_r1 _ rfl rfl (fun _ hK => s_mv (v := (int says_1063)) rfl hK) ?_)
            refine dd_step (ds_r1 _ rfl rfl (fun _ hK => s_bslF (es := [[(int says_1063)]]) (es' := List.map int1 [says_1063]) elem_23 zero_3 rfl (by decide) (by decide) rfl rfl hK) ?_)
            obtain ⟨l_1069, hl_1069, H1⟩ := bindS H1
            refine dd_step (ds_w1 _ _ _ rfl rfl (fun _ hK => s_appTM (n' := (n_1048 + 3)) (ys := [says_1063]) (f := int1) (l := l_1068) plain_23 elem_23 zero_3 rfl (by decide) bytes1_3 rfl (hl_self _ _ _) rfl (src_sl rfl (fun _ => rfl)) rfl hl_1069 (hd_self _ _ _) rfl hK) ?_)
            refine dd_step (ds_r1 _ rfl rfl (fun _ hK => s_mv (v := (int n_820)) rfl hK) ?_)
            refine dd_step (ds_r1 _ rfl rfl (fun _ hK => s_mv (v := (int way_821)) rfl hK) ?_)
            refine dd_step (ds_r1 _ rfl rfl (fun _ hK => s_mv (v := (.sl (List.map int1 row_817))) rfl hK) ?_)
            refine dd_step (ds_r1 _ rfl rfl (fun _ hK => s_mv (v := (int j_1047)) rfl hK) ?_)
            refine dd_step (ds_r1 _ rfl rfl (fun _ hK => s_ixSl elem_23 rfl rfl he_1065 cells_3 rfl (by decide) hK) ?_)
            refine dd_step (ds_r1 _ rfl rfl (fun _ hK => s_load1 (c := (int e_1065)) agg_3 (d_fp rfl) rfl hK) ?_)
            refine dd_step (ds_r1 _ rfl rfl (fun _ hK => s_bin rfl rfl (b_mul64 hK)) ?_)
            refine dd_step (ds_r1 _ rfl rfl (fun _ hK => s_mv (v := (.ms id_825 0 len_823)) rfl hK) ?_)
            obtain ⟨out_1070, hout_1070, H1⟩ := bindS H1
            obtain ⟨u_1071, hu_1071, H1⟩ := bindS H1
            refine dd_step (ds_w0 _ _ _ rfl rfl (fun _ hK => s_call (avs := [(.sl (List.map int1 row_817)), (.ms (n_1048 + 2) 0 (List.length l_1069)), (int n_820), (int (w64 (way_821 * e_1065))), (.ms id_825 0 len_823)]) rfl rfl rfl (HC.mut (LE := [((n_1048 + 2), (some (.cells 1 3 (List.map int1 l_1069)))), (id_825, (some (.cells 1 3 (List.map int1 out_1046))))]) (L' := [((n_1048 + 2), (some (.cells 1 3 (List.map int1 l_1069)))), (id_825, (some (.cells 1 3 (List.map int1 out_1070))))]) (L2 := [((n_1048 + 2), (some (.cells 1 3 (List.map int1 l_1069)))), (id_825, (some (.cells 1 3 (List.map int1 out_1070)))), ((n_1048 + 1), none), (n_1048, none), (id_824, (some (.cells 1 3 (List.map int1 begin_818))))]) (v := (.tp [])) [(n_1048 + 2), id_825] (hi_cons (by simp) (hl_self _ _ _) (hi_cons (by simp) (hl_ne (j := id_825) (i := (n_1048 + 2)) (by omega) (hl_ne (j := id_825) (i := (n_1048 + 1)) (by omega) (hl_ne (j := id_825) (i := n_1048) (by omega) (hl_ne (j := id_825) (i := id_824) hneid_824id_825.symm (hl_self _ _ _))))) hi_nil)) (by simp <;> omega) (.free _ (Free.tpl FreeL.nil)) (OnL.cons (by simp) (ono_typed fr_int1) (OnL.cons (by simp) (ono_typed fr_int1) OnL.nil)) (@ih_ref09_counted_m1 row_817 l_1069 (List.length l_1069) n_820 (w64 (way_821 * e_1065)) out_1046 len_823 (n_1048 + 2) id_825 (n_1048 + 3) rfl hlenout_1046 ⟨(by omega), (by omega), (by omega)⟩ _ hout_1070) (Rest.drop (by simp) (Rest.keep (by simp <;> omega) (Rest.keep (by simp <;> omega) (Rest.keep (by simp <;> omega) (Rest.drop (by simp) Rest.nil))))) rfl (fun hF2021 => hK))) ?_)
            refine dd_end (rc_ge rfl rfl (by decide) (s_mv (v := (.sl (List.map int1 row_817))) rfl ⟨rfl, rfl, rfl⟩) (rc_lt rfl rfl (by decide) (s_mv (v := (.ms id_824 0 len_819)) rfl ⟨rfl, rfl, rfl⟩) (rc_lt rfl rfl (by decide) (s_mv (v := (int says_1063)) rfl ⟨rfl, rfl, rfl⟩) (rc_lt rfl rfl (by decide) (s_bslF (es := [[(int says_1063)]]) (es' := List.map int1 [says_1063]) elem_23 zero_3 rfl (by decide) (by decide) rfl rfl ⟨rfl, rfl, rfl⟩) (rc_lt rfl rfl (by decide) (s_mv (v := (int n_820)) rfl ⟨rfl, rfl, rfl⟩) (rc_lt rfl rfl (by decide) (s_mv (v := (int way_821)) rfl ⟨rfl, rfl, rfl⟩) (rc_lt rfl rfl (by decide) (s_mv (v := (.sl (List.map int1 row_817))) rfl ⟨rfl, rfl, rfl⟩) (rc_lt rfl rfl (by decide) (s_mv (v := (int j_1047)) rfl ⟨rfl, rfl, rfl⟩) (rc_lt rfl rfl (by decide) (s_ixSl elem_23 rfl rfl he_1065 cells_3 rfl (by decide) ⟨rfl, rfl, rfl⟩) (rc_lt rfl rfl (by decide) (s_load1 (c := (int e_1065)) agg_3 (d_fp rfl) rfl ⟨rfl, rfl, rfl⟩) (rc_lt rfl rfl (by decide) (s_bin rfl rfl (b_mul64 ⟨rfl, rfl, rfl⟩)) (rc_lt rfl rfl (by decide) (s_mv (v := (.ms id_825 0 len_823)) rfl ⟨rfl, rfl, rfl⟩) (rc_ge rfl rfl (by decide) (s_mv (v := (.sl (List.map int1 row_817))) rfl ⟨rfl, rfl, rfl⟩) (rc_lt rfl rfl (by decide) (s_mv (v := (int says_1063)) rfl ⟨rfl, rfl, rfl⟩) (rc_lt rfl rfl (by decide) (s_bslF (es := [[(int says_1063)]]) (es' := List.map int1 [says_1063]) elem_23 zero_3 rfl (by decide) (by decide) rfl rfl ⟨rfl, rfl, rfl⟩) (rc_lt rfl rfl (by decide) (s_mv (v := (int n_820)) rfl ⟨rfl, rfl, rfl⟩) (rc_lt rfl rfl (by decide) (s_mv (v := (int way_821)) rfl ⟨rfl, rfl, rfl⟩) (rc_lt rfl rfl (by decide) (s_mv (v := (.sl (List.map int1 row_817))) rfl ⟨rfl, rfl, rfl⟩) (rc_lt rfl rfl (by decide) (s_mv (v := (int j_1047)) rfl ⟨rfl, rfl, rfl⟩) (rc_lt rfl rfl (by decide) (s_ixSl elem_23 rfl rfl he_1065 cells_3 rfl (by decide) ⟨rfl, rfl, rfl⟩) (rc_lt rfl rfl (by decide) (s_load1 (c := (int e_1065)) agg_3 (d_fp rfl) rfl ⟨rfl, rfl, rfl⟩) (rc_lt rfl rfl (by decide) (s_bin rfl rfl (b_mul64 ⟨rfl, rfl, rfl⟩)) (rc_lt rfl rfl (by decide) (s_mv (v := (.ms id_825 0 len_823)) rfl ⟨rfl, rfl, rfl⟩) (rc_ge rfl rfl (by decide) (s_mv (v := (.sl (List.map int1 row_817))) rfl ⟨rfl, rfl, rfl⟩) (rc_lt rfl rfl (by decide) (s_mv (v := (int n_820)) rfl ⟨rfl, rfl, rfl⟩) (rc_lt rfl rfl (by decide) (s_mv (v := (int way_821)) rfl ⟨rfl, rfl, rfl⟩) (rc_lt rfl rfl (by decide) (s_mv (v := (.sl (List.map int1 row_817))) rfl ⟨rfl, rfl, rfl⟩) (rc_lt rfl rfl (by decide) (s_mv (v := (int j_1047)) rfl ⟨rfl, rfl, rfl⟩) (rc_lt rfl rfl (by decide) (s_ixSl elem_23 rfl rfl he_1065 cells_3 rfl (by decide) ⟨rfl, rfl, rfl⟩) (rc_lt rfl rfl (by decide) (s_load1 (c := (int e_1065)) agg_3 (d_fp rfl) rfl ⟨rfl, rfl, rfl⟩) (rc_lt rfl rfl (by decide) (s_bin rfl rfl (b_mul64 ⟨rfl, rfl, rfl⟩)) (rc_lt rfl rfl (by decide) (s_mv (v := (.ms id_825 0 len_823)) rfl ⟨rfl, rfl, rfl⟩) rc_nil)))))))))))))))))))))))))))))))) (hK2005 _ ?_)
            refine (blockN (thenN ?_))
            refine SatL.forget [0, 1, 2, 3, 4, 11] (SatL.norm (n := (n_1048 + 3)) (h := hl [((n_1048 + 2), (some (.cells 1 3 (List.map int1 l_1069)))), (id_825, (some (.cells 1 3 (List.map int1 out_1070)))), ((n_1048 + 1), none), (n_1048, none), (id_824, (some (.cells 1 3 (List.map int1 begin_818))))]) (env' := [(0, (.sl (List.map int1 row_817))), (1, (.ms id_824 0 len_819)), (2, (int n_820)), (3, (int way_821)), (4, (.ms id_825 0 len_823)), (11, (int j_1047))]) (L' := [(id_824, (some (.cells 1 3 (List.map int1 begin_818)))), (id_825, (some (.cells 1 3 (List.map int1 out_1070))))]) rfl (hs_cons (hl_ne (j := id_824) (i := (n_1048 + 2)) (by omega) (hl_ne (j := id_824) (i := id_825) hneid_824id_825 (hl_ne (j := id_824) (i := (n_1048 + 1)) (by omega) (hl_ne (j := id_824) (i := n_1048) (by omega) (hl_self _ _ _))))) (hs_cons (hl_ne (j := id_825) (i := (n_1048 + 2)) (by omega) (hl_self _ _ _)) hs_nil)) ?_)
            repeat refine SatL.seq ?_
            refine SatL.rege [some 35, some 36, some 11] rfl rfl fun K2023 hK2023 => ?_
            refine st (fun _ hk => s_mv (v := (int j_1047)) rfl hk) ?_
            refine st (fun _ hk => s_bin rfl rfl (b_add64 hk)) ?_
            refine st (fun _ hk => s_as (v := (int (w64 (j_1047 + 1)))) rfl hk) ?_
            refine aopsS_end (hK2023 _ ?_)
            have hw2027 : w64 (j_1047 + 1) = j_1047 + 1 := w64_id (by omega) (by omega)
            exact (thenN ⟨k0, ⟨out_1070, (w64 (j_1047 + 1)), (n_1048 + 3), (StLe.of [(id_824, (some (.cells 1 3 (List.map int1 begin_818)))), (id_825, (some (.cells 1 3 (List.map int1 out_1070))))] (n_1048 + 3) rfl (hs_cons (hl_self _ _ _) (hs_cons (hl_ne (j := id_825) (i := id_824) hneid_824id_825.symm (hl_self _ _ _)) hs_nil)) (Nat.le_refl _)), (by omega), (by omega), (by first | exact (grd_inv hu_1071) | simp), (by omega), (by rw [hw2027]; omega), (Eq.mpr (congrArg (fun q_ => ref09_counted_m1_L0 (ref09_counted_m1 fuel) row_817 begin_818 n_820 way_821 len_823 k0 out_1070 q_ = some o_1031) hw2027) H1)⟩, by omega⟩)
          ·
            replace H1 := iteF H1 hc1986
            refine SatL.skip ?_
            refine SatL.nil (blockN (thenN ?_))
            repeat refine SatL.seq ?_
            refine SatL.rege [some 35, some 36, some 11] rfl rfl fun K2028 hK2028 => ?_
            refine st (fun _ hk => s_mv (v := (int j_1047)) rfl hk) ?_
            refine st (fun _ hk => s_bin rfl rfl (b_add64 hk)) ?_
            refine st (fun _ hk => s_as (v := (int (w64 (j_1047 + 1)))) rfl hk) ?_
            refine aopsS_end (hK2028 _ ?_)
            have hw2032 : w64 (j_1047 + 1) = j_1047 + 1 := w64_id (by omega) (by omega)
            exact (thenN ⟨k0, ⟨out_1046, (w64 (j_1047 + 1)), n_1048, (StLe.of [(id_824, (some (.cells 1 3 (List.map int1 begin_818)))), (id_825, (some (.cells 1 3 (List.map int1 out_1046))))] n_1048 rfl (hs_cons (hl_self _ _ _) (hs_cons (hl_ne (j := id_825) (i := id_824) hneid_824id_825.symm (hl_self _ _ _)) hs_nil)) (Nat.le_refl _)), (by omega), (by omega), (by first | exact hlenout_1046 | simp), (by omega), (by rw [hw2032]; omega), (Eq.mpr (congrArg (fun q_ => ref09_counted_m1_L0 (ref09_counted_m1 fuel) row_817 begin_818 n_820 way_821 len_823 k0 out_1046 q_ = some o_1031) hw2032) H1)⟩, by omega⟩)

theorem ref09_counted_m1_HC {row_817 : (List Int)} {begin_818 : (List Int)} {len_819 : Nat} {n_820 : Int} {way_821 : Int} {out_822 : (List Int)} {len_823 : Nat} {id_824 : Nat} {id_825 : Nat} {n_826 : Nat} (hlenbegin_818 : List.length begin_818 = len_819) (hlenout_822 : List.length out_822 = len_823) (hids : id_824 < n_826 ∧ id_825 < n_826 ∧ id_824 ≠ id_825) {r : (List Int)} (H0 : ref09_counted_m1 100000 row_817 begin_818 len_819 n_820 way_821 out_822 len_823 = some r) : HC Try.prog 84 [(.sl (List.map int1 row_817)), (.ms id_824 0 len_819), (int n_820), (int way_821), (.ms id_825 0 len_823)] (hl [(id_824, (some (.cells 1 3 (List.map int1 begin_818)))), (id_825, (some (.cells 1 3 (List.map int1 out_822))))]) n_826 (fun v_ h_ n_ => (v_ = (.tp []) ∧ h_ = hl [(id_824, (some (.cells 1 3 (List.map int1 begin_818)))), (id_825, (some (.cells 1 3 (List.map int1 r))))] ∧ n_ = n_826) ∧ (List.length r = len_823)) := ref09_counted_m1_ind 100000 row_817 begin_818 len_819 n_820 way_821 out_822 len_823 id_824 id_825 n_826 hlenbegin_818 hlenout_822 hids H0

theorem ref09_counted_m_HC {row_784 : (List Int)} {n_785 : Int} {way_786 : Int} {out_787 : (List Int)} {len_788 : Nat} {id_789 : Nat} {n_790 : Nat} (hlenout_787 : List.length out_787 = len_788) (hids : id_789 < n_790) {r : (List Int)} (H0 : ref09_counted_m row_784 n_785 way_786 out_787 len_788 = some r) : HC Try.prog 84 [(.sl (List.map int1 row_784)), nilS, (int n_785), (int way_786), (.ms id_789 0 len_788)] (hl [(id_789, (some (.cells 1 3 (List.map int1 out_787))))]) n_790 (fun v_ h_ n_ => (v_ = (.tp []) ∧ h_ = hl [(id_789, (some (.cells 1 3 (List.map int1 r))))] ∧ n_ = n_790) ∧ (List.length r = len_788)) := by
  unfold ref09_counted_m at H0
  have hltid_789 := hids
  refine HC.of_bodyM [(0, (.sl (List.map int1 row_784))), (1, nilS), (2, (int n_785)), (3, (int way_786)), (4, (.ms id_789 0 len_788))] Try.func84 rfl rfl (Nat.le_of_ble_eq_true rfl) rfl fun O => ?_
  repeat refine SatL.seq ?_
  refine SatL.reg [0, 1, 2, 3, 4, 16] [some 13, some 14, some 15, some 16] rfl rfl fun K1351 hK1351 => ?_
  refine st (fun _ hk => s_mv (v := nilS) rfl hk) ?_
  refine st (fun _ hk => s_lenNil elem_23 rfl hk) ?_
  refine st (fun _ hk => s_mv (v := (int n_785)) rfl hk) ?_
  refine st (fun _ hk => s_bin rfl rfl (b_eql hk)) ?_
  refine aopsS_end (hK1351 _ (SatL.norm (n := n_790) (h := hl [(id_789, (some (.cells 1 3 (List.map int1 out_787))))]) (env' := [(0, (.sl (List.map int1 row_784))), (1, nilS), (2, (int n_785)), (3, (int way_786)), (4, (.ms id_789 0 len_788)), (16, (bool (0 == n_785)))]) (L' := [(id_789, (some (.cells 1 3 (List.map int1 out_787))))]) rfl hs_refl ?_))
  repeat refine SatL.seq ?_
  refine SatL.condX rfl (fun hc1356 => ?_) (fun hc1356 => ?_)
  ·
    replace H0 := iteT H0 hc1356
    repeat refine SatL.seq ?_
    refine SatL.reg [0, 3, 4, 10] [some 17, some 18, some 10] rfl rfl fun K1357 hK1357 => ?_
    refine st (fun _ hk => s_mv (v := nilS) rfl hk) ?_
    obtain ⟨r_1236, hr_1236, H0⟩ := bindS H0
    refine st (fun _ hk => s_call (avs := [nilS]) rfl rfl rfl (PC.lend1 (args' := [(.sl (List.map int1 []))]) (SnapL.cons (Snap.nilS) SnapL.nil) (ref09_Seen_PC hr_1236) (.sc _) hk)) ?_
    refine st (fun _ hk => s_as (v := (int r_1236)) rfl hk) ?_
    refine aopsS_end (hK1357 _ (SatL.norm (n := n_790) (h := hl [(id_789, (some (.cells 1 3 (List.map int1 out_787))))]) (env' := [(0, (.sl (List.map int1 row_784))), (3, (int way_786)), (4, (.ms id_789 0 len_788)), (10, (int r_1236))]) (L' := [(id_789, (some (.cells 1 3 (List.map int1 out_787))))]) rfl hs_refl ?_))
    repeat refine SatL.seq ?_
    refine SatL.reg [0, 3, 4, 10, 20] [some 19, some 20] rfl rfl fun K1361 hK1361 => ?_
    refine st (fun _ hk => s_mv (v := (int r_1236)) rfl hk) ?_
    refine st (fun _ hk => s_bin rfl rfl (b_lss hk)) ?_
    refine aopsS_end (hK1361 _ (SatL.norm (n := n_790) (h := hl [(id_789, (some (.cells 1 3 (List.map int1 out_787))))]) (env' := [(0, (.sl (List.map int1 row_784))), (3, (int way_786)), (4, (.ms id_789 0 len_788)), (10, (int r_1236)), (20, (bool (decide (r_1236 < 0))))]) (L' := [(id_789, (some (.cells 1 3 (List.map int1 out_787))))]) rfl hs_refl ?_))
    repeat refine SatL.seq ?_
    refine SatL.condX rfl (fun hc1364 => ?_) (fun hc1364 => ?_)
    ·
      replace H0 := iteT H0 hc1364
      repeat refine SatL.seq ?_
      refine SatL.reg [3, 4, 10] [some 21, some 22, some 23, some 10] rfl rfl fun K1365 hK1365 => ?_
      refine st (fun _ hk => s_mv (v := (.sl (List.map int1 row_784))) rfl hk) ?_
      refine aopsS_step fun _ hK => s_lenSl elem_23 rfl (fun hl1367 => hK _ _ _ ?_)
      clear hK
      refine st (fun _ hk => s_bin rfl rfl (b_sub64 hk)) ?_
      refine st (fun _ hk => s_as (v := (int (w64 ((List.length row_784 : Int) - 1)))) rfl hk) ?_
      refine aopsS_end (hK1365 _ (SatL.norm (n := n_790) (h := hl [(id_789, (some (.cells 1 3 (List.map int1 out_787))))]) (env' := [(3, (int way_786)), (4, (.ms id_789 0 len_788)), (10, (int (w64 ((List.length row_784 : Int) - 1))))]) (L' := [(id_789, (some (.cells 1 3 (List.map int1 out_787))))]) rfl hs_refl ?_))
      repeat refine SatL.seq ?_
      refine SatL.reg [] [some 24, some 25, some 26, some 27, some 28, some 29, some 30, none] rfl rfl fun K1370 hK1370 => ?_
      refine st (fun _ hk => s_mv (v := (.ms id_789 0 len_788)) rfl hk) ?_
      refine st (fun _ hk => s_mv (v := (int (w64 ((List.length row_784 : Int) - 1)))) rfl hk) ?_
      obtain ⟨e_1237, he_1237, H0⟩ := bindS H0
      refine st (fun _ hk => s_ixM0 elem_23 rfl rfl (hl_self _ _ _) (gi_lt he_1237).1 (ltl he_1237 hlenout_787) cells_3 (by decide) hk) ?_
      refine st (fun _ hk => s_load1 (c := (int e_1237)) agg_3 (d_own rfl (hl_self _ _ _) (mapget he_1237) rfl) rfl hk) ?_
      refine st (fun _ hk => s_mv (v := (int way_786)) rfl hk) ?_
      refine st (fun _ hk => s_bin rfl rfl (b_add64 hk)) ?_
      refine st (fun _ hk => s_ixM0 elem_23 rfl rfl (hl_self _ _ _) (gi_lt he_1237).1 (ltl he_1237 hlenout_787) cells_3 (by decide) hk) ?_
      refine s0 (fun _ hk => s_store rfl (hl_self _ _ _) (mapget he_1237) rfl cells_3 rfl (by decide) (Nat.le_of_ble_eq_true rfl) (set_map (f := int1) (y := (w64 (e_1237 + way_786))) rfl) (hu_self _ _ _ _) hk) ?_
      refine aopsS_end (hK1370 _ (SatL.norm (n := n_790) (h := hl [(id_789, (some (.cells 1 3 (List.map int1 (List.set out_787 (Int.toNat (w64 ((List.length row_784 : Int) - 1))) (w64 (e_1237 + way_786)))))))]) (env' := []) (L' := [(id_789, (some (.cells 1 3 (List.map int1 (List.set out_787 (Int.toNat (w64 ((List.length row_784 : Int) - 1))) (w64 (e_1237 + way_786)))))))]) rfl hs_refl ?_))
      obtain rfl := Option.some.inj H0
      exact SatL.ret (fnQ_shut [(id_789, (some (.cells 1 3 (List.map int1 (List.set out_787 (Int.toNat (w64 ((List.length row_784 : Int) - 1))) (w64 (e_1237 + way_786)))))))] (.tp []) rfl (sh_cons (hl_self _ _ _) (by omega) (ono_typed fr_int1) sh_nil) (hl []) hn_nil (Snap.free _ (Free.tpl FreeL.nil)) (List.length_set.trans hlenout_787))
    ·
      replace H0 := iteF H0 hc1364
      refine SatL.skip ?_
      repeat refine SatL.seq ?_
      refine SatL.reg [] [some 24, some 25, some 26, some 27, some 28, some 29, some 30, none] rfl rfl fun K1379 hK1379 => ?_
      refine st (fun _ hk => s_mv (v := (.ms id_789 0 len_788)) rfl hk) ?_
      refine st (fun _ hk => s_mv (v := (int r_1236)) rfl hk) ?_
      obtain ⟨e_1238, he_1238, H0⟩ := bindS H0
      refine st (fun _ hk => s_ixM0 elem_23 rfl rfl (hl_self _ _ _) (gi_lt he_1238).1 (ltl he_1238 hlenout_787) cells_3 (by decide) hk) ?_
      refine st (fun _ hk => s_load1 (c := (int e_1238)) agg_3 (d_own rfl (hl_self _ _ _) (mapget he_1238) rfl) rfl hk) ?_
      refine st (fun _ hk => s_mv (v := (int way_786)) rfl hk) ?_
      refine st (fun _ hk => s_bin rfl rfl (b_add64 hk)) ?_
      refine st (fun _ hk => s_ixM0 elem_23 rfl rfl (hl_self _ _ _) (gi_lt he_1238).1 (ltl he_1238 hlenout_787) cells_3 (by decide) hk) ?_
      refine s0 (fun _ hk => s_store rfl (hl_self _ _ _) (mapget he_1238) rfl cells_3 rfl (by decide) (Nat.le_of_ble_eq_true rfl) (set_map (f := int1) (y := (w64 (e_1238 + way_786))) rfl) (hu_self _ _ _ _) hk) ?_
      refine aopsS_end (hK1379 _ (SatL.norm (n := n_790) (h := hl [(id_789, (some (.cells 1 3 (List.map int1 (List.set out_787 (Int.toNat r_1236) (w64 (e_1238 + way_786)))))))]) (env' := []) (L' := [(id_789, (some (.cells 1 3 (List.map int1 (List.set out_787 (Int.toNat r_1236) (w64 (e_1238 + way_786)))))))]) rfl hs_refl ?_))
      obtain rfl := Option.some.inj H0
      exact SatL.ret (fnQ_shut [(id_789, (some (.cells 1 3 (List.map int1 (List.set out_787 (Int.toNat r_1236) (w64 (e_1238 + way_786)))))))] (.tp []) rfl (sh_cons (hl_self _ _ _) (by omega) (ono_typed fr_int1) sh_nil) (hl []) hn_nil (Snap.free _ (Free.tpl FreeL.nil)) (List.length_set.trans hlenout_787))
  ·
    replace H0 := iteF H0 hc1356
    refine SatL.skip ?_
    repeat refine SatL.seq ?_
    refine SatL.reg [0, 1, 2, 3, 4, 11] [some 11] rfl rfl fun K1388 hK1388 => ?_
    refine st (fun _ hk => s_as (v := (int 0)) rfl hk) ?_
    refine aopsS_end (hK1388 _ (SatL.norm (n := n_790) (h := hl [(id_789, (some (.cells 1 3 (List.map int1 out_787))))]) (env' := [(0, (.sl (List.map int1 row_784))), (1, nilS), (2, (int n_785)), (3, (int way_786)), (4, (.ms id_789 0 len_788)), (11, (int 0))]) (L' := [(id_789, (some (.cells 1 3 (List.map int1 out_787))))]) rfl hs_refl ?_))
    repeat refine SatL.seq ?_
    obtain ⟨o_1281, H1, H0⟩ := bindS H0
    repeat refine SatL.seq ?_
    refine SatL.block ?_
    repeat refine SatL.seq ?_
    refine SatL.loopK [0, 1, 2, 3, 4, 11] (fun k0 s_ => ∃ (out_1296 : (List Int)) (j_1297 : Int) (n_1298 : Nat), StLe s_ [(0, (.sl (List.map int1 row_784))), (1, nilS), (2, (int n_785)), (3, (int way_786)), (4, (.ms id_789 0 len_788)), (11, (int j_1297))] [(id_789, (some (.cells 1 3 (List.map int1 out_1296))))] n_1298 ∧ id_789 < n_1298 ∧ List.length out_1296 = len_788 ∧ 0 ≤ j_1297 ∧ k0 = Int.toNat ((List.length row_784 : Int) - j_1297) ∧ ref09_counted_m_L0 row_784 n_785 way_786 len_788 k0 out_1296 j_1297 = some o_1281) (Int.toNat ((List.length row_784 : Int) - 0)) ?_ ?_
    · exact ⟨out_787, 0, n_790, (StLe.of [(id_789, (some (.cells 1 3 (List.map int1 out_787))))] n_790 rfl (hs_cons (hl_self _ _ _) hs_nil) (Nat.le_refl _)), (by omega), (by first | exact hlenout_787 | simp), (by omega), rfl, H1⟩
    rintro k0 s_ ⟨out_1296, j_1297, n_1298, hs_, _, hlenout_1296, _, hk_, H1⟩
    refine SatL.le hs_ ?_
    clear hs_
    rcases k0 with _ | k0
    ·
      rw [ref09_counted_m_L0.eq_1] at H1
      repeat refine SatL.seq ?_
      refine SatL.reg [0, 1, 2, 3, 4, 11, 34] [some 31, some 32, some 33, some 34] rfl rfl fun K1954 hK1954 => ?_
      refine st (fun _ hk => s_mv (v := (int j_1297)) rfl hk) ?_
      refine st (fun _ hk => s_mv (v := (.sl (List.map int1 row_784))) rfl hk) ?_
      refine aopsS_step fun _ hK => s_lenSl elem_23 rfl (fun hl1957 => hK _ _ _ ?_)
      clear hK
      refine st (fun _ hk => s_bin rfl rfl (b_lss hk)) ?_
      refine aopsS_end (hK1954 _ (SatL.norm (n := n_1298) (h := hl [(id_789, (some (.cells 1 3 (List.map int1 out_1296))))]) (env' := [(0, (.sl (List.map int1 row_784))), (1, nilS), (2, (int n_785)), (3, (int way_786)), (4, (.ms id_789 0 len_788)), (11, (int j_1297)), (34, (bool (decide (j_1297 < (List.length row_784 : Int)))))]) (L' := [(id_789, (some (.cells 1 3 (List.map int1 out_1296))))]) rfl hs_refl ?_))
      repeat refine SatL.seq ?_
      refine SatL.condF rfl (decide_eq_false (by omega)) ?_
      refine SatL.exit ?_
      simp only [thenQ, blockQ, if_true, reduceIte, Nat.reduceEqDiff]
      obtain rfl := Option.some.inj H1
      replace H0 := un1S H0
      obtain rfl := Option.some.inj H0
      exact SatL.nil (fnQ_shutN [(id_789, (some (.cells 1 3 (List.map int1 out_1296))))] (.tp []) rfl (sh_cons (hl_self _ _ _) (by omega) (ono_typed fr_int1) sh_nil) (hl []) hn_nil (Snap.free _ (Free.tpl FreeL.nil)) hlenout_1296)
    ·
      rw [ref09_counted_m_L0.eq_2] at H1
      repeat refine SatL.seq ?_
      refine SatL.reg [0, 1, 2, 3, 4, 11, 34] [some 31, some 32, some 33, some 34] rfl rfl fun K1959 hK1959 => ?_
      refine st (fun _ hk => s_mv (v := (int j_1297)) rfl hk) ?_
      refine st (fun _ hk => s_mv (v := (.sl (List.map int1 row_784))) rfl hk) ?_
      refine aopsS_step fun _ hK => s_lenSl elem_23 rfl (fun hl1962 => hK _ _ _ ?_)
      clear hK
      refine st (fun _ hk => s_bin rfl rfl (b_lss hk)) ?_
      refine aopsS_end (hK1959 _ (SatL.norm (n := n_1298) (h := hl [(id_789, (some (.cells 1 3 (List.map int1 out_1296))))]) (env' := [(0, (.sl (List.map int1 row_784))), (1, nilS), (2, (int n_785)), (3, (int way_786)), (4, (.ms id_789 0 len_788)), (11, (int j_1297)), (34, (bool (decide (j_1297 < (List.length row_784 : Int)))))]) (L' := [(id_789, (some (.cells 1 3 (List.map int1 out_1296))))]) rfl hs_refl ?_))
      repeat refine SatL.seq ?_
      refine SatL.condT rfl (decide_eq_true (by omega)) ?_
      have hlt1964 : (j_1297 < (List.length row_784 : Int)) := by omega
      refine SatL.skip ?_
      repeat refine SatL.seq ?_
      refine SatL.block ?_
      repeat refine SatL.seq ?_
      refine SatL.reg [0, 1, 2, 3, 4, 11, 12] [some 37, some 12] rfl rfl fun K1965 hK1965 => ?_
      refine st (fun _ hk => s_mv (v := (int j_1297)) rfl hk) ?_
      refine st (fun _ hk => s_as (v := (int j_1297)) rfl hk) ?_
      refine aopsS_end (hK1965 _ (SatL.norm (n := n_1298) (h := hl [(id_789, (some (.cells 1 3 (List.map int1 out_1296))))]) (env' := [(0, (.sl (List.map int1 row_784))), (1, nilS), (2, (int n_785)), (3, (int way_786)), (4, (.ms id_789 0 len_788)), (11, (int j_1297)), (12, (int j_1297))]) (L' := [(id_789, (some (.cells 1 3 (List.map int1 out_1296))))]) rfl hs_refl ?_))
      repeat refine SatL.seq ?_
      refine SatL.reg [0, 1, 2, 3, 4, 11, 12, 42] [some 38, some 39, some 40, some 41, some 42] rfl rfl fun K1968 hK1968 => ?_
      refine st (fun _ hk => s_mv (v := (int j_1297)) rfl hk) ?_
      refine st (fun _ hk => s_mv (v := (.sl (List.map int1 row_784))) rfl hk) ?_
      refine aopsS_step fun _ hK => s_lenSl elem_23 rfl (fun hl1971 => hK _ _ _ ?_)
      clear hK
      refine st (fun _ hk => s_bin rfl rfl (b_sub64 hk)) ?_
      refine st (fun _ hk => s_bin rfl rfl (b_eql hk)) ?_
      refine aopsS_end (hK1968 _ (SatL.norm (n := n_1298) (h := hl [(id_789, (some (.cells 1 3 (List.map int1 out_1296))))]) (env' := [(0, (.sl (List.map int1 row_784))), (1, nilS), (2, (int n_785)), (3, (int way_786)), (4, (.ms id_789 0 len_788)), (11, (int j_1297)), (12, (int j_1297)), (42, (bool (j_1297 == (w64 ((List.length row_784 : Int) - 1)))))]) (L' := [(id_789, (some (.cells 1 3 (List.map int1 out_1296))))]) rfl hs_refl ?_))
      repeat refine SatL.seq ?_
      obtain ⟨o_1314, H2, H1⟩ := bindS H1
      refine SatL.mid [0, 1, 2, 3, 4, 11, 12] (fun s_ => ∃ (says_1313 : Int), says_1313 = o_1314 ∧ StLe s_ [(0, (.sl (List.map int1 row_784))), (1, nilS), (2, (int n_785)), (3, (int way_786)), (4, (.ms id_789 0 len_788)), (11, (int j_1297)), (12, (int says_1313))] [(id_789, (some (.cells 1 3 (List.map int1 out_1296))))] n_1298 ∧ id_789 < n_1298) ?_ ?_
      ·
        repeat refine SatL.seq ?_
        refine SatL.condX rfl (fun hc1977 => ?_) (fun hc1977 => ?_)
        ·
          replace H2 := iteT H2 hc1977
          repeat refine SatL.seq ?_
          refine SatL.rege [some 12] rfl rfl fun K1978 hK1978 => ?_
          refine st (fun _ hk => s_as (v := (int (-1))) rfl hk) ?_
          refine aopsS_end (hK1978 _ ?_)
          obtain rfl := Option.some.inj H2
          exact (thenN ⟨(-1), rfl, (StLe.of [(id_789, (some (.cells 1 3 (List.map int1 out_1296))))] n_1298 rfl (hs_cons (hl_self _ _ _) hs_nil) (Nat.le_refl _)), (by omega)⟩)
        ·
          replace H2 := iteF H2 hc1977
          refine SatL.skip ?_
          obtain rfl := Option.some.inj H2
          exact SatL.nil (thenN ⟨j_1297, rfl, (StLe.of [(id_789, (some (.cells 1 3 (List.map int1 out_1296))))] n_1298 rfl (hs_cons (hl_self _ _ _) hs_nil) (Nat.le_refl _)), (by omega)⟩)
      ·
        rintro s_ ⟨says_1313, rfl, hs_, _⟩
        refine SatL.le hs_ ?_
        clear hs_
        replace H1 := un1S H1
        repeat refine SatL.seq ?_
        refine SatL.reg [0, 1, 2, 3, 4, 11, 12, 47] [some 43, some 44, some 45, some 46, some 47] rfl rfl fun K1980 hK1980 => ?_
        refine st (fun _ hk => s_mv (v := (.sl (List.map int1 row_784))) rfl hk) ?_
        refine st (fun _ hk => s_mv (v := (int j_1297)) rfl hk) ?_
        obtain ⟨e_1315, he_1315, H1⟩ := bindS H1
        refine st (fun _ hk => s_ixSl elem_23 rfl rfl he_1315 cells_3 rfl (by decide) hk) ?_
        refine st (fun _ hk => s_load1 (c := (int e_1315)) agg_3 (d_fp rfl) rfl hk) ?_
        refine st (fun _ hk => s_bin rfl rfl (b_gtr hk)) ?_
        refine aopsS_end (hK1980 _ (SatL.norm (n := n_1298) (h := hl [(id_789, (some (.cells 1 3 (List.map int1 out_1296))))]) (env' := [(0, (.sl (List.map int1 row_784))), (1, nilS), (2, (int n_785)), (3, (int way_786)), (4, (.ms id_789 0 len_788)), (11, (int j_1297)), (12, (int says_1313)), (47, (bool (decide (0 < e_1315))))]) (L' := [(id_789, (some (.cells 1 3 (List.map int1 out_1296))))]) rfl hs_refl ?_))
        repeat refine SatL.seq ?_
        refine SatL.condX rfl (fun hc1986 => ?_) (fun hc1986 => ?_)
        ·
          replace H1 := iteT H1 hc1986
          repeat refine SatL.seq ?_
          refine SatL.drawe [1, 15] [(0, 1), (2, 1), (4, 1), (5, 1), (7, 1), (8, 1), (9, 1), (10, 1), (11, 1), (12, 1), (13, 1), (14, 1), (0, 3), (4, 3), (5, 3), (7, 3), (8, 3), (9, 3), (10, 3), (11, 3), (12, 3), (13, 3), (14, 3), (0, 6), (7, 6), (8, 6), (9, 6), (10, 6), (11, 6), (12, 6), (13, 6), (14, 6)] [some 48, some 49, some 50, some 51, some 52, some 53, some 54, some 55, some 56, some 57, some 58, some 59, some 60, some 61, some 62, some 63] rfl (by kernel_rfl) (by kernel_rfl) rfl rfl fun K2005 hK2005 => ?_
          refine dd_step (ds_r1 _ rfl rfl (fun _ hK => s_mv (v := (.sl (List.map int1 row_784))) rfl hK) ?_)
          refine dd_step (ds_w1 _ _ _ rfl rfl (fun _ hK => s_bsl (n' := (n_1298 + 1)) (es := []) elem_23 zero_3 rfl (by decide) (by decide) rfl rfl hK) ?_)
          refine dd_step (ds_r1 _ rfl rfl (fun _ hK => s_mv (v := nilS) rfl hK) ?_)
          obtain ⟨l_1318, hl_1318, H1⟩ := bindS H1
          refine dd_step (ds_w1 _ _ _ rfl rfl (fun _ hK => s_appTM (n' := (n_1298 + 2)) (ys := []) (f := int1) (l := []) plain_23 elem_23 zero_3 rfl (by decide) bytes1_3 rfl (hl_self _ _ _) rfl (src_nil rfl) rfl hl_1318 (hd_self _ _ _) rfl hK) ?_)
          refine dd_step (ds_r1 _ rfl rfl (fun _ hK => s_mv (v := (int says_1313)) rfl hK) ?_)
          refine dd_step (ds_r1 _ rfl rfl (fun _ hK => s_bslF (es := [[(int says_1313)]]) (es' := List.map int1 [says_1313]) elem_23 zero_3 rfl (by decide) (by decide) rfl rfl hK) ?_)
          obtain ⟨l_1319, hl_1319, H1⟩ := bindS H1
          refine dd_step (ds_w1 _ _ _ rfl rfl (fun _ hK => s_appTM (n' := (n_1298 + 3)) (ys := [says_1313]) (f := int1) (l := l_1318) plain_23 elem_23 zero_3 rfl (by decide) bytes1_3 rfl (hl_self _ _ _) rfl (src_sl rfl (fun _ => rfl)) rfl hl_1319 (hd_self _ _ _) rfl hK) ?_)
          refine dd_step (ds_r1 _ rfl rfl (fun _ hK => s_mv (v := (int n_785)) rfl hK) ?_)
          refine dd_step (ds_r1 _ rfl rfl (fun _ hK => s_mv (v := (int way_786)) rfl hK) ?_)
          refine dd_step (ds_r1 _ rfl rfl (fun _ hK => s_mv (v := (.sl (List.map int1 row_784))) rfl hK) ?_)
          refine dd_step (ds_r1 _ rfl rfl (fun _ hK => s_mv (v := (int j_1297)) rfl hK) ?_)
          refine dd_step (ds_r1 _ rfl rfl (fun _ hK => s_ixSl elem_23 rfl rfl he_1315 cells_3 rfl (by decide) hK) ?_)
          refine dd_step (ds_r1 _ rfl rfl (fun _ hK => s_load1 (c := (int e_1315)) agg_3 (d_fp rfl) rfl hK) ?_)
          refine dd_step (ds_r1 _ rfl rfl (fun _ hK => s_bin rfl rfl (b_mul64 hK)) ?_)
          refine dd_step (ds_r1 _ rfl rfl (fun _ hK => s_mv (v := (.ms id_789 0 len_788)) rfl hK) ?_)
          obtain ⟨out_1320, hout_1320, H1⟩ := bindS H1
          obtain ⟨u_1321, hu_1321, H1⟩ := bindS H1
          refine dd_step (ds_w0 _ _ _ rfl rfl (fun _ hK => s_call (avs := [(.sl (List.map int1 row_784)), (.ms (n_1298 + 2) 0 (List.length l_1319)), (int n_785), (int (w64 (way_786 * e_1315))), (.ms id_789 0 len_788)]) rfl rfl rfl (HC.mut (LE := [((n_1298 + 2), (some (.cells 1 3 (List.map int1 l_1319)))), (id_789, (some (.cells 1 3 (List.map int1 out_1296))))]) (L' := [((n_1298 + 2), (some (.cells 1 3 (List.map int1 l_1319)))), (id_789, (some (.cells 1 3 (List.map int1 out_1320))))]) (L2 := [((n_1298 + 2), (some (.cells 1 3 (List.map int1 l_1319)))), (id_789, (some (.cells 1 3 (List.map int1 out_1320)))), ((n_1298 + 1), none), (n_1298, none)]) (v := (.tp [])) [(n_1298 + 2), id_789] (hi_cons (by simp) (hl_self _ _ _) (hi_cons (by simp) (hl_ne (j := id_789) (i := (n_1298 + 2)) (by omega) (hl_ne (j := id_789) (i := (n_1298 + 1)) (by omega) (hl_ne (j := id_789) (i := n_1298) (by omega) (hl_self _ _ _)))) hi_nil)) (by simp <;> omega) (.free _ (Free.tpl FreeL.nil)) (OnL.cons (by simp) (ono_typed fr_int1) (OnL.cons (by simp) (ono_typed fr_int1) OnL.nil)) (@ref09_counted_m1_HC row_784 l_1319 (List.length l_1319) n_785 (w64 (way_786 * e_1315)) out_1296 len_788 (n_1298 + 2) id_789 (n_1298 + 3) rfl hlenout_1296 ⟨(by omega), (by omega), (by omega)⟩ _ hout_1320) (Rest.drop (by simp) (Rest.keep (by simp <;> omega) (Rest.keep (by simp <;> omega) (Rest.drop (by simp) Rest.nil)))) rfl (fun hF2021 => hK))) ?_)
          refine dd_end (rc_ge rfl rfl (by decide) (s_mv (v := (.sl (List.map int1 row_784))) rfl ⟨rfl, rfl, rfl⟩) (rc_lt rfl rfl (by decide) (s_mv (v := nilS) rfl ⟨rfl, rfl, rfl⟩) (rc_lt rfl rfl (by decide) (s_mv (v := (int says_1313)) rfl ⟨rfl, rfl, rfl⟩) (rc_lt rfl rfl (by decide) (s_bslF (es := [[(int says_1313)]]) (es' := List.map int1 [says_1313]) elem_23 zero_3 rfl (by decide) (by decide) rfl rfl ⟨rfl, rfl, rfl⟩) (rc_lt rfl rfl (by decide) (s_mv (v := (int n_785)) rfl ⟨rfl, rfl, rfl⟩) (rc_lt rfl rfl (by decide) (s_mv (v := (int way_786)) rfl ⟨rfl, rfl, rfl⟩) (rc_lt rfl rfl (by decide) (s_mv (v := (.sl (List.map int1 row_784))) rfl ⟨rfl, rfl, rfl⟩) (rc_lt rfl rfl (by decide) (s_mv (v := (int j_1297)) rfl ⟨rfl, rfl, rfl⟩) (rc_lt rfl rfl (by decide) (s_ixSl elem_23 rfl rfl he_1315 cells_3 rfl (by decide) ⟨rfl, rfl, rfl⟩) (rc_lt rfl rfl (by decide) (s_load1 (c := (int e_1315)) agg_3 (d_fp rfl) rfl ⟨rfl, rfl, rfl⟩) (rc_lt rfl rfl (by decide) (s_bin rfl rfl (b_mul64 ⟨rfl, rfl, rfl⟩)) (rc_lt rfl rfl (by decide) (s_mv (v := (.ms id_789 0 len_788)) rfl ⟨rfl, rfl, rfl⟩) (rc_ge rfl rfl (by decide) (s_mv (v := (.sl (List.map int1 row_784))) rfl ⟨rfl, rfl, rfl⟩) (rc_lt rfl rfl (by decide) (s_mv (v := (int says_1313)) rfl ⟨rfl, rfl, rfl⟩) (rc_lt rfl rfl (by decide) (s_bslF (es := [[(int says_1313)]]) (es' := List.map int1 [says_1313]) elem_23 zero_3 rfl (by decide) (by decide) rfl rfl ⟨rfl, rfl, rfl⟩) (rc_lt rfl rfl (by decide) (s_mv (v := (int n_785)) rfl ⟨rfl, rfl, rfl⟩) (rc_lt rfl rfl (by decide) (s_mv (v := (int way_786)) rfl ⟨rfl, rfl, rfl⟩) (rc_lt rfl rfl (by decide) (s_mv (v := (.sl (List.map int1 row_784))) rfl ⟨rfl, rfl, rfl⟩) (rc_lt rfl rfl (by decide) (s_mv (v := (int j_1297)) rfl ⟨rfl, rfl, rfl⟩) (rc_lt rfl rfl (by decide) (s_ixSl elem_23 rfl rfl he_1315 cells_3 rfl (by decide) ⟨rfl, rfl, rfl⟩) (rc_lt rfl rfl (by decide) (s_load1 (c := (int e_1315)) agg_3 (d_fp rfl) rfl ⟨rfl, rfl, rfl⟩) (rc_lt rfl rfl (by decide) (s_bin rfl rfl (b_mul64 ⟨rfl, rfl, rfl⟩)) (rc_lt rfl rfl (by decide) (s_mv (v := (.ms id_789 0 len_788)) rfl ⟨rfl, rfl, rfl⟩) (rc_ge rfl rfl (by decide) (s_mv (v := (.sl (List.map int1 row_784))) rfl ⟨rfl, rfl, rfl⟩) (rc_lt rfl rfl (by decide) (s_mv (v := (int n_785)) rfl ⟨rfl, rfl, rfl⟩) (rc_lt rfl rfl (by decide) (s_mv (v := (int way_786)) rfl ⟨rfl, rfl, rfl⟩) (rc_lt rfl rfl (by decide) (s_mv (v := (.sl (List.map int1 row_784))) rfl ⟨rfl, rfl, rfl⟩) (rc_lt rfl rfl (by decide) (s_mv (v := (int j_1297)) rfl ⟨rfl, rfl, rfl⟩) (rc_lt rfl rfl (by decide) (s_ixSl elem_23 rfl rfl he_1315 cells_3 rfl (by decide) ⟨rfl, rfl, rfl⟩) (rc_lt rfl rfl (by decide) (s_load1 (c := (int e_1315)) agg_3 (d_fp rfl) rfl ⟨rfl, rfl, rfl⟩) (rc_lt rfl rfl (by decide) (s_bin rfl rfl (b_mul64 ⟨rfl, rfl, rfl⟩)) (rc_lt rfl rfl (by decide) (s_mv (v := (.ms id_789 0 len_788)) rfl ⟨rfl, rfl, rfl⟩) rc_nil)))))))))))))))))))))))))))))))) (hK2005 _ ?_)
          refine (blockN (thenN ?_))
          refine SatL.forget [0, 1, 2, 3, 4, 11] (SatL.norm (n := (n_1298 + 3)) (h := hl [((n_1298 + 2), (some (.cells 1 3 (List.map int1 l_1319)))), (id_789, (some (.cells 1 3 (List.map int1 out_1320)))), ((n_1298 + 1), none), (n_1298, none)]) (env' := [(0, (.sl (List.map int1 row_784))), (1, nilS), (2, (int n_785)), (3, (int way_786)), (4, (.ms id_789 0 len_788)), (11, (int j_1297))]) (L' := [(id_789, (some (.cells 1 3 (List.map int1 out_1320))))]) rfl (hs_cons (hl_ne (j := id_789) (i := (n_1298 + 2)) (by omega) (hl_self _ _ _)) hs_nil) ?_)
          repeat refine SatL.seq ?_
          refine SatL.rege [some 35, some 36, some 11] rfl rfl fun K2023 hK2023 => ?_
          refine st (fun _ hk => s_mv (v := (int j_1297)) rfl hk) ?_
          refine st (fun _ hk => s_bin rfl rfl (b_add64 hk)) ?_
          refine st (fun _ hk => s_as (v := (int (w64 (j_1297 + 1)))) rfl hk) ?_
          refine aopsS_end (hK2023 _ ?_)
          have hw2027 : w64 (j_1297 + 1) = j_1297 + 1 := w64_id (by omega) (by omega)
          exact (thenN ⟨k0, ⟨out_1320, (w64 (j_1297 + 1)), (n_1298 + 3), (StLe.of [(id_789, (some (.cells 1 3 (List.map int1 out_1320))))] (n_1298 + 3) rfl (hs_cons (hl_self _ _ _) hs_nil) (Nat.le_refl _)), (by omega), (by first | exact (grd_inv hu_1321) | simp), (by omega), (by rw [hw2027]; omega), (Eq.mpr (congrArg (fun q_ => ref09_counted_m_L0 row_784 n_785 way_786 len_788 k0 out_1320 q_ = some o_1281) hw2027) H1)⟩, by omega⟩)
        ·
          replace H1 := iteF H1 hc1986
          refine SatL.skip ?_
          refine SatL.nil (blockN (thenN ?_))
          repeat refine SatL.seq ?_
          refine SatL.rege [some 35, some 36, some 11] rfl rfl fun K2028 hK2028 => ?_
          refine st (fun _ hk => s_mv (v := (int j_1297)) rfl hk) ?_
          refine st (fun _ hk => s_bin rfl rfl (b_add64 hk)) ?_
          refine st (fun _ hk => s_as (v := (int (w64 (j_1297 + 1)))) rfl hk) ?_
          refine aopsS_end (hK2028 _ ?_)
          have hw2032 : w64 (j_1297 + 1) = j_1297 + 1 := w64_id (by omega) (by omega)
          exact (thenN ⟨k0, ⟨out_1296, (w64 (j_1297 + 1)), n_1298, (StLe.of [(id_789, (some (.cells 1 3 (List.map int1 out_1296))))] n_1298 rfl (hs_cons (hl_self _ _ _) hs_nil) (Nat.le_refl _)), (by omega), (by first | exact hlenout_1296 | simp), (by omega), (by rw [hw2032]; omega), (Eq.mpr (congrArg (fun q_ => ref09_counted_m_L0 row_784 n_785 way_786 len_788 k0 out_1296 q_ = some o_1281) hw2032) H1)⟩, by omega⟩)

theorem ref09_Counted_PC {l_772 : (List (List Int))} {kind_773 : Int} {n_774 : Int} {r : (List Int)} (H0 : ref09_Counted l_772 kind_773 n_774 = some r) : PC Try.prog 58 [(.sl (List.map (sl1 int1) l_772)), (int kind_773), (int n_774)] (· = (.sl (List.map int1 r))) := by
  unfold ref09_Counted at H0
  refine PC.of_bodyL [(0, (.sl (List.map (sl1 int1) l_772))), (1, (int kind_773)), (2, (int n_774))] Try.func58 rfl rfl (Nat.le_of_ble_eq_true rfl) rfl fun O => ?_
  repeat refine SatL.seq ?_
  refine SatL.reg [0, 1, 2] [some 6] rfl rfl fun K1 hK1 => ?_
  refine st (fun _ hk => s_as (v := nilS) rfl hk) ?_
  refine aopsS_end (hK1 _ (SatL.norm (n := 0) (h := hl []) (env' := [(0, (.sl (List.map (sl1 int1) l_772))), (1, (int kind_773)), (2, (int n_774))]) (L' := []) rfl hs_refl ?_))
  repeat refine SatL.seq ?_
  refine SatL.reg [0, 1, 2, 7] [some 8, some 9, some 10, some 11, some 7] rfl rfl fun K3 hK3 => ?_
  refine st (fun _ hk => s_mv (v := (.sl (List.map (sl1 int1) l_772))) rfl hk) ?_
  refine aopsS_step fun _ hK => s_lenSl elem_38 rfl (fun hl5 => hK _ _ _ ?_)
  clear hK
  refine st (fun _ hk => s_bin rfl rfl (b_add64 hk)) ?_
  obtain ⟨x_775, hx_775, H0⟩ := bindS H0
  refine st (fun _ hk => s_mkT (n' := 1) (f := int1) elem_23 (zeroT zero_3 rfl) ⟨rfl, by decide⟩ rfl rfl hx_775 bytes1_3 rfl hk) ?_
  refine st (fun _ hk => s_as (v := (.ms 0 0 (List.length x_775))) rfl hk) ?_
  refine aopsS_end (hK3 _ (SatL.norm (n := 1) (h := hl [(0, (some (.cells 1 3 (List.map int1 x_775))))]) (env' := [(0, (.sl (List.map (sl1 int1) l_772))), (1, (int kind_773)), (2, (int n_774)), (7, (.ms 0 0 (List.length x_775)))]) (L' := [(0, (some (.cells 1 3 (List.map int1 x_775))))]) rfl hs_refl ?_))
  repeat refine SatL.seq ?_
  refine SatL.reg [7] [some 12, some 13, some 14, some 15, some 16, some 17, some 18] rfl rfl fun K9 hK9 => ?_
  refine st (fun _ hk => s_mv (v := (.sl (List.map (sl1 int1) l_772))) rfl hk) ?_
  refine st (fun _ hk => s_mv (v := (int kind_773)) rfl hk) ?_
  obtain ⟨e_776, he_776, H0⟩ := bindS H0
  refine st (fun _ hk => s_ixSl elem_38 rfl rfl he_776 cells_23 rfl (by decide) hk) ?_
  refine st (fun _ hk => s_load1 (c := (.sl (List.map int1 e_776))) agg_23 (d_fp rfl) rfl hk) ?_
  refine st (fun _ hk => s_mv (v := (int n_774)) rfl hk) ?_
  refine st (fun _ hk => s_mv (v := (.ms 0 0 (List.length x_775))) rfl hk) ?_
  obtain ⟨out_1322, hout_1322, H0⟩ := bindS H0
  refine aopsS_step fun _ hK => s_call (avs := [(.sl (List.map int1 e_776)), nilS, (int n_774), (int 1), (.ms 0 0 (List.length x_775))]) rfl rfl rfl (HC.mut (LE := [(0, (some (.cells 1 3 (List.map int1 x_775))))]) (L' := [(0, (some (.cells 1 3 (List.map int1 out_1322))))]) (L2 := [(0, (some (.cells 1 3 (List.map int1 out_1322))))]) (v := (.tp [])) [0] (hi_cons (by simp) (hl_self _ _ _) hi_nil) (by simp) (.free _ (Free.tpl FreeL.nil)) (OnL.cons (by simp) (ono_typed fr_int1) OnL.nil) (@ref09_counted_m_HC e_776 n_774 1 x_775 (List.length x_775) 0 1 rfl (by decide) _ hout_1322) (Rest.drop (by simp) Rest.nil) rfl (fun hF16 => (hK _ _ _ ?_)))
  clear hK
  refine aopsS_end (hK9 _ (SatL.norm (n := 1) (h := hl [(0, (some (.cells 1 3 (List.map int1 out_1322))))]) (env' := [(7, (.ms 0 0 (List.length x_775)))]) (L' := [(0, (some (.cells 1 3 (List.map int1 out_1322))))]) rfl hs_refl ?_))
  repeat refine SatL.seq ?_
  refine SatL.reg [6] [some 19, some 6] rfl rfl fun K18 hK18 => ?_
  refine st (fun _ hk => s_mv (v := (.ms 0 0 (List.length x_775))) rfl hk) ?_
  refine st (fun _ hk => s_as (v := (.ms 0 0 (List.length x_775))) rfl hk) ?_
  refine aopsS_end (hK18 _ (SatL.norm (n := 1) (h := hl [(0, (some (.cells 1 3 (List.map int1 out_1322))))]) (env' := [(6, (.ms 0 0 (List.length x_775)))]) (L' := [(0, (some (.cells 1 3 (List.map int1 out_1322))))]) rfl hs_refl ?_))
  obtain rfl := Option.some.inj H0
  exact SatL.ret (fnQ_snap [(0, (some (.cells 1 3 (List.map int1 out_1322))))] (.ms 0 0 (List.length x_775)) (.sl (List.map int1 out_1322)) rfl (Snap.msW (hl_self _ _ _) hF16 fr_int1) rfl)

theorem ref09_Chances_PC {l_655 : (List (List Int))} {kind_656 : Int} {n_657 : Int} {r : ((List Int) × Int)} (H0 : ref09_Chances l_655 kind_656 n_657 = some r) : PC Try.prog 25 [(.sl (List.map (sl1 int1) l_655)), (int kind_656), (int n_657)] (· = (.tp [(.sl (List.map int1 r.1)), (int r.2)])) := by
  unfold ref09_Chances at H0
  refine PC.of_bodyL [(0, (.sl (List.map (sl1 int1) l_655))), (1, (int kind_656)), (2, (int n_657))] Try.func25 rfl rfl (Nat.le_of_ble_eq_true rfl) rfl fun O => ?_
  repeat refine SatL.seq ?_
  refine SatL.reg [0, 1, 2] [some 6, some 7] rfl rfl fun K1 hK1 => ?_
  refine st (fun _ hk => s_as (v := nilS) rfl hk) ?_
  refine st (fun _ hk => s_as (v := (int 0)) rfl hk) ?_
  refine aopsS_end (hK1 _ (SatL.norm (n := 0) (h := hl []) (env' := [(0, (.sl (List.map (sl1 int1) l_655))), (1, (int kind_656)), (2, (int n_657))]) (L' := []) rfl hs_refl ?_))
  repeat refine SatL.seq ?_
  refine SatL.reg [0, 1, 2, 10] [some 8, some 9, some 10] rfl rfl fun K4 hK4 => ?_
  refine st (fun _ hk => s_mv (v := (.sl (List.map (sl1 int1) l_655))) rfl hk) ?_
  obtain ⟨r_769, hr_769, H0⟩ := bindS H0
  refine st (fun _ hk => s_call (avs := [(.sl (List.map (sl1 int1) l_655))]) rfl rfl rfl (PC.call1 (ref09_Table_PC hr_769) (FreeL.cons (Free.slm (fr_sl1 fr_int1)) FreeL.nil) hk)) ?_
  refine st (fun _ hk => s_not rfl hk) ?_
  refine aopsS_end (hK4 _ (SatL.norm (n := 0) (h := hl []) (env' := [(0, (.sl (List.map (sl1 int1) l_655))), (1, (int kind_656)), (2, (int n_657)), (10, (bool (!r_769)))]) (L' := []) rfl hs_refl ?_))
  repeat refine SatL.seq ?_
  refine SatL.condX rfl (fun hc8 => ?_) (fun hc8 => ?_)
  ·
    replace H0 := iteT H0 hc8
    repeat refine SatL.seq ?_
    refine SatL.reg [6, 7] [some 6, some 7] rfl rfl fun K9 hK9 => ?_
    refine st (fun _ hk => s_as (v := nilS) rfl hk) ?_
    refine st (fun _ hk => s_as (v := (int 8)) rfl hk) ?_
    refine aopsS_end (hK9 _ (SatL.norm (n := 0) (h := hl []) (env' := [(6, nilS), (7, (int 8))]) (L' := []) rfl hs_refl ?_))
    obtain rfl := Option.some.inj H0
    exact SatL.ret (fnQ_snap [] (.tp [nilS, (int 8)]) (.tp [(.sl []), (int 8)]) rfl (Snap.tpL (SnapL.cons Snap.nilS (SnapL.cons (Snap.free _ (.sc _)) SnapL.nil))) rfl)
  ·
    replace H0 := iteF H0 hc8
    refine SatL.skip ?_
    repeat refine SatL.seq ?_
    refine SatL.reg [0, 1, 2, 21] [some 11, some 12, some 13, some 14, some 15, some 16, some 17, some 18, some 19, some 20, some 21] rfl rfl fun K12 hK12 => ?_
    refine st (fun _ hk => s_mv (v := (int kind_656)) rfl hk) ?_
    refine st (fun _ hk => s_mv (v := (.sl (List.map (sl1 int1) l_655))) rfl hk) ?_
    refine aopsS_step fun _ hK => s_lenSl elem_38 rfl (fun hl15 => hK _ _ _ ?_)
    clear hK
    refine st (fun _ hk => s_bin rfl rfl (b_sub64 hk)) ?_
    obtain ⟨r_770, hr_770, H0⟩ := bindS H0
    refine st (fun _ hk => s_call (avs := [(int kind_656), (int 0), (int (w64 ((List.length l_655 : Int) - 1)))]) rfl rfl rfl (PC.call1 (ref09_within_PC hr_770) (FreeL.cons (.sc _) (FreeL.cons (.sc _) (FreeL.cons (.sc _) FreeL.nil))) hk)) ?_
    refine st (fun _ hk => s_not rfl hk) ?_
    refine st (fun _ hk => s_mv (v := (bool (!r_770))) rfl hk) ?_
    refine aopsS_split rfl _ rfl (fun g20 => ?_) (fun g20 => ?_)
    ·
      replace H0 := iteF H0 (by simpa using g20)
      refine sx (fun _ hk => s_mv (v := (int n_657)) rfl hk) ?_
      obtain ⟨r_771, hr_771, H0⟩ := bindS H0
      refine sg rfl rfl (fun _ hk => s_call (avs := [(int n_657), (int 1), (int 5)]) rfl rfl rfl (PC.call1 (ref09_within_PC hr_771) (FreeL.cons (.sc _) (FreeL.cons (.sc _) (FreeL.cons (.sc _) FreeL.nil))) hk)) ?_
      refine sg rfl rfl (fun _ hk => s_not rfl hk) ?_
      refine st (fun _ hk => s_pickF (v := (bool (!r_771))) rfl rfl hk) ?_
      refine aopsS_end (hK12 _ (SatL.norm (n := 0) (h := hl []) (env' := [(0, (.sl (List.map (sl1 int1) l_655))), (1, (int kind_656)), (2, (int n_657)), (21, (bool (!r_771)))]) (L' := []) rfl hs_refl ?_))
      repeat refine SatL.seq ?_
      refine SatL.condX rfl (fun hc25 => ?_) (fun hc25 => ?_)
      ·
        replace H0 := iteT H0 hc25
        repeat refine SatL.seq ?_
        refine SatL.reg [6, 7] [some 6, some 7] rfl rfl fun K26 hK26 => ?_
        refine st (fun _ hk => s_as (v := nilS) rfl hk) ?_
        refine st (fun _ hk => s_as (v := (int 2)) rfl hk) ?_
        refine aopsS_end (hK26 _ (SatL.norm (n := 0) (h := hl []) (env' := [(6, nilS), (7, (int 2))]) (L' := []) rfl hs_refl ?_))
        obtain rfl := Option.some.inj H0
        exact SatL.ret (fnQ_snap [] (.tp [nilS, (int 2)]) (.tp [(.sl []), (int 2)]) rfl (Snap.tpL (SnapL.cons Snap.nilS (SnapL.cons (Snap.free _ (.sc _)) SnapL.nil))) rfl)
      ·
        replace H0 := iteF H0 hc25
        refine SatL.skip ?_
        repeat refine SatL.seq ?_
        refine SatL.reg [6, 7] [some 22, some 23, some 24, some 25, some 6, some 7] rfl rfl fun K29 hK29 => ?_
        refine st (fun _ hk => s_mv (v := (.sl (List.map (sl1 int1) l_655))) rfl hk) ?_
        refine st (fun _ hk => s_mv (v := (int kind_656)) rfl hk) ?_
        refine st (fun _ hk => s_mv (v := (int n_657)) rfl hk) ?_
        obtain ⟨r_1323, hr_1323, H0⟩ := bindS H0
        refine st (fun _ hk => s_call (avs := [(.sl (List.map (sl1 int1) l_655)), (int kind_656), (int n_657)]) rfl rfl rfl (PC.call1 (ref09_Counted_PC hr_1323) (FreeL.cons (Free.slm (fr_sl1 fr_int1)) (FreeL.cons (.sc _) (FreeL.cons (.sc _) FreeL.nil))) hk)) ?_
        refine st (fun _ hk => s_as (v := (.sl (List.map int1 r_1323))) rfl hk) ?_
        refine st (fun _ hk => s_as (v := (int 0)) rfl hk) ?_
        refine aopsS_end (hK29 _ (SatL.norm (n := 0) (h := hl []) (env' := [(6, (.sl (List.map int1 r_1323))), (7, (int 0))]) (L' := []) rfl hs_refl ?_))
        obtain rfl := Option.some.inj H0
        exact SatL.ret (fnQ_snap [] (.tp [(.sl (List.map int1 r_1323)), (int 0)]) (.tp [(.sl (List.map int1 r_1323)), (int 0)]) rfl (Snap.tpL (SnapL.cons (Snap.free _ (Free.slm fr_int1)) (SnapL.cons (Snap.free _ (.sc _)) SnapL.nil))) rfl)
    ·
      replace H0 := iteT H0 (by simpa using g20)
      refine aopsS_off rfl rfl ?_
      refine aopsS_off rfl rfl ?_
      refine st (fun _ hk => s_pickT (v := (bool true)) rfl rfl hk) ?_
      refine aopsS_end (hK12 _ (SatL.norm (n := 0) (h := hl []) (env' := [(0, (.sl (List.map (sl1 int1) l_655))), (1, (int kind_656)), (2, (int n_657)), (21, (bool true))]) (L' := []) rfl hs_refl ?_))
      repeat refine SatL.seq ?_
      refine SatL.condT rfl rfl ?_
      repeat refine SatL.seq ?_
      refine SatL.reg [6, 7] [some 6, some 7] rfl rfl fun K37 hK37 => ?_
      refine st (fun _ hk => s_as (v := nilS) rfl hk) ?_
      refine st (fun _ hk => s_as (v := (int 2)) rfl hk) ?_
      refine aopsS_end (hK37 _ (SatL.norm (n := 0) (h := hl []) (env' := [(6, nilS), (7, (int 2))]) (L' := []) rfl hs_refl ?_))
      obtain rfl := Option.some.inj H0
      exact SatL.ret (fnQ_snap [] (.tp [nilS, (int 2)]) (.tp [(.sl []), (int 2)]) rfl (Snap.tpL (SnapL.cons Snap.nilS (SnapL.cons (Snap.free _ (.sc _)) SnapL.nil))) rfl)

end Go.Abs
